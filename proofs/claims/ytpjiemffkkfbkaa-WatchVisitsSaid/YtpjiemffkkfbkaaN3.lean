/- slices.SortFunc over literals, by the kit's contract. -/
import Derived.Test.YtpjiemffkkfbkaaN2
import Derived.Test.YtpjiemffkkfbkaaPA
namespace Go.Proofs.Ytpjiemffkkfbkaa
open Go.RowKit Go.Shelf Go.Sort

/-- A literal that has a place. -/
abbrev Lt : Type := { x : Int // x ≠ 0 ∧ -100000 ≤ x ∧ x ≤ 100000 }
instance : Inhabited Lt := ⟨⟨1, by decide⟩⟩
def Lt.enc (x : Lt) : Value := .int .i64 x.1
def Lt.cmp (x y : Lt) : Int := cmpI (ix x.1) (ix y.1)

theorem Lt.cmpReads (blk off size : Nat) (w : World) : CmpReads Try.prog 89 #[] Lt.enc Lt.cmp blk off size w :=
  fun _ _ _ _ x y => (litCompare_any x.1 y.1 _ x.2 y.2).mono fun _ _ ⟨he, hw⟩ => ⟨he, 0, hw.symm⟩

theorem Lt.lt (x y : Lt) : ltOf Lt.cmp x y = decide (ix x.1 < ix y.1) := by
  unfold ltOf Lt.cmp cmpI
  by_cases h1 : (ix x.1 : Int) < ix y.1
  · have : ix x.1 < ix y.1 := by omega
    simp [h1, this]
  · have : ¬ ix x.1 < ix y.1 := by omega
    by_cases h2 : (ix y.1 : Int) < ix x.1 <;> simp [h1, h2, this]
theorem Lt.swo : SWO (ltOf Lt.cmp) where
  irrefl x := by rw [Lt.lt]; simp
  trans x y z h1 h2 := by rw [Lt.lt] at *; simp at *; omega
  ntrans x y z h1 h2 := by rw [Lt.lt] at *; simp at *; omega

def lits (d : Array Lt) : List Int := d.toList.map Subtype.val

/-- A row that is written over by as many literals. -/
theorem putRow_row {w : World} {p : Own} {r g cap : Nat} {L : List Int} {d : Array Lt} (h : IntRow w p r (.slice (some ⟨g, 0, none⟩) L.length cap) L) (hd : d.size = L.length) :
    IntRow (putRow Lt.enc w g 0 d) p r (.slice (some ⟨g, 0, none⟩) L.length cap) (lits d) ∧ Fr (fun k => k = r) p p w (putRow Lt.enc w g 0 d) := by
  have hlen : (lits d).length = L.length := by simp [lits, hd]
  rcases h.1.2 with ⟨h', _⟩ | ⟨g', cap', cur, h', hb, hg, hc, hm, hs, ht⟩
  · simp at h'
  simp only [Value.slice.injEq, Option.some.injEq, Addr.mk.injEq, and_true, true_and] at h'
  obtain ⟨rfl, rfl⟩ := h'
  have hgg : (putRow Lt.enc w g 0 d).heap[g]? = some (.cells (putCells Lt.enc 0 d cur) 3 (0, 0)) := by
    unfold putRow mapBlock
    simp only [Array.getElem?_modify, if_true, hg, Option.map_some, onCells]
  refine ⟨?_, ?_⟩
  · unfold IntRow
    rw [hlen]
    refine ⟨⟨by simp [hlen], .inr ⟨g, cap, _, rfl, hb, hgg, hc, hm, by simpa [putCells] using hs, ?_⟩⟩, fun k hk => h.2 k hk⟩
    apply List.ext_getElem?
    intro j
    by_cases hj : j < L.length
    · have hjc : j < cur.size := by rw [hs]; omega
      rw [List.getElem?_take, if_pos (by omega)]
      simp [putCells, lits, hjc, hd, hj, Lt.enc]
    · rw [List.getElem?_eq_none (by simp; omega), List.getElem?_eq_none (by simp [hlen]; omega)]
  · refine ⟨rfl, rfl, rfl, by simp, fun _ _ => rfl, fun k hk hn => ?_⟩
    have hne : g ≠ k := by intro e; exact hn (by rw [← e]; exact h.2 g rfl)
    unfold putRow mapBlock
    simp only [Array.getElem?_modify, if_neg hne]

/-- What sorting leaves. -/
def SortPost (p : Own) (r g cap : Nat) (L : List Int) (w w' : World) : Prop :=
  ∃ L', L'.Perm L ∧ L'.Pairwise (fun a b => ix a ≤ ix b) ∧ IntRow w' p r (.slice (some ⟨g, 0, none⟩) L'.length cap) L' ∧ Fr (fun k => k = r) p p w w'

theorem lits_get (d : Array Lt) (i : Nat) (hi : i < d.size) : (lits d)[i]? = some d[i].1 := by
  simp [lits, hi]

theorem lits_of (L : List Int) (hb : ∀ l ∈ L, l ≠ 0 ∧ -100000 ≤ l ∧ l ≤ 100000) : ∃ d : Array Lt, lits d = L := by
  induction L with
  | nil => exact ⟨#[], rfl⟩
  | cons a L ih =>
    obtain ⟨d, hd⟩ := ih (fun l hl => hb l (by simp [hl]))
    exact ⟨(⟨a, hb a (by simp)⟩ :: d.toList).toArray, by simp only [lits] at hd ⊢; simp [hd]⟩

theorem sortFunc_any (L : List Int) {p : Own} {r g cap : Nat} (w : World) (h : IntRow w p r (.slice (some ⟨g, 0, none⟩) L.length cap) L) (hb : ∀ l ∈ L, l ≠ 0 ∧ -100000 ≤ l ∧ l ≤ 100000) (h12 : L.length ≤ 12) :
    Calls Try.prog 88 #[.slice (some ⟨g, 0, none⟩) L.length cap, .func (.func 89) #[] #[]] w fun e w' => e = .returned (.tuple #[]) ∧ SortPost p r g cap L w w' := by
  obtain ⟨d, rfl⟩ := lits_of L hb
  have hsz : (lits d).length = d.size := by simp [lits]
  have eg : ∀ args w, (callFunc 89 args).run Try.prog w = .ok (.enter 89 args) w := enters_of Try.func89 (by kernel_rfl) rfl
  have hH : Holds Lt.enc w g 0 d := by
    intro j hj
    obtain ⟨g', cap', e, _, _, _, h1, h2⟩ := Row.block h (by omega)
    simp only [Value.slice.injEq, Option.some.injEq, Addr.mk.injEq, and_true] at e
    obtain ⟨rfl, _⟩ := e
    rw [Nat.zero_add]
    refine ⟨?_, h2 j⟩
    rw [h1 j (by omega), List.getElem?_map, lits_get d j hj]
    simp [Lt.enc, getElem!_pos, hj]
  have hc := Any.slices_SortFunc_small_sorted Try.laysSort Lt.enc (fun _ => rfl) Lt.cmp Lt.swo 89 #[] g 0 cap d w eg (Lt.cmpReads g 0 d.size w) hH (by omega)
    (fun n W hn => (bitsLen_small n hn W).mono fun _ _ ⟨he, hw⟩ => ⟨he, hw.symm⟩)
  rw [hsz]
  refine Calls.mono (P := Try.prog) hc ?_
  rintro e w' ⟨he, d', n, ⟨hp1, hp2, hp3⟩, hso, rfl⟩
  refine ⟨he, lits d', ?_, ?_, ?_⟩
  · have e1 : d'.extract 0 d.size = d' := by rw [← hp1]; simp
    have e2 : d.extract 0 d.size = d := by simp
    rw [e1, e2] at hp3
    exact hp3.map _
  · rw [List.pairwise_iff_getElem]
    intro i j hi hj hij
    have hi' : i < d'.size := by simpa [lits] using hi
    have hj' : j < d'.size := by simpa [lits] using hj
    have := hso i j (Nat.zero_le _) hij (by omega)
    rw [Lt.lt] at this
    simp [getElem!_pos, hi', hj'] at this
    simpa [lits] using this
  · have hrow := putRow_row h (d := d') (by rw [hsz]; exact hp1)
    have hl : (lits d').length = (lits d).length := by simp [lits, hp1]
    rw [hl]
    exact ⟨hrow.1.sm ⟨n, rfl⟩, hrow.2.trans (Fr.sm ⟨n, rfl⟩)⟩
end Go.Proofs.Ytpjiemffkkfbkaa
