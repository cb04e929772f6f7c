/- The walks of the trail's New and Assignment. -/
import Derived.Test.YtpjiemffkkfbkaaT2
namespace Go.Proofs.Ytpjiemffkkfbkaa
open Go.RowKit

/-- What is made is told by an owner of its own. -/
def NewTr (w : World) (σ : TS) (e : Ending) (w' : World) : Prop :=
  ∃ tb p, e = .returned (.pointer (some ⟨tb, 0, none⟩)) ∧ Tr w' p tb σ ∧ Cl p w' ∧ New p w.heap.size ∧ Fr (fun _ => False) (fun _ => 0) (fun _ => 0) w w'

theorem Try.info97 : (Try.prog.info? 97).map (fun i => (i.zero, i.size, i.bytes)) = some (some (.agg #[.int .i64 0, .int .i64 0, .int .i64 0, .int .i64 0, .bool false]), 5, 40) := by kernel_rfl

theorem made_cells (n : Nat) : madeCells #[.int .i64 0, .int .i64 0, .int .i64 0, .int .i64 0, .bool false] (n * 5) = (encCells (List.replicate n Cell.zero)).toArray := by
  apply Array.ext
  · simp [madeCells, encCells_length]
  · intro i h1 h2
    have hi : i < n * 5 := by simpa [madeCells] using h1
    have hg := encCells_get (List.replicate n Cell.zero) (i / 5) (i % 5) (by simp; omega) (by omega)
    have e : i / 5 * 5 + i % 5 = i := by omega
    rw [e] at hg
    have hz : (List.replicate n Cell.zero).getD (i / 5) Cell.zero = Cell.zero := by
      rw [List.getD_eq_getElem?_getD, List.getElem?_replicate, if_pos (by omega)]; rfl
    rw [hz] at hg
    have h3 : (encCells (List.replicate n Cell.zero)).toArray[i] = (encCells (List.replicate n Cell.zero))[i]'(by rw [encCells_length]; simpa using hi) := by simp
    rw [h3]
    rw [List.getElem?_eq_getElem (by rw [encCells_length]; simpa using hi)] at hg
    have h4 : ∀ k, k < 5 → some ((#[.int .i64 0, .int .i64 0, .int .i64 0, .int .i64 0, .bool false] : Array Value)[k]!) = Cell.zero.vals[k]? := by
      intro k hk
      rcases (by omega : k = 0 ∨ k = 1 ∨ k = 2 ∨ k = 3 ∨ k = 4) with rfl | rfl | rfl | rfl | rfl <;> rfl
    rw [← h4 _ (by omega)] at hg
    simp only [Option.some.injEq] at hg
    rw [hg]
    simp [madeCells]

set_option maxRecDepth 100000 in
theorem newTrail (n : Nat) (w : World) (hn : n ≤ 100000) : Calls Try.prog 53 #[.int .i64 n] w (NewTr w (TS.empty n)) := by
  obtain ⟨i0, hi, hz0, hz1, hz2⟩ := info_parts Try.info97
  have hmk := run_make (P := Try.prog) w 91 97 i0 _ Try.underlying91 hi hz0 .i64 .i64 n n (by omega) (by omega) (by rw [hz2]; omega) (by omega)
  rw [hz1] at hmk
  simp only [Int.toNat_natCast, Value.cells] at hmk
  rw [made_cells] at hmk
  generalize hE : (encCells (List.replicate n Cell.zero)).toArray = E at hmk
  clear hi hz0 hz1 hz2
  have HE := Lib.hid hE
  clear hE
  go_enter Try.func53, Try.ntmps53
  go_wp2
  go_ret
  have hs1 : (w.alloc (.cells E 97)).heap.size = w.heap.size + 1 := by simp
  refine ⟨w.heap.size + 1, fun k => if k = w.heap.size then 2 else if k = w.heap.size + 1 then 1 else 0, rfl, ⟨w.heap.size, .slice none 0 0, .slice none 0 0, ⟨?_, TS.WF.empty hn⟩⟩, ?_, ?_, ?_⟩
  · refine ⟨by simpa [TS.empty] using hn, by simp [TS.empty], by simp [TS.empty], ?_, by simp, ?_, by simp, IntRow.nil .., IntRow.nil ..⟩
    · have h := heap_alloc_new (w.alloc (.cells E 97)) (.cells #[.slice (some ⟨w.heap.size, 0, none⟩) n n, .slice none 0 0, .slice none 0 0] 93)
      rw [hs1] at h
      rw [h]; simp [TS.empty]
    · rw [heap_alloc_old _ _ (by simp), heap_alloc_new, ← HE.out]; rfl
  · intro k hk
    simp at hk
    show ite _ _ _ = 0
    rw [if_neg (by omega), if_neg (by omega)]
  · intro k hk
    show ite _ _ _ = 0
    rw [if_neg (by omega), if_neg (by omega)]
  · exact (Fr.alloc0 _).trans (Fr.alloc0 _)
/-- A row of bools. -/
def BoolRow (w : World) (o : Own) (r : Nat) (v : Value) (xs : List Bool) : Prop := Row w o r 4 1 v xs.length (xs.map Value.bool)

theorem Try.info4 : (Try.prog.info? 4).map (fun i => (i.zero, i.size, i.bytes)) = some (some (.bool false), 1, 1) := by kernel_rfl

/-- What the assignment's loop keeps: i values are written. -/
structure AsgRel (w0 : World) (A : List Bool) (g : Nat) (n k : Nat) (i : Value) (wr : World) : Prop where
  hk : k ≤ n
  hi : i = .int .i64 ((n - k : Nat) : Int)
  row : ∃ p, BoolRow wr p 1 (.slice (some ⟨g, 0, none⟩) n n) (A.take (n - k) ++ List.replicate k false) ∧ Cl p wr ∧ New p w0.heap.size
  fr : Same w0 wr

def AsgPost (w : World) (A : List Bool) (e : Ending) (w' : World) : Prop :=
  ∃ v p, e = .returned v ∧ BoolRow w' p 1 v A ∧ Cl p w' ∧ New p w.heap.size ∧ Same w w'

theorem TrM.varAt {w : World} {o : Own} {tb : Nat} {σ : TS} {vb : Nat} {lv sv : Value} (h : TrM w o tb σ vb lv sv) {i : Nat} (hi : i < σ.vars.length) :
    w.cell? ⟨vb, i * 5, none⟩ = some (.int .i64 (σ.vars.getD i Cell.zero).v) ∧ w.cell? ⟨vb, i * 5 + 1, none⟩ = some (.int .i64 (σ.vars.getD i Cell.zero).lv) ∧
    w.cell? ⟨vb, i * 5 + 2, none⟩ = some (.int .i64 (σ.vars.getD i Cell.zero).rs) ∧ w.cell? ⟨vb, i * 5 + 3, none⟩ = some (.int .i64 (σ.vars.getD i Cell.zero).pl) ∧
    w.cell? ⟨vb, i * 5 + 4, none⟩ = some (.bool (σ.vars.getD i Cell.zero).ph) := by
  have e : vi ((i : Int) + 1) = i := by unfold vi; omega
  have hok : σ.ok ((i : Int) + 1) = true := by unfold TS.ok; rw [litIn_iff]; omega
  have := h.cell hok
  unfold TS.get at this
  rw [e] at this
  exact this

theorem take_rep_set (A : List Bool) (i k : Nat) (h : i < A.length) (b : Bool) (hb : A[i]? = some b) :
    (A.take i ++ List.replicate (k + 1) false).set i b = A.take (i + 1) ++ List.replicate k false := by
  rw [List.set_append_right _ _ (by simp; omega)]
  have e : i - (A.take i).length = 0 := by simp; omega
  rw [e, List.replicate_succ, List.set_cons_zero, List.take_add_one, hb]
  simp

theorem AsgRel.step {w0 wr : World} {A : List Bool} {g n k i : Nat} {p : Own} {X : Obj} {b : Bool} {idx : Value} (hA : A[i]? = some b) (hi : i = n - (k + 1)) (hk : k + 1 ≤ n) (hlen : A.length = n)
    (hrow : BoolRow wr p 1 (.slice (some ⟨g, 0, none⟩) n n) (A.take (n - (k + 1)) ++ List.replicate (k + 1) false)) (hcp : Cl p wr) (hnew : New p w0.heap.size) (hfr : Same w0 wr)
    (hidx : idx = .int .i64 ((i : Int) + 1)) : AsgRel w0 A g n k idx ((wr.setCell ⟨g, i, none⟩ (.bool b)).alloc X) := by
  subst hi
  have hg : p g = 1 := hrow.2 g rfl
  have hfr2 : Fr (fun r => r = 1) p p wr ((wr.setCell ⟨g, n - (k + 1), none⟩ (.bool b)).alloc X) := (Fr.setCell _ _ hg).trans (Fr.alloc0 X)
  refine ⟨by omega, by rw [hidx]; congr 1; omega, ⟨p, ?_, (hcp.setCell _ _).alloc0 _, hnew⟩, hfr.thenNew hfr2 hnew (by decide)⟩
  have hnl : (A.take (n - (k + 1)) ++ List.replicate (k + 1) false).length = n := by simp; omega
  have h2 : Row wr p 1 4 1 (.slice (some ⟨g, 0, none⟩) n n) n ((A.take (n - (k + 1)) ++ List.replicate (k + 1) false).map Value.bool) := by rw [BoolRow, hnl] at hrow; exact hrow
  have h3 := Row.set h2 (n - (k + 1)) (.bool b)
  rw [← List.map_set, take_rep_set A _ k (by omega) b hA] at h3
  have e : n - (k + 1) + 1 = n - k := by omega
  rw [e] at h3
  have hnl2 : (A.take (n - k) ++ List.replicate k false).length = n := by simp; omega
  unfold BoolRow
  rw [hnl2]; exact h3.keeps (S := fun _ => False) (Fr.alloc0 X) id

set_option maxHeartbeats 1000000 in
set_option maxRecDepth 100000 in
theorem assignment_any {o : Own} {tb : Nat} {σ : TS} {vb : Nat} {lv sv : Value} (w : World) (h : TrAt w o tb σ vb lv sv) (_hcl : Cl o w) :
    Calls Try.prog 32 #[.pointer (some ⟨tb, 0, none⟩)] w (AsgPost w σ.assignment) := by
  have hn := h.nle
  have c0 := h.c0
  obtain ⟨i0, hi, hz0, hz1, hz2⟩ := info_parts Try.info4
  have hmk := run_make (P := Try.prog) w 55 4 i0 _ Try.underlying55 hi hz0 .i64 .i64 σ.vars.length σ.vars.length (by omega) (by omega) (by rw [hz2]; omega) (by omega)
  rw [hz1] at hmk
  simp only [Int.toNat_natCast, Value.cells, Nat.mul_one] at hmk
  clear hi hz0 hz1 hz2
  have H := Lib.hid h
  have htb : tb < w.heap.size := (Array.getElem?_eq_some_iff.1 h.head).1
  clear h
  generalize hL : σ.vars.length = n at *
  have HL := Lib.hid hL
  clear hL
  generalize hE : madeCells #[Value.bool false] n = E at hmk
  have HE := Lib.hid hE
  clear hE
  go_enter Try.func32, Try.ntmps32
  go_wp2
  go_loopg [4, 5, 17] (n) (fun k _ _ i wr => AsgRel w σ.assignment w.heap.size n k i wr)
  case atStart =>
    refine ⟨Nat.le_refl _, by simp, ⟨fun k => if k = w.heap.size then 1 else 0, ?_, ?_, ?_⟩, Fr.alloc0 _⟩
    · have e : (σ.assignment.take (n - n) ++ List.replicate n false) = List.replicate n false := by simp
      rw [e]
      refine ⟨⟨by simp, .inr ⟨w.heap.size, n, E, by simp, Nat.zero_le _, heap_alloc_new w _, by simp, by unfold maxLen; omega, ?_, ?_⟩⟩, fun g hg => ?_⟩
      · rw [← HE.out]; simp [madeCells]
      · rw [← HE.out]
        simp only [List.length_replicate, Nat.mul_one]
        rw [List.take_of_length_le (by simp [madeCells])]
        apply List.ext_getElem
        · simp [madeCells]
        · intro j h1 h2; simp [madeCells, Nat.mod_one]
      · simp only [Value.ownBlock, Option.some.injEq] at hg; simp [← hg]
    · intro k hk
      simp at hk
      show ite _ _ _ = 0
      rw [if_neg (by omega)]
    · intro k hk
      show ite _ _ _ = 0
      rw [if_neg (by omega)]
  case round =>
    obtain ⟨hk, rfl, ⟨p, hrow, hcp, hnew⟩, hfr⟩ := hrel
    have tr := H.out.keeps (hfr.any (fun _ => False) o) ⟨id, id, id, id⟩
    have hsz := hfr.size
    have HROW := Lib.hid hrow
    have HCP := Lib.hid hcp
    have HNEW := Lib.hid hnew
    have HFR := Lib.hid hfr
    clear hrow hcp hnew hfr
    by_cases h0 : gk = 0
    · subst h0
      clear tr
      simp only [Nat.sub_zero]
      go_wp2
      go_ret
      have hr := HROW.out
      simp only [Nat.sub_zero, List.replicate_zero, List.append_nil] at hr
      rw [List.take_of_length_le (by simp [TS.assignment, HL.out])] at hr
      exact ⟨_, p, rfl, hr, HCP.out, HNEW.out, HFR.out⟩
    · obtain ⟨i, hi⟩ : ∃ i, i = n - gk := ⟨_, rfl⟩
      obtain ⟨k', rfl⟩ : ∃ k', gk = k' + 1 := ⟨gk - 1, by omega⟩
      rw [← hi]
      have hin : i < n := by omega
      have hro := HROW.out
      rw [← hi] at hro
      obtain ⟨g', cap', hge, hcap, hpo, hgl, hcc, hff⟩ := Row.block hro (by simp [TS.assignment, HL.out]; omega)
      simp only [Value.slice.injEq, Option.some.injEq, Addr.mk.injEq, and_true] at hge
      obtain ⟨rfl, -, -⟩ := hge
      have hc := hcc i (by simp [TS.assignment, HL.out]; omega)
      have hc2 : wr.cell? ⟨w.heap.size, i, none⟩ = some (.bool false) := by
        rw [hc, List.getElem?_map, List.getElem?_append_right (by simp; omega)]
        simp [TS.assignment, HL.out, Nat.min_eq_left (Nat.le_of_lt hin)]
      have hf2 := hff i
      have HPO := Lib.hid hpo
      have HI := Lib.hid hi
      clear hi hro hcap hc hcc hff hpo
      have hA : σ.assignment[i]? = some ((σ.vars.getD i Cell.zero).v == 1 || (σ.vars.getD i Cell.zero).v == 0 && (σ.vars.getD i Cell.zero).ph) := by
        have hl := HL.out
        simp only [TS.assignment, List.getElem?_map]
        rw [List.getElem?_eq_getElem (by omega), List.getD_eq_getElem?_getD, List.getElem?_eq_getElem (by omega)]; rfl
      obtain ⟨v0, v1, v2, v3, v4⟩ := tr.varAt (i := i) (by rw [HL.out]; exact hin)
      have hvv := tr.wf.vals ((σ.vars.getD i Cell.zero)) (by
        have hl := HL.out
        rw [List.getD_eq_getElem?_getD, List.getElem?_eq_getElem (by omega)]; exact List.getElem_mem _)
      clear tr
      generalize (σ.vars.getD i Cell.zero) = c at *
      have HA := Lib.hid hA
      clear hA
      cases c with | mk cv clv crs cpl cph =>
      simp only at *
      rcases hvv with rfl | rfl | rfl
      all_goals
        go_wp2
        go_roundg k'
        case measure => omega
        case rel =>
          refine AsgRel.step ?_ HI.out hk (by simp [TS.assignment, HL.out]) HROW.out HCP.out HNEW.out HFR.out rfl
          have := HA.out
          simpa using this
end Go.Proofs.Ytpjiemffkkfbkaa
