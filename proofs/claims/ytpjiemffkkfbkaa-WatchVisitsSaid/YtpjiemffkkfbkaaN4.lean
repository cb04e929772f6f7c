/- slices.Compact by the kit's contract. -/
import Derived.Test.YtpjiemffkkfbkaaN3
import Derived.Shelf.Slices.CompactI
namespace Go.Proofs.Ytpjiemffkkfbkaa
open Go.RowKit Go.Shelf Go.Sort

def Try.renCompact : Ren := ⟨fun n => if n = 20 then 90 else n, fun t => if t = 22 then 32 else t, fun x => x⟩

theorem Try.laysCompact : Lays2.n20 Try.prog Try.renCompact where
  mixed := by kernel_rfl
  f20 := by kernel_rfl
  t0 := by kernel_rfl
  a0 := fun _ => by kernel_rfl
  z0 := fun _ => by kernel_rfl
  v0 := fun _ => by kernel_rfl
  t3 := by kernel_rfl
  a3 := fun _ => by kernel_rfl
  z3 := fun _ => by kernel_rfl
  v3 := fun _ => by kernel_rfl
  t4 := by kernel_rfl
  a4 := fun _ => by kernel_rfl
  z4 := fun _ => by kernel_rfl
  v4 := fun _ => by kernel_rfl
  t22 := by kernel_rfl
  a22 := fun _ => by kernel_rfl
  z22 := fun _ => by kernel_rfl
  v22 := fun _ => by kernel_rfl
  i3 := by kernel_rfl

/-- A row that is written over by as many numbers. -/
theorem putInts_row {w : World} {p : Own} {r g cap : Nat} {L : List Int} {d : Array Int} (h : IntRow w p r (.slice (some ⟨g, 0, none⟩) L.length cap) L) (hd : d.size = L.length) :
    IntRow (putRow (Value.int .i64) w g 0 d) p r (.slice (some ⟨g, 0, none⟩) L.length cap) d.toList ∧ Fr (fun k => k = r) p p w (putRow (Value.int .i64) w g 0 d) := by
  have hlen : d.toList.length = L.length := by simp [hd]
  rcases h.1.2 with ⟨h', _⟩ | ⟨g', cap', cur, h', hb, hg, hc, hm, hs, ht⟩
  · simp at h'
  simp only [Value.slice.injEq, Option.some.injEq, Addr.mk.injEq, and_true, true_and] at h'
  obtain ⟨rfl, rfl⟩ := h'
  have hgg : (putRow (Value.int .i64) w g 0 d).heap[g]? = some (.cells (putCells (Value.int .i64) 0 d cur) 3 (0, 0)) := by
    unfold putRow mapBlock
    simp only [Array.getElem?_modify, if_true, hg, Option.map_some, onCells]
  refine ⟨?_, ?_⟩
  · unfold IntRow
    rw [hlen]
    refine ⟨⟨by simp [hd], .inr ⟨g, cap, _, rfl, hb, hgg, hc, hm, by simpa [putCells] using hs, ?_⟩⟩, fun k hk => h.2 k hk⟩
    apply List.ext_getElem?
    intro j
    by_cases hj : j < L.length
    · have hjc : j < cur.size := by rw [hs]; omega
      rw [List.getElem?_take, if_pos (by omega)]
      simp [putCells, hjc, hd, hj]
    · rw [List.getElem?_eq_none (by simp; omega), List.getElem?_eq_none (by simp [hd]; omega)]
  · refine ⟨rfl, rfl, rfl, by simp, fun _ _ => rfl, fun k hk hn => ?_⟩
    have hne : g ≠ k := by intro e; exact hn (by rw [← e]; exact h.2 g rfl)
    unfold putRow mapBlock
    simp only [Array.getElem?_modify, if_neg hne]

theorem compact_any (L : List Int) {p : Own} {r g cap : Nat} (w : World) (h : IntRow w p r (.slice (some ⟨g, 0, none⟩) L.length cap) L) (hL : L.length ≤ 1000000000) (hle : (Lib.compact L).length ≤ L.length) :
    Calls Try.prog 90 #[.slice (some ⟨g, 0, none⟩) L.length cap] w fun e w' => e = .returned (.slice (some ⟨g, 0, none⟩) (Lib.compact L).length cap) ∧ IntRow w' p r (.slice (some ⟨g, 0, none⟩) (Lib.compact L).length cap) (Lib.compact L) ∧ Fr (fun k => k = r) p p w w' := by
  by_cases h0 : L.length = 0
  · have hn : L = [] := List.eq_nil_of_length_eq_zero h0
    subst hn
    have hc := Any.slices_Compact_int_empty Try.laysCompact (some ⟨g, 0, none⟩) cap w
    refine Calls.mono (P := Try.prog) hc ?_
    rintro e w' ⟨rfl, rfl⟩
    exact ⟨rfl, h, Fr.refl _ _ _⟩
  · obtain ⟨g', cap', e, hcap, _, _, h1, h2⟩ := Row.block h (by omega)
    simp only [Value.slice.injEq, Option.some.injEq, Addr.mk.injEq, and_true] at e
    obtain ⟨rfl, _, rfl⟩ := e
    have hH : Holds (Value.int .i64) w g 0 L.toArray := by
      intro j hj
      have hj' : j < L.length := by simpa using hj
      rw [Nat.zero_add]
      refine ⟨?_, h2 j⟩
      rw [h1 j (by omega), List.getElem?_map, List.getElem?_eq_getElem hj']
      simp [getElem!_pos, hj']
    have hc := Any.slices_Compact_int Try.laysCompact g 0 cap L w hH (by omega) hcap
    refine Calls.mono (P := Try.prog) hc ?_
    rintro e w' ⟨rfl, q, rfl⟩
    have hs := IntRow.sm h (w' := Sort.ahead w q) ⟨q, rfl⟩
    have hrow := putInts_row hs (d := (Lib.compact L ++ List.replicate (L.length - (Lib.compact L).length) 0).toArray) (by simp; omega)
    refine ⟨rfl, ?_, (Fr.sm ⟨q, rfl⟩).trans hrow.2⟩
    have hl : (Lib.compact L ++ List.replicate (L.length - (Lib.compact L).length) (0 : Int)).length = L.length := by simp; omega
    have ht := IntRow.take (xs := Lib.compact L ++ List.replicate (L.length - (Lib.compact L).length) (0 : Int)) (by rw [hl]; exact hrow.1) (Lib.compact L).length (by simp)
    simpa using ht
end Go.Proofs.Ytpjiemffkkfbkaa
