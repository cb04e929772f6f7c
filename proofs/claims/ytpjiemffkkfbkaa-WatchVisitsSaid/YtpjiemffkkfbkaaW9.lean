/- The walks of the propagator's New and Visits. -/
import Derived.Test.YtpjiemffkkfbkaaW8
namespace Go.Proofs.Ytpjiemffkkfbkaa
open Go.RowKit

/-- What is made is told by an owner of its own. -/
def NewWt (w : World) (ab tb n : Nat) (e : Ending) (w' : World) : Prop :=
  ∃ wb lb lvs pv p, e = .returned (.pointer (some ⟨wb, 0, none⟩)) ∧ WtAt w' p ab tb wb ⟨List.replicate (2 * n) [], [], 0, 0⟩ lb lvs pv ∧ Cl p w' ∧ New p w.heap.size ∧ Fr (fun _ => False) (fun _ => 0) (fun _ => 0) w w'

theorem Try.info116 : (Try.prog.info? 116).map (fun i => (i.zero, i.size, i.bytes)) = some (some (.slice none 0 0), 1, 24) := by kernel_rfl

theorem made_nil (n : Nat) : madeCells #[.slice none 0 0] (n * 1) = (List.replicate n (Value.slice none 0 0)).toArray := by
  apply Array.ext
  · simp [madeCells]
  · intro i h1 h2
    simp [madeCells, Nat.mod_one]

set_option maxRecDepth 100000 in
theorem newWatch (ab tb n : Nat) (w : World) (hn : n ≤ 100000) : Calls Try.prog 54 #[.pointer (some ⟨ab, 0, none⟩), .pointer (some ⟨tb, 0, none⟩), .int .i64 n] w (NewWt w ab tb n) := by
  obtain ⟨m, hm⟩ : ∃ m, m = 2 * n := ⟨_, rfl⟩
  have hmn : (2 * (n : Int)) = (m : Int) := by omega
  have hmb : m ≤ 200000 := by omega
  obtain ⟨i0, hi, hz0, hz1, hz2⟩ := info_parts Try.info116
  have hmk := run_make (P := Try.prog) w 87 116 i0 _ Try.underlying87 hi hz0 .i64 .i64 m m (by omega) (by omega) (by rw [hz2]; omega) (by omega)
  rw [hz1] at hmk
  simp only [Int.toNat_natCast, Value.cells] at hmk
  rw [made_nil] at hmk
  generalize hE : (List.replicate m (Value.slice none 0 0)).toArray = E at hmk
  clear hi hz0 hz1 hz2
  have HE := Lib.hid hE
  have HM := Lib.hid hm
  clear hE hm
  go_enter Try.func54, Try.ntmps54
  go_wp2
  go_ret
  have hs1 : (w.alloc (.cells E 116)).heap.size = w.heap.size + 1 := by simp
  refine ⟨w.heap.size + 1, w.heap.size, List.replicate m (.slice none 0 0), .slice none 0 0, fun k => if k = w.heap.size then 9 else if k = w.heap.size + 1 then 8 else 0, rfl, ?_, ?_, ?_, ?_⟩
  · rw [← HM.out]
    refine ⟨?_, ?_, ?_, ?_, by simp, by simpa using hmb, ?_, ORow.nil ..⟩
    · have h := heap_alloc_new (w.alloc (.cells E 116)) (.cells #[.pointer (some ⟨ab, 0, none⟩), .pointer (some ⟨tb, 0, none⟩), .slice (some ⟨w.heap.size, 0, none⟩) m m, .slice none 0 0, .int .i64 0, .int .i64 0] 89)
      rw [hs1] at h
      rw [h]; simp
    · simp
    · rw [heap_alloc_old _ _ (by simp), heap_alloc_new, ← HE.out]
    · simp
    · intro i v hv
      have h0 : v = .slice none 0 0 := by
        have := List.mem_of_getElem? hv
        exact List.eq_of_mem_replicate this
      subst h0
      have h1 : (List.replicate m ([] : List Wx)).getD i [] = [] := by
        rw [List.getD_eq_getElem?_getD, List.getElem?_replicate]; split <;> rfl
      simp only [h1]
      exact Row.nil ..
  · intro k hk
    simp at hk
    show ite _ _ _ = 0
    rw [if_neg (by omega), if_neg (by omega)]
  · intro k hk
    show ite _ _ _ = 0
    rw [if_neg (by omega), if_neg (by omega)]
  · exact (Fr.alloc0 _).trans (Fr.alloc0 _)

section
variable {o : Own} {ab tb wb lb : Nat} {lvs : List Value} {S : SS}
theorem visits_any (w : World) (h : Sys w o ab tb wb lb lvs S) :
    Calls Try.prog 28 #[.pointer (some ⟨wb, 0, none⟩)] w fun e w' => e = .returned (.int .i64 S.W.visits) ∧ w = w' := by
  have c5 := h.c5
  clear h
  go_enter Try.func28, Try.ntmps28
  go_wp2
  go_ret
  exact ⟨rfl, rfl⟩
end
end Go.Proofs.Ytpjiemffkkfbkaa
