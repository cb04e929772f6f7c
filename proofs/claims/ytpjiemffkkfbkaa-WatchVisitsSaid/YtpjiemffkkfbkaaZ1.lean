/- Rows: lists of uint16 opened. -/
import Derived.Test.YtpjiemffkkfbkaaZ0
import Derived.Test.YtpjiemffkkfbkaaK2
import Derived.ChangeSlices
namespace Go.Proofs.Ytpjiemffkkfbkaa
open Go.ChangeShapes Go.WideShapes Go.ChangeAt Go.RowKit Go.Joins Go.Deep

theorem cells43 : Try.prog.cellsOf 43 = 1 := by kernel_rfl

set_option maxRecDepth 100000 in
theorem u16s_open {H : Type} {enc : TypeId × Value → H} {W : World} {base : Nat} {v : Value} {d : DataW H} {p : List MemPlace}
    (hv : Value.okWide Try.prog W .any base 25 v) (h : DataW.Trod enc Try.prog W 0 (fun _ => true) true 25 v d p) : ∃ xs, InU16 W v xs := by
  obtain ⟨a0, len, cap, rfl⟩ := okWide_slice Try.underlying25 hv
  obtain ⟨fuel, hf⟩ := h
  rcases open_ints Try.underlying25 Try.underlying43 cells43 hf with ⟨hcs, _⟩ | ⟨a, len', cap', zs, hcs, _, hl, hm, hz, _, hc, hw⟩
  · simp [Value.cells] at hcs
    obtain ⟨rfl, rfl, rfl⟩ := hcs
    exact ⟨[], by simp, none, 0, rfl, Nat.le_refl _, by simp, by simp⟩
  · simp [Value.cells] at hcs
    obtain ⟨rfl, rfl, rfl⟩ := hcs
    simp at hz
    have hm2 : cap ≤ 9223372036854775807 := hm
    have hlt : (zs.take len).length = len := by rw [List.length_take]; omega
    refine ⟨zs.take len, by omega, some a, cap, by rw [hlt], by omega, fun x hx => ?_, fun j x hj => ⟨a, rfl, ?_⟩⟩
    · have := hw x (List.mem_of_mem_take hx)
      simp only [Lit.wf, Bool.and_eq_true, decide_eq_true_eq] at this
      have e1 : IntKind.u16.min = 0 := by decide
      have e2 : IntKind.u16.max = 65535 := by decide
      rw [e1, e2] at this
      exact this
    · have hjl := (List.getElem?_eq_some_iff.1 hj).1
      rw [hc j (by omega)]
      rw [List.getElem?_take, if_pos (by omega)] at hj
      rw [List.getD_eq_getElem?_getD, hj]; rfl
end Go.Proofs.Ytpjiemffkkfbkaa
