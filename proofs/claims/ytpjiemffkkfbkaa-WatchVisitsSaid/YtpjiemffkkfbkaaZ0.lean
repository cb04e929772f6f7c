/- Rows: the arguments opened. -/
import Derived.Test.YtpjiemffkkfbkaaRows
import Derived.Test.YtpjiemffkkfbkaaL0
import Derived.WalkKit
import Derived.ProofKit
import Derived.OpenShut
import Derived.ShutString
import Derived.ChangeOld
import Derived.Below
import Derived.SizedLaws
import Derived.Lib.SmallJoins
import Derived.Deep.Matrix
namespace Go.Proofs.Ytpjiemffkkfbkaa
open Go.ChangeShapes Go.WideShapes Go.ChangeAt Go.RowKit Go.Joins Go.Deep

theorem rowOwn : ownKnob Try.prog.godebug = none := by kernel_rfl
theorem laidOut : laidOutB Try.prog = true := by kernel_rfl
theorem cells24 : Try.prog.cellsOf 24 = 2 := by kernel_rfl
theorem cells78 : Try.prog.cellsOf 78 = 1 := by kernel_rfl
theorem cells79 : Try.prog.cellsOf 79 = 1 := by kernel_rfl
theorem bytes79 : Try.prog.bytesOf 79 = 2 := by kernel_rfl
theorem bytes78 : Try.prog.bytesOf 78 = 24 := by kernel_rfl

theorem below_of_same {w w' : World} (h : Same w w') : Below w.heap.size w w' := ⟨h.os, h.tape, h.output, h.size, fun k hk => h.block k hk id⟩

theorem mem_weightsAll {H : Type} {P : Program} {e : TypeId} : ∀ {l : List (DataW H)} {d : DataW H}, d ∈ l → ∀ n ∈ d.weights P e, n ∈ DataW.weightsAll P e l := by
  intro l
  induction l with
  | nil => intro d h; simp at h
  | cons a l ih =>
    intro d h n hn
    simp only [DataW.weightsAll, List.mem_append]
    rcases List.mem_cons.1 h with rfl | h
    · exact .inl hn
    · exact .inr (ih h n hn)

set_option maxRecDepth 100000 in
/-- A Raw that came in. -/
theorem raw_open {H : Type} {enc : TypeId × Value → H} {W : World} {base : Nat} {v : Value} {d : DataW H} {p : List MemPlace} {ts : List TypeId} {ds : List (DataW H)} {j : Nat}
    (hv : Value.okWide Try.prog W .any base 24 v) (h : DataW.Trod enc Try.prog W 0 (fun _ => true) true 24 v d p)
    (hsz : (DataW.weightsEach Try.prog ts ds).all (· ≤ reachBytes) = true) (ht : ts[j]? = some 24) (hd : ds[j]? = some d) :
    ∃ (n : Nat) (u : Value) (L : List (List Int)), v = .agg #[.int .u8 n, u] ∧ n < 256 ∧ InRaw W u L := by
  obtain ⟨c0, c1, y0, y1, m, rfl, rfl, rfl, hy0, hy1⟩ := open_agg2 Try.underlying24 (by kernel_rfl) cells24 hv h
  obtain ⟨a, e0, rfl, wa⟩ := DataW.trod_int Try.underlying5 hy0
  simp at e0
  subst e0
  have hn : 0 ≤ a ∧ a < 256 := by
    simp only [Lit.wf, Bool.and_eq_true, decide_eq_true_eq] at wa
    have e1 : IntKind.u8.min = 0 := by decide
    have e2 : IntKind.u8.max = 255 := by decide
    rw [e1, e2] at wa
    omega
  have hmem := fun n => DataW.weights_mem_each (P := Try.prog) ht hd n
  have hw : ∀ n, n ∈ DataW.weights Try.prog 24 (.agg [(DataW.lit (.int .u8 a) : DataW H), y1.1]) → n ≤ reachBytes := by
    intro n hn
    have := List.all_eq_true.1 hsz n (hmem n hn)
    simpa using this
  have hw22 : ∀ n, n ∈ DataW.weights Try.prog 22 y1.1 → n ≤ reachBytes := by
    intro n hn
    refine hw n ?_
    simp only [DataW.weights, Try.underlying24]
    simp [DataW.weightsEach, DataW.weights]
    exact hn
  obtain ⟨a', rfl⟩ : ∃ a' : Nat, a = a' := ⟨a.toNat, by omega⟩
  rcases open_int_rows Try.underlying22 Try.underlying78 Try.underlying79 cells78 cells79 hy1 with ⟨hcs, rfl⟩ | ⟨ad, len, cap, A, L, C, Z, hcs, _, hl, hm, rfl, hr⟩
  · simp at hcs
    subst hcs
    exact ⟨a', _, [], rfl, by omega, by simp, none, 0, rfl, Nat.le_refl _, by intro j c hj; simp at hj⟩
  · simp at hcs
    subst hcs
    simp only at hw22
    have hlen : len * 24 ≤ 140737488351232 := by
      have := hw22 ((len + (cap - len)) * Try.prog.bytesOf 78) (by simp [DataW.weights, Try.underlying22])
      rw [bytes78] at this
      unfold reachBytes at this
      have h2 : (len + (cap - len)) * 24 ≤ 140737488351232 := this
      omega
    refine ⟨a', _, (List.range len).map fun r => (Z r).take (L r), rfl, by omega, by simp; omega, some ad, cap, by simp, by simpa using hl, fun j c hj => ?_⟩
    rw [List.getElem?_map, Option.map_eq_some_iff] at hj
    obtain ⟨r, hr1, rfl⟩ := hj
    have hjl := (List.getElem?_eq_some_iff.1 hr1).1
    rw [List.length_range] at hjl
    rw [List.getElem?_range hjl] at hr1
    have hrj : j = r := Option.some.inj hr1
    subst hrj
    obtain ⟨r1, r2, r3, r4, r5, r6, r7⟩ := hr j (by omega)
    have hzl : ((Z j).take (L j)).length = L j := by rw [List.length_take, r4]; omega
    refine ⟨ad, _, rfl, r1, ?_, A j, C j, by rw [hzl], by rw [hzl]; exact r2, ?_, ?_⟩
    · rw [hzl]
      cases hA : A j with
      | none => have := r6 hA; omega
      | some a2 =>
        have := hw22 ((L j + (C j - L j)) * Try.prog.bytesOf 79) (by
          simp only [DataW.weights, Try.underlying22, List.mem_cons, List.mem_append]
          refine .inr (.inl (mem_weightsAll (d := intRow .i16 (A j) (L j) (Z j)) (List.mem_map.2 ⟨j, by simp [hjl], rfl⟩) _ ?_))
          rw [hA]
          simp [intRow, DataW.weights, Try.underlying78, ChangeShapes.lits, r4, Nat.min_eq_left r2])
        rw [bytes79] at this
        unfold reachBytes at this
        have h2 : (L j + (C j - L j)) * 2 ≤ 140737488351232 := this
        omega
    · intro x hx
      have := r5 x (List.mem_of_mem_take hx)
      simp only [Lit.wf, Bool.and_eq_true, decide_eq_true_eq] at this
      have e1 : IntKind.i16.min = -32768 := by decide
      have e2 : IntKind.i16.max = 32767 := by decide
      rw [e1, e2] at this
      exact this
    · intro i x hx
      have hil := (List.getElem?_eq_some_iff.1 hx).1
      rw [hzl] at hil
      cases hA : A j with
      | none => have := r6 hA; omega
      | some a2 =>
        refine ⟨a2, rfl, ?_⟩
        rw [(r7 a2 hA).2 i (by omega)]
        rw [List.getElem?_take, if_pos hil] at hx
        rw [List.getD_eq_getElem?_getD, hx]; rfl

set_option maxRecDepth 100000 in
/-- A uint16, a uint8 that came in. -/
theorem u16_open {H : Type} {enc : TypeId × Value → H} {W : World} {base : Nat} {v : Value} {d : DataW H} {p : List MemPlace}
    (hv : Value.okWide Try.prog W .any base 43 v) (h : DataW.Trod enc Try.prog W 0 (fun _ => true) true 43 v d p) : ∃ x : Int, v = .int .u16 x ∧ 0 ≤ x ∧ x ≤ 65535 := by
  obtain ⟨x, rfl, rfl, rfl, hw⟩ := open_int Try.underlying43 hv h
  simp only [Lit.wf, Bool.and_eq_true, decide_eq_true_eq] at hw
  have e1 : IntKind.u16.min = 0 := by decide
  have e2 : IntKind.u16.max = 65535 := by decide
  rw [e1, e2] at hw
  exact ⟨x, rfl, hw⟩
set_option maxRecDepth 100000 in
theorem u8_open {H : Type} {enc : TypeId × Value → H} {W : World} {base : Nat} {v : Value} {d : DataW H} {p : List MemPlace}
    (hv : Value.okWide Try.prog W .any base 5 v) (h : DataW.Trod enc Try.prog W 0 (fun _ => true) true 5 v d p) : ∃ x : Int, v = .int .u8 x ∧ 0 ≤ x ∧ x ≤ 255 := by
  obtain ⟨x, rfl, rfl, rfl, hw⟩ := open_int Try.underlying5 hv h
  simp only [Lit.wf, Bool.and_eq_true, decide_eq_true_eq] at hw
  have e1 : IntKind.u8.min = 0 := by decide
  have e2 : IntKind.u8.max = 255 := by decide
  rw [e1, e2] at hw
  exact ⟨x, rfl, hw⟩
end Go.Proofs.Ytpjiemffkkfbkaa
