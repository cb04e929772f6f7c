/- Lists appended to rows of numbers, empty ones too. -/
import Derived.Test.YtpjiemffkkfbkaaM4
namespace Go.Proofs.Ytpjiemffkkfbkaa
open Go.RowKit

theorem append_zero_run {w : World} {O : Own} {r : Nat} {v : Value} {xs : List Int} (hr : IntRow w O r v xs) (a : Option Addr) (c : Nat) (ty : TypeId) :
    (Builtin.append_ #[32, 32] ty #[v, .slice a 0 c]).run Try.prog w = .ok v w := by
  obtain ⟨i0, hi, hz0, hz1, hz2⟩ := info_parts Try.info3
  have hl : ∀ (a : Addr) (w : World), (loadCells a 0).run Try.prog w = .ok #[] w := fun _ _ => rfl
  rcases hr.1.2 with ⟨rfl, hn⟩ | ⟨g, cap, cur, rfl, hb, hg, hc, hm, hs, ht⟩
  · cases a <;> simp [Builtin.append_, run_underlying Try.underlying32, sizeOf, typeInfo, hi, Builtin.lenOf, Builtin.firstCells, hl]
  · cases a <;> simp [Builtin.append_, run_underlying Try.underlying32, sizeOf, typeInfo, hi, Builtin.lenOf, Builtin.firstCells, hl, hc, storeCells]

/-- What an append of a list that is read leaves. -/
def AppRl (w : World) (O : Own) (r : Nat) (zs : List Int) (v' : Value) (w' : World) : Prop := ∃ O', IntRow w' O' r v' zs ∧ Cl O' w' ∧ Fr (fun k => k = r) O O' w w'

theorem append_rl_run {w : World} {O : Own} {r : Nat} {v u : Value} {xs ys : List Int} {Z : Nat → Prop} (hr : IntRow w O r v xs) (hcl : Cl O w) (hlen : xs.length ≤ 1000000000) (hly : ys.length ≤ 1000000000) (hu : Rl w Z u ys) (ty : TypeId) :
    ∃ v' w', (Builtin.append_ #[32, 32] ty #[v, u]).run Try.prog w = .ok v' w' ∧ AppRl w O r (xs ++ ys) v' w' := by
  by_cases h0 : ys.length = 0
  · have : ys = [] := List.eq_nil_of_length_eq_zero h0
    subst this
    obtain ⟨a, cap, rfl⟩ := hu.form
    exact ⟨v, w, append_zero_run hr a cap ty, O, by simpa using hr, hcl, Fr.refl _ _ _⟩
  · obtain ⟨b, off, cap, rfl, hc, _, hx⟩ := hu.block (by omega)
    obtain ⟨g, cap2, w', O', h1, h2, h3, h4⟩ := append_ints_run (ys := ys) (ad := ⟨b, off, none⟩) (c := cap) hr hcl hlen hly (by omega) (fun j x hj => by
      have hjl := (List.getElem?_eq_some_iff.1 hj).1
      have h5 := hx j hjl
      have e : (⟨b, off, none⟩ : Addr).add j = ⟨b, off + j, none⟩ := by unfold Addr.add; split <;> simp_all
      rw [e, h5, List.getD_eq_getElem?_getD, hj]; rfl) ty
    exact ⟨_, w', h1, O', by simpa using h2, h3, h4⟩

section
variable {w : World} {O : Own} {r : Nat} {v u : Value} {xs ys : List Int} {Z : Nat → Prop} {ops : Array Oper} {o : Oper} {a : Act} {Q : Exit → Act → World → Prop}
theorem append_rl_wp (hr : IntRow w O r v xs) (hcl : Cl O w) (hlen : xs.length ≤ 1000000000) (hly : ys.length ≤ 1000000000) (hu : Rl w Z u ys) (s x : Operand)
    (ho : o.op = .call { callee := .builtin .append, args := #[s, x], argTypes := #[32, 32] }) (hs : a.eval s = v) (hx : a.eval x = u) {K : Act → World → Prop}
    (h : ∀ v' w', AppRl w O r (xs ++ ys) v' w' → K (a.put o.dst v') w') : o.wp Try.prog a w K Q := by
  obtain ⟨v', w', h1, h2⟩ := append_rl_run hr hcl hlen hly hu o.type
  unfold Oper.wp execOp
  simp only [ho, resolve, invoke, builtin, Sem.run_bind, Sem.run_pure, Result.andThen_ok, List.map_toArray, List.map_cons, List.map_nil, hs, hx, h1]
  exact h v' w' h2
theorem append_rl {rest : List Oper} (hr : IntRow w O r v xs) (hcl : Cl O w) (hlen : xs.length ≤ 1000000000) (hly : ys.length ≤ 1000000000) (hu : Rl w Z u ys) (hgd : o.guard = none) (s x : Operand)
    (ho : o.op = .call { callee := .builtin .append, args := #[s, x], argTypes := #[32, 32] }) (hs : a.eval s = v) (hx : a.eval x = u)
    (h : ∀ v' w', AppRl w O r (xs ++ ys) v' w' → wpList Try.prog ops Q rest (a.put o.dst v') w') : wpList Try.prog ops Q (o :: rest) a w :=
  wpList_plain hgd fun _ hK => append_rl_wp hr hcl hlen hly hu s x ho hs hx fun v' w' h2 => hK _ _ (h v' w' h2)
end
end Go.Proofs.Ytpjiemffkkfbkaa
