/- The laws of append at rows of numbers. -/
import Derived.Test.YtpjiemffkkfbkaaProg
import Derived.Test.YtpjiemffkkfbkaaM0
namespace Go.Proofs.Ytpjiemffkkfbkaa
open Go.RowKit

theorem Try.info3 : (Try.prog.info? 3).map (fun i => (i.zero, i.size, i.bytes)) = some (some (.int .i64 0), 1, 8) := by kernel_rfl

section
variable {w : World} {O : Own} {r : Nat} {v : Value} {xs : List Int} {l : Int} {b : Nat} {ops : Array Oper} {o : Oper} {a : Act} {Q : Exit → Act → World → Prop}

/-- A number more in a row of numbers: the run. -/
theorem append_int_run (hr : IntRow w O r v xs) (hcl : Cl O w) (hlen : xs.length ≤ 1000000000) (hc : w.cell? ⟨b, 0, none⟩ = some (.int .i64 l)) (ty : TypeId) :
    ∃ g cap w' O', (Builtin.append_ #[32, 32] ty #[v, .slice (some ⟨b, 0, none⟩) 1 1]).run Try.prog w = .ok (.slice (some ⟨g, 0, none⟩) (xs.length + 1) cap) w' ∧
      IntRow w' O' r (.slice (some ⟨g, 0, none⟩) (xs.length + 1) cap) (xs ++ [l]) ∧ Cl O' w' ∧ Fr (fun k => k = r) O O' w w' := by
  obtain ⟨i0, hi, hz0, hz1, hz2⟩ := info_parts Try.info3
  obtain ⟨g, cap, w', O', h1, h2, h3, h4⟩ := Row.append_run (P := Try.prog) (t := 32) (ty := ty) Try.underlying32 hi hz0 hz1 hz2 rfl (by decide) hr hcl ⟨b, 0, none⟩ 1 1 [.int .i64 l] rfl
    (by intro j u hj; match j, hj with | 0, hj => simp at hj; subst hj; exact hc) word_one (by decide) (by unfold maxLen; omega) (by omega)
  exact ⟨g, cap, w', O', h1, by simpa [IntRow] using h2, h3, h4⟩

theorem append_int_wp (hr : IntRow w O r v xs) (hcl : Cl O w) (hlen : xs.length ≤ 1000000000) (s x : Operand)
    (ho : o.op = .call { callee := .builtin .append, args := #[s, x], argTypes := #[32, 32] }) (hs : a.eval s = v) (hx : a.eval x = .slice (some ⟨b, 0, none⟩) 1 1) (hc : w.cell? ⟨b, 0, none⟩ = some (.int .i64 l))
    {K : Act → World → Prop}
    (h : ∀ g cap w' O', IntRow w' O' r (.slice (some ⟨g, 0, none⟩) (xs.length + 1) cap) (xs ++ [l]) → Cl O' w' → Fr (fun k => k = r) O O' w w' →
      K (a.put o.dst (.slice (some ⟨g, 0, none⟩) (xs.length + 1) cap)) w') : o.wp Try.prog a w K Q := by
  obtain ⟨g, cap, w', O', h1, h2, h3, h4⟩ := append_int_run hr hcl hlen hc o.type
  unfold Oper.wp execOp
  simp only [ho, resolve, invoke, builtin, Sem.run_bind, Sem.run_pure, Result.andThen_ok, List.map_toArray, List.map_cons, List.map_nil, hs, hx, h1]
  exact h g cap w' O' h2 h3 h4

theorem append_int {rest : List Oper} (hr : IntRow w O r v xs) (hcl : Cl O w) (hlen : xs.length ≤ 1000000000) (hgd : o.guard = none) (s x : Operand)
    (ho : o.op = .call { callee := .builtin .append, args := #[s, x], argTypes := #[32, 32] }) (hs : a.eval s = v) (hx : a.eval x = .slice (some ⟨b, 0, none⟩) 1 1) (hc : w.cell? ⟨b, 0, none⟩ = some (.int .i64 l))
    (h : ∀ g cap w' O', IntRow w' O' r (.slice (some ⟨g, 0, none⟩) (xs.length + 1) cap) (xs ++ [l]) → Cl O' w' → Fr (fun k => k = r) O O' w w' →
      wpList Try.prog ops Q rest (a.put o.dst (.slice (some ⟨g, 0, none⟩) (xs.length + 1) cap)) w') : wpList Try.prog ops Q (o :: rest) a w :=
  wpList_plain hgd fun _ hK => append_int_wp hr hcl hlen s x ho hs hx hc fun g cap w' O' h2 h3 h4 => hK _ _ (h g cap w' O' h2 h3 h4)

/-- .. at a step of a region that draws. -/
theorem append_int_step {K : Act → World → Prop} {E : Prop} (hr : IntRow w O r v xs) (hcl : Cl O w) (hlen : xs.length ≤ 1000000000) (hgd : o.guard = none) (s x : Operand)
    (ho : o.op = .call { callee := .builtin .append, args := #[s, x], argTypes := #[32, 32] }) (hs : a.eval s = v) (hx : a.eval x = .slice (some ⟨b, 0, none⟩) 1 1) (hc : w.cell? ⟨b, 0, none⟩ = some (.int .i64 l))
    (h : ∀ g cap w' O', IntRow w' O' r (.slice (some ⟨g, 0, none⟩) (xs.length + 1) cap) (xs ++ [l]) → Cl O' w' → Fr (fun k => k = r) O O' w w' →
      K (a.put o.dst (.slice (some ⟨g, 0, none⟩) (xs.length + 1) cap)) w') :
    if Region.wanted o (yielded ops a.tmps) = true then Oper.wp Try.prog o a w K Q else E := by
  have hw : Region.wanted o (yielded ops a.tmps) = true := by simp [Region.wanted, hgd]
  rw [if_pos hw]
  exact append_int_wp hr hcl hlen s x ho hs hx hc h


theorem ints_one {xs : List Int} : ∀ u ∈ xs.map (Value.int .i64), u.oneCell' = true := by intro u hu; simp at hu; obtain ⟨x, _, rfl⟩ := hu; rfl

/-- Numbers more in a row of numbers: the run. -/
theorem append_ints_run {ys : List Int} {ad : Addr} {c : Nat} (hr : IntRow w O r v xs) (hcl : Cl O w) (hlen : xs.length ≤ 1000000000) (hly : ys.length ≤ 1000000000) (hy : 0 < ys.length)
    (hc : ∀ (j : Nat) x, ys[j]? = some x → w.cell? (ad.add j) = some (.int .i64 x)) (ty : TypeId) :
    ∃ g cap w' O', (Builtin.append_ #[32, 32] ty #[v, .slice (some ad) ys.length c]).run Try.prog w = .ok (.slice (some ⟨g, 0, none⟩) (xs.length + ys.length) cap) w' ∧
      IntRow w' O' r (.slice (some ⟨g, 0, none⟩) (xs.length + ys.length) cap) (xs ++ ys) ∧ Cl O' w' ∧ Fr (fun k => k = r) O O' w w' := by
  obtain ⟨i0, hi, hz0, hz1, hz2⟩ := info_parts Try.info3
  obtain ⟨g, cap, w', O', h1, h2, h3, h4⟩ := Row.append_run (P := Try.prog) (t := 32) (ty := ty) Try.underlying32 hi hz0 hz1 hz2 rfl (by decide) hr hcl ad ys.length c (ys.map (Value.int .i64)) (by simp)
    (by intro j u hj; rw [List.getElem?_map, Option.map_eq_some_iff] at hj; obtain ⟨x, hx, rfl⟩ := hj; exact hc j x hx) ints_one hy (by unfold maxLen; omega) (by omega)
  exact ⟨g, cap, w', O', h1, by simpa [IntRow] using h2, h3, h4⟩

theorem append_ints_wp {ys : List Int} {ad : Addr} {c : Nat} (hr : IntRow w O r v xs) (hcl : Cl O w) (hlen : xs.length ≤ 1000000000) (hly : ys.length ≤ 1000000000) (hy : 0 < ys.length) (s x : Operand)
    (ho : o.op = .call { callee := .builtin .append, args := #[s, x], argTypes := #[32, 32] }) (hs : a.eval s = v) (hx : a.eval x = .slice (some ad) ys.length c)
    (hc : ∀ (j : Nat) x, ys[j]? = some x → w.cell? (ad.add j) = some (.int .i64 x)) {K : Act → World → Prop}
    (h : ∀ g cap w' O', IntRow w' O' r (.slice (some ⟨g, 0, none⟩) (xs.length + ys.length) cap) (xs ++ ys) → Cl O' w' → Fr (fun k => k = r) O O' w w' →
      K (a.put o.dst (.slice (some ⟨g, 0, none⟩) (xs.length + ys.length) cap)) w') : o.wp Try.prog a w K Q := by
  obtain ⟨g, cap, w', O', h1, h2, h3, h4⟩ := append_ints_run hr hcl hlen hly hy hc o.type
  unfold Oper.wp execOp
  simp only [ho, resolve, invoke, builtin, Sem.run_bind, Sem.run_pure, Result.andThen_ok, List.map_toArray, List.map_cons, List.map_nil, hs, hx]
  rw [h1]
  exact h g cap w' O' h2 h3 h4

theorem append_ints {rest : List Oper} {ys : List Int} {ad : Addr} {c : Nat} (hr : IntRow w O r v xs) (hcl : Cl O w) (hlen : xs.length ≤ 1000000000) (hly : ys.length ≤ 1000000000) (hy : 0 < ys.length)
    (hgd : o.guard = none) (s x : Operand) (ho : o.op = .call { callee := .builtin .append, args := #[s, x], argTypes := #[32, 32] }) (hs : a.eval s = v) (hx : a.eval x = .slice (some ad) ys.length c)
    (hc : ∀ (j : Nat) x, ys[j]? = some x → w.cell? (ad.add j) = some (.int .i64 x))
    (h : ∀ g cap w' O', IntRow w' O' r (.slice (some ⟨g, 0, none⟩) (xs.length + ys.length) cap) (xs ++ ys) → Cl O' w' → Fr (fun k => k = r) O O' w w' →
      wpList Try.prog ops Q rest (a.put o.dst (.slice (some ⟨g, 0, none⟩) (xs.length + ys.length) cap)) w') : wpList Try.prog ops Q (o :: rest) a w :=
  wpList_plain hgd fun _ hK => append_ints_wp hr hcl hlen hly hy s x ho hs hx hc fun g cap w' O' h2 h3 h4 => hK _ _ (h g cap w' O' h2 h3 h4)

theorem append_ints_step {K : Act → World → Prop} {E : Prop} {ys : List Int} {ad : Addr} {c : Nat} (hr : IntRow w O r v xs) (hcl : Cl O w) (hlen : xs.length ≤ 1000000000) (hly : ys.length ≤ 1000000000) (hy : 0 < ys.length)
    (hgd : o.guard = none) (s x : Operand) (ho : o.op = .call { callee := .builtin .append, args := #[s, x], argTypes := #[32, 32] }) (hs : a.eval s = v) (hx : a.eval x = .slice (some ad) ys.length c)
    (hc : ∀ (j : Nat) x, ys[j]? = some x → w.cell? (ad.add j) = some (.int .i64 x))
    (h : ∀ g cap w' O', IntRow w' O' r (.slice (some ⟨g, 0, none⟩) (xs.length + ys.length) cap) (xs ++ ys) → Cl O' w' → Fr (fun k => k = r) O O' w w' →
      K (a.put o.dst (.slice (some ⟨g, 0, none⟩) (xs.length + ys.length) cap)) w') :
    if Region.wanted o (yielded ops a.tmps) = true then Oper.wp Try.prog o a w K Q else E := by
  have hw : Region.wanted o (yielded ops a.tmps) = true := by simp [Region.wanted, hgd]
  rw [if_pos hw]
  exact append_ints_wp hr hcl hlen hly hy s x ho hs hx hc h
end
end Go.Proofs.Ytpjiemffkkfbkaa
