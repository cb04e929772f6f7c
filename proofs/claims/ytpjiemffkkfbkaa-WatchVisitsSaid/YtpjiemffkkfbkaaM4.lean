/- Lists that are read, lists of lists, and rows of lists that grow. -/
import Derived.Test.YtpjiemffkkfbkaaM2
import Derived.Test.YtpjiemffkkfbkaaN5
namespace Go.Proofs.Ytpjiemffkkfbkaa
open Go.RowKit

/-- Numbers that are read, in a block of Z. -/
def Rl (w : World) (Z : Nat → Prop) (v : Value) (xs : List Int) : Prop :=
  (v = .slice none 0 0 ∧ xs = []) ∨ ∃ b off cap, v = .slice (some ⟨b, off, none⟩) xs.length cap ∧ xs.length ≤ cap ∧ (0 < xs.length → Z b) ∧ ∀ (j : Nat) x, xs[j]? = some x → w.cell? ⟨b, off + j, none⟩ = some (.int .i64 x)

/-- Lists that are read. -/
def Rm (w : World) (Z : Nat → Prop) (v : Value) (L : List (List Int)) : Prop :=
  (v = .slice none 0 0 ∧ L = []) ∨ ∃ b off cap, v = .slice (some ⟨b, off, none⟩) L.length cap ∧ L.length ≤ cap ∧ (0 < L.length → Z b) ∧ ∀ (j : Nat) c, L[j]? = some c → ∃ hv, w.cell? ⟨b, off + j, none⟩ = some hv ∧ Rl w Z hv c

section
variable {w w' : World} {Z Z' : Nat → Prop} {v : Value} {xs : List Int} {L : List (List Int)}

theorem Rl.rf (h : Rl w Z v xs) : Rf w v xs := by
  rcases h with h | ⟨b, off, cap, e, _, _, h⟩
  · exact .inl h
  · exact .inr ⟨b, off, cap, e, h⟩
theorem Rl.form (h : Rl w Z v xs) : ∃ a cap, v = .slice a xs.length cap := by
  rcases h with ⟨rfl, rfl⟩ | ⟨b, off, cap, rfl, _⟩
  · exact ⟨none, 0, rfl⟩
  · exact ⟨_, cap, rfl⟩
theorem Rm.form (h : Rm w Z v L) : ∃ a cap, v = .slice a L.length cap := by
  rcases h with ⟨rfl, rfl⟩ | ⟨b, off, cap, rfl, _⟩
  · exact ⟨none, 0, rfl⟩
  · exact ⟨_, cap, rfl⟩
theorem Rl.nil (w : World) (Z : Nat → Prop) : Rl w Z (.slice none 0 0) [] := .inl ⟨rfl, rfl⟩
theorem Rm.nil (w : World) (Z : Nat → Prop) : Rm w Z (.slice none 0 0) [] := .inl ⟨rfl, rfl⟩

theorem Rl.block (h : Rl w Z v xs) (hn : 0 < xs.length) : ∃ b off cap, v = .slice (some ⟨b, off, none⟩) xs.length cap ∧ xs.length ≤ cap ∧ Z b ∧ ∀ i, i < xs.length → w.cell? ⟨b, off + i, none⟩ = some (.int .i64 (xs.getD i 0)) := by
  rcases h with ⟨_, rfl⟩ | ⟨b, off, cap, e, hc, hz, h⟩
  · simp at hn
  · refine ⟨b, off, cap, e, hc, hz hn, fun i hi => h i _ ?_⟩
    rw [List.getD_eq_getElem?_getD, List.getElem?_eq_getElem hi]; rfl
theorem Rm.block (h : Rm w Z v L) (hn : 0 < L.length) : ∃ b off cap, v = .slice (some ⟨b, off, none⟩) L.length cap ∧ L.length ≤ cap ∧ Z b ∧ ∀ i, i < L.length → ∃ hv, w.cell? ⟨b, off + i, none⟩ = some hv ∧ Rl w Z hv (L.getD i []) := by
  rcases h with ⟨_, rfl⟩ | ⟨b, off, cap, e, hc, hz, h⟩
  · simp at hn
  · refine ⟨b, off, cap, e, hc, hz hn, fun i hi => h i _ ?_⟩
    rw [List.getD_eq_getElem?_getD, List.getElem?_eq_getElem hi]; rfl

theorem Rl.keeps (h : Rl w Z v xs) (hb : ∀ b, b < w.heap.size → Z b → w'.heap[b]? = w.heap[b]? ∧ Z' b) : Rl w' Z' v xs := by
  rcases h with h | ⟨b, off, cap, e, hc, hz, h⟩
  · exact .inl h
  · have key : 0 < xs.length → b < w.heap.size := fun hp => World.block_lt_of_cell? w _ (h 0 _ (List.getElem?_eq_getElem hp))
    refine .inr ⟨b, off, cap, e, hc, fun hp => (hb b (key hp) (hz hp)).2, fun j x hj => ?_⟩
    have hp : 0 < xs.length := by have := (List.getElem?_eq_some_iff.1 hj).1; omega
    rw [World.cell?_of_block (w := w)]
    · exact h j x hj
    · exact (hb b (key hp) (hz hp)).1
theorem Rm.keeps (h : Rm w Z v L) (hb : ∀ b, b < w.heap.size → Z b → w'.heap[b]? = w.heap[b]? ∧ Z' b) : Rm w' Z' v L := by
  rcases h with h | ⟨b, off, cap, e, hc, hz, h⟩
  · exact .inl h
  · have key : 0 < L.length → b < w.heap.size := fun hp => by
      obtain ⟨hv, h1, _⟩ := h 0 _ (List.getElem?_eq_getElem hp)
      exact World.block_lt_of_cell? w _ h1
    refine .inr ⟨b, off, cap, e, hc, fun hp => (hb b (key hp) (hz hp)).2, fun j x hj => ?_⟩
    have hp : 0 < L.length := by have := (List.getElem?_eq_some_iff.1 hj).1; omega
    obtain ⟨hv, h1, h2⟩ := h j x hj
    refine ⟨hv, ?_, h2.keeps hb⟩
    rw [World.cell?_of_block (w := w)]
    · exact h1
    · exact (hb b (key hp) (hz hp)).1

theorem Rl.mono (h : Rl w Z v xs) (hz : ∀ b, b < w.heap.size → Z b → Z' b) : Rl w Z' v xs := h.keeps fun b hb h => ⟨rfl, hz b hb h⟩
theorem Rm.mono (h : Rm w Z v L) (hz : ∀ b, b < w.heap.size → Z b → Z' b) : Rm w Z' v L := h.keeps fun b hb h => ⟨rfl, hz b hb h⟩
theorem Rl.fr {S : Nat → Prop} {o o' : Own} (h : Rl w Z v xs) (hf : Fr S o o' w w') (hz : ∀ b, Z b → ¬ S (o b)) : Rl w' Z v xs := h.keeps fun b hb h => ⟨hf.block b hb (hz b h), h⟩
theorem Rm.fr {S : Nat → Prop} {o o' : Own} (h : Rm w Z v L) (hf : Fr S o o' w w') (hz : ∀ b, Z b → ¬ S (o b)) : Rm w' Z v L := h.keeps fun b hb h => ⟨hf.block b hb (hz b h), h⟩
theorem Rl.same (h : Rl w Z v xs) (hf : Same w w') : Rl w' Z v xs := h.fr hf fun _ _ => id
theorem Rm.same (h : Rm w Z v L) (hf : Same w w') : Rm w' Z v L := h.fr hf fun _ _ => id
theorem Rl.sm (h : Rl w Z v xs) (hs : Sm w w') : Rl w' Z v xs := h.same (Fr.sm hs)
theorem Rm.sm (h : Rm w Z v L) (hs : Sm w w') : Rm w' Z v L := h.same (Fr.sm hs)
/-- .. none of the owner's. -/
theorem Rl.own {S : Nat → Prop} {o o' : Own} (h : Rl w (fun b => o b = 0) v xs) (hf : Fr S o o' w w') (h0 : ¬ S 0) : Rl w' (fun b => o' b = 0) v xs :=
  h.keeps fun b hb h => ⟨hf.block b hb (by rw [h]; exact h0), (hf.role b hb).trans h⟩
theorem Rm.own {S : Nat → Prop} {o o' : Own} (h : Rm w (fun b => o b = 0) v L) (hf : Fr S o o' w w') (h0 : ¬ S 0) : Rm w' (fun b => o' b = 0) v L :=
  h.keeps fun b hb h => ⟨hf.block b hb (by rw [h]; exact h0), (hf.role b hb).trans h⟩

theorem _root_.Go.Proofs.Ytpjiemffkkfbkaa.IntRow.rl {p : Own} {r : Nat} (h : IntRow w p r v xs) (hr : r ≠ 0) {n : Nat} (hn : New p n) : Rl w (fun b => n ≤ b ∧ p b = r) v xs := by
  rcases h.1.2 with ⟨rfl, hn⟩ | ⟨g, cap, cur, rfl, _, hg, hc, _⟩
  · exact .inl ⟨rfl, List.eq_nil_of_length_eq_zero hn⟩
  · have hpg : p g = r := h.2 g rfl
    refine .inr ⟨g, 0, cap, rfl, hc, fun _ => ⟨?_, hpg⟩, fun j x hj => ?_⟩
    · rcases Nat.lt_or_ge g n with h1 | h1
      · exact absurd (hpg.symm.trans (hn g h1)) hr
      · exact h1
    · rw [Nat.zero_add]; exact (h.at hj).1
end

/-- A row of lists that grows: the lists lie in new blocks, apart from the row's own. -/
def Hm (w : World) (p : Own) (n : Nat) (v : Value) (L : List (List Int)) : Prop :=
  ∃ hs, Row w p 1 32 1 v L.length hs ∧ ∀ (j : Nat) c, L[j]? = some c → ∃ hv, hs[j]? = some hv ∧ Rl w (fun b => n ≤ b ∧ p b = 0) hv c

section
variable {w w' : World} {p p' : Own} {n : Nat} {v : Value} {L : List (List Int)}
theorem Hm.nil (w : World) (p : Own) (n : Nat) : Hm w p n (.slice none 0 0) [] := ⟨[], Row.nil w p 1 32 1, fun j c h => by simp at h⟩
theorem Hm.form (h : Hm w p n v L) : ∃ a cap, v = .slice a L.length cap := by obtain ⟨hs, h, _⟩ := h; exact h.form
theorem Hm.keeps {S : Nat → Prop} (h : Hm w p n v L) (hf : Fr S p p' w w') (h1 : ¬ S 1) (h0 : ¬ S 0) : Hm w' p' n v L := by
  obtain ⟨hs, hr, hl⟩ := h
  refine ⟨hs, hr.keeps hf h1, fun j c hj => ?_⟩
  obtain ⟨hv, e, hc⟩ := hl j c hj
  exact ⟨hv, e, hc.keeps fun b hb hz => ⟨hf.block b hb (by rw [hz.2]; exact h0), hz.1, (hf.role b hb).trans hz.2⟩⟩
theorem Hm.same (h : Hm w p n v L) (hf : Same w w') : Hm w' p n v L := h.keeps (hf.any (fun _ => False) p) id id
theorem Hm.rm (h : Hm w p n v L) (hn : New p n) : Rm w (fun b => n ≤ b) v L := by
  obtain ⟨hs, hr, hl⟩ := h
  rcases hr.1.2 with ⟨rfl, h0⟩ | ⟨g, cap, cur, rfl, _, hg, hc, _⟩
  · exact .inl ⟨rfl, List.eq_nil_of_length_eq_zero h0⟩
  · have hpg : p g = 1 := hr.2 g rfl
    refine .inr ⟨g, 0, cap, rfl, hc, fun _ => ?_, fun j c hj => ?_⟩
    · rcases Nat.lt_or_ge g n with h1 | h1
      · have := hn g h1; omega
      · exact h1
    · obtain ⟨hv, e, hc2⟩ := hl j c hj
      refine ⟨hv, ?_, hc2.mono fun b _ h => h.1⟩
      have hj2 := (List.getElem?_eq_some_iff.1 hj).1
      obtain ⟨g', cap', e', _, _, _, h1, _⟩ := Row.block hr (by omega)
      simp only [Value.slice.injEq, Option.some.injEq, Addr.mk.injEq, and_true] at e'
      obtain ⟨rfl, -⟩ := e'
      rw [Nat.zero_add, h1 j (by omega)]; exact e

theorem Rl.oneCell {Z : Nat → Prop} {xs : List Int} (h : Rl w Z v xs) : v.oneCell' = true := by
  obtain ⟨a, cap, rfl⟩ := h.form; rfl

theorem Try.info32 : (Try.prog.info? 32).map (fun i => (i.zero, i.size, i.bytes)) = some (some (.slice none 0 0), 1, 24) := by kernel_rfl

/-- A list more. -/
theorem Hm.append_run {b : Nat} {u : Value} {c : List Int} (h : Hm w p n v L) (hcl : Cl p w) (hlen : L.length ≤ 1000000000) (hc : w.cell? ⟨b, 0, none⟩ = some u) (hu : Rl w (fun b => n ≤ b ∧ p b = 0) u c) (ty : TypeId) :
    ∃ g cap w' p', (Builtin.append_ #[28, 28] ty #[v, .slice (some ⟨b, 0, none⟩) 1 1]).run Try.prog w = .ok (.slice (some ⟨g, 0, none⟩) (L.length + 1) cap) w' ∧
      Hm w' p' n (.slice (some ⟨g, 0, none⟩) (L.length + 1) cap) (L ++ [c]) ∧ Cl p' w' ∧ Fr (fun k => k = 1) p p' w w' := by
  obtain ⟨hs, hr, hl⟩ := h
  obtain ⟨i0, hi, hz0, hz1, hz2⟩ := info_parts Try.info32
  obtain ⟨g, cap, w', p', h1, h2, h3, h4⟩ := Row.append_run (P := Try.prog) (t := 28) (ty := ty) Try.underlying28 hi hz0 hz1 hz2 rfl (by decide) hr hcl ⟨b, 0, none⟩ 1 1 [u] (by simp)
    (by intro j x hj
        match j, hj with
        | 0, hj => simp at hj; subst hj; simpa [Addr.add] using hc) (by intro x hx; simp at hx; subst hx; exact hu.oneCell) (by decide) (by unfold maxLen; omega) (by omega)
  refine ⟨g, cap, w', p', h1, ⟨hs ++ [u], by simpa using h2, fun j x hj => ?_⟩, h3, h4⟩
  have hrl := hr.len
  have kp : ∀ {u : Value} {c : List Int}, Rl w (fun b => n ≤ b ∧ p b = 0) u c → Rl w' (fun b => n ≤ b ∧ p' b = 0) u c := fun h =>
    h.keeps fun b hb hz => ⟨h4.block b hb (by rw [hz.2]; decide), hz.1, (h4.role b hb).trans hz.2⟩
  rcases Nat.lt_or_ge j L.length with hj2 | hj2
  · rw [List.getElem?_append_left hj2] at hj
    obtain ⟨hv, e, hc2⟩ := hl j x hj
    exact ⟨hv, by rw [List.getElem?_append_left (by omega)]; exact e, kp hc2⟩
  · rw [List.getElem?_append_right hj2] at hj
    have hj3 : j - L.length = 0 := by
      rcases Nat.lt_or_ge (j - L.length) 1 with h5 | h5
      · omega
      · rw [List.getElem?_eq_none (by simpa using h5)] at hj; cases hj
    rw [hj3] at hj
    simp at hj
    subst hj
    have : j = L.length := by omega
    subst this
    refine ⟨u, ?_, kp hu⟩
    rw [List.getElem?_append_right (by omega)]
    have : L.length - hs.length = 0 := by omega
    rw [this]; rfl

variable {ops : Array Oper} {oo : Oper} {a : Act} {Q : Exit → Act → World → Prop}
theorem Hm.append_wp {b : Nat} {u : Value} {c : List Int} (h : Hm w p n v L) (hcl : Cl p w) (hlen : L.length ≤ 1000000000) (s x : Operand)
    (ho : oo.op = .call { callee := .builtin .append, args := #[s, x], argTypes := #[28, 28] }) (hs : a.eval s = v) (hx : a.eval x = .slice (some ⟨b, 0, none⟩) 1 1) (hc : w.cell? ⟨b, 0, none⟩ = some u) (hu : Rl w (fun b => n ≤ b ∧ p b = 0) u c)
    {K : Act → World → Prop}
    (hK : ∀ g cap w' p', Hm w' p' n (.slice (some ⟨g, 0, none⟩) (L.length + 1) cap) (L ++ [c]) → Cl p' w' → Fr (fun k => k = 1) p p' w w' →
      K (a.put oo.dst (.slice (some ⟨g, 0, none⟩) (L.length + 1) cap)) w') : oo.wp Try.prog a w K Q := by
  obtain ⟨g, cap, w', p', h1, h2, h3, h4⟩ := h.append_run hcl hlen hc hu oo.type
  unfold Oper.wp execOp
  simp only [ho, resolve, invoke, builtin, Sem.run_bind, Sem.run_pure, Result.andThen_ok, List.map_toArray, List.map_cons, List.map_nil, hs, hx, h1]
  exact hK g cap w' p' h2 h3 h4
theorem Hm.append {b : Nat} {u : Value} {c : List Int} {rest : List Oper} (h : Hm w p n v L) (hcl : Cl p w) (hlen : L.length ≤ 1000000000) (hgd : oo.guard = none) (s x : Operand)
    (ho : oo.op = .call { callee := .builtin .append, args := #[s, x], argTypes := #[28, 28] }) (hs : a.eval s = v) (hx : a.eval x = .slice (some ⟨b, 0, none⟩) 1 1) (hc : w.cell? ⟨b, 0, none⟩ = some u) (hu : Rl w (fun b => n ≤ b ∧ p b = 0) u c)
    (hK : ∀ g cap w' p', Hm w' p' n (.slice (some ⟨g, 0, none⟩) (L.length + 1) cap) (L ++ [c]) → Cl p' w' → Fr (fun k => k = 1) p p' w w' →
      wpList Try.prog ops Q rest (a.put oo.dst (.slice (some ⟨g, 0, none⟩) (L.length + 1) cap)) w') : wpList Try.prog ops Q (oo :: rest) a w :=
  wpList_plain hgd fun _ hK2 => h.append_wp hcl hlen s x ho hs hx hc hu fun g cap w' p' h2 h3 h4 => hK2 _ _ (hK g cap w' p' h2 h3 h4)
theorem Hm.append_step {b : Nat} {u : Value} {c : List Int} {K : Act → World → Prop} {E : Prop} (h : Hm w p n v L) (hcl : Cl p w) (hlen : L.length ≤ 1000000000) (hgd : oo.guard = none) (s x : Operand)
    (ho : oo.op = .call { callee := .builtin .append, args := #[s, x], argTypes := #[28, 28] }) (hs : a.eval s = v) (hx : a.eval x = .slice (some ⟨b, 0, none⟩) 1 1) (hc : w.cell? ⟨b, 0, none⟩ = some u) (hu : Rl w (fun b => n ≤ b ∧ p b = 0) u c)
    (hK : ∀ g cap w' p', Hm w' p' n (.slice (some ⟨g, 0, none⟩) (L.length + 1) cap) (L ++ [c]) → Cl p' w' → Fr (fun k => k = 1) p p' w w' →
      K (a.put oo.dst (.slice (some ⟨g, 0, none⟩) (L.length + 1) cap)) w') :
    if Region.wanted oo (yielded ops a.tmps) = true then Oper.wp Try.prog oo a w K Q else E := by
  have hw : Region.wanted oo (yielded ops a.tmps) = true := by simp [Region.wanted, hgd]
  rw [if_pos hw]
  exact h.append_wp hcl hlen s x ho hs hx hc hu hK
end
end Go.Proofs.Ytpjiemffkkfbkaa
