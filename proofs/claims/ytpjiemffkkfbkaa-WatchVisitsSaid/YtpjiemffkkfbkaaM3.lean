/- A row of numbers that may begin inside its block (a queue): append and pop. -/
import Derived.Test.YtpjiemffkkfbkaaM2
namespace Go.Proofs.Ytpjiemffkkfbkaa
open Go.RowKit

theorem arr_app (L : List Value) (Z : Array Value) : (L ++ Z.toList).toArray = L.toArray ++ Z := by apply Array.ext'; simp

def ORow (w : World) (o : Own) (r : Nat) (v : Value) (xs : List Int) : Prop :=
  (v = .slice none 0 0 ∧ xs = []) ∨ ∃ g off cap cur, v = .slice (some ⟨g, off, none⟩) xs.length cap ∧ w.heap[g]? = some (.cells cur 3 (0, 0)) ∧ o g = r ∧ off + cap ≤ cur.size ∧ xs.length ≤ cap ∧ cap ≤ maxLen ∧
    ∀ (j : Nat) x, xs[j]? = some x → cur[off + j]? = some (.int .i64 x)

section
variable {w w' : World} {o o' : Own} {r : Nat} {v : Value} {xs : List Int}

theorem ORow.nil (w : World) (o : Own) (r : Nat) : ORow w o r (.slice none 0 0) [] := .inl ⟨rfl, rfl⟩

theorem ORow.keeps {S : Nat → Prop} (h : ORow w o r v xs) (hf : Fr S o o' w w') (hs : ¬ S r) : ORow w' o' r v xs := by
  rcases h with h | ⟨g, off, cap, cur, hv, hg, ho, hr⟩
  · exact .inl h
  · have hk := hf.keeps hg (by rw [ho]; exact hs)
    exact .inr ⟨g, off, cap, cur, hv, hk.1, hk.2.trans ho, hr⟩

theorem ORow.form (h : ORow w o r v xs) : ∃ a cap, v = .slice a xs.length cap := by
  rcases h with ⟨rfl, rfl⟩ | ⟨g, off, cap, cur, rfl, _⟩
  · exact ⟨none, 0, rfl⟩
  · exact ⟨_, _, rfl⟩

/-- Its first number. -/
theorem ORow.first {x : Int} (h : ORow w o r v (x :: xs)) : ∃ g off cap, v = .slice (some ⟨g, off, none⟩) (xs.length + 1) cap ∧ xs.length + 1 ≤ cap ∧ w.cell? ⟨g, off, none⟩ = some (.int .i64 x) := by
  rcases h with ⟨_, h⟩ | ⟨g, off, cap, cur, hv, hg, ho, hs, hc, hm, hx⟩
  · cases h
  · refine ⟨g, off, cap, hv, hc, ?_⟩
    rw [cell_of_row w g off cur 3 _ hg]
    exact hx 0 x rfl

/-- Its tail: 'q[1:]'. (Of a queue whose last cell is taken the address stays.) -/
theorem ORow.tail {x : Int} {g off cap : Nat} (h : ORow w o r (.slice (some ⟨g, off, none⟩) (xs.length + 1) cap) (x :: xs)) :
    ORow w o r (.slice (some ⟨g, if cap = 1 then off else off + 1, none⟩) xs.length (cap - 1)) xs := by
  rcases h with ⟨_, h⟩ | ⟨g', off', cap', cur, hv, hg, ho, hs, hc, hm, hx⟩
  · cases h
  · simp only [Value.slice.injEq, Option.some.injEq, Addr.mk.injEq, and_true, List.length_cons] at hv
    obtain ⟨⟨rfl, rfl⟩, _, rfl⟩ := hv
    simp only [List.length_cons] at hc
    refine .inr ⟨g, _, cap - 1, cur, rfl, hg, ho, ?_, by omega, by omega, ?_⟩
    · split <;> omega
    · intro j y hj
      have hjl := (List.getElem?_eq_some_iff.1 hj).1
      rw [if_neg (by omega)]
      have := hx (j + 1) y (by simpa using hj)
      rw [← this]; congr 1; omega

/-- A number more: the run. -/
theorem ORow.append_run {l : Int} {b : Nat} (hr : ORow w o r v xs) (hcl : Cl o w) (hlen : xs.length ≤ 1000000000) (hc : w.cell? ⟨b, 0, none⟩ = some (.int .i64 l)) (ty : TypeId) :
    ∃ g off cap w' o', (Builtin.append_ #[32, 32] ty #[v, .slice (some ⟨b, 0, none⟩) 1 1]).run Try.prog w = .ok (.slice (some ⟨g, off, none⟩) (xs.length + 1) cap) w' ∧
      ORow w' o' r (.slice (some ⟨g, off, none⟩) (xs.length + 1) cap) (xs ++ [l]) ∧ Cl o' w' ∧ Fr (fun k => k = r) o o' w w' := by
  obtain ⟨i0, hi, hz0, hz1, hz2⟩ := info_parts Try.info3
  have hsrc : ∀ (j : Nat) u, [Value.int .i64 l][j]? = some u → w.cell? ((⟨b, 0, none⟩ : Addr).add j) = some u := by
    intro j u hj; match j, hj with | 0, hj => simp at hj; subst hj; exact hc
  have hmk : ∀ (cells : List Value) (cap : Nat), cells.length = cap → xs.length + 1 ≤ cap → cap ≤ maxLen → (∀ (j : Nat) x, (xs ++ [l])[j]? = some x → cells[j]? = some (.int .i64 x)) →
      ORow (w.drew.alloc (.cells cells.toArray 3)) (fun k => if k = w.heap.size then r else o k) r (.slice (some ⟨w.heap.size, 0, none⟩) (xs.length + 1) cap) (xs ++ [l]) := by
    intro cells cap h1 h2 h3 h4
    refine .inr ⟨w.heap.size, 0, cap, cells.toArray, by simp, heap_alloc_new w.drew _, by simp, by simp; omega, by simp; omega, h3, ?_⟩
    intro j x hj
    have := h4 j x hj
    simpa using this
  have hfr : ∀ X, Fr (fun k => k = r) o (fun k => if k = w.heap.size then r else o k) w (w.drew.alloc X) := fun X => (Fr.sm (Sm.drew w)).trans (Fr.alloc (w := w.drew) X r)
  have hcl' : ∀ X, Cl (fun k => if k = w.heap.size then r else o k) (w.drew.alloc X) := fun X => Cl.alloc (w := w.drew) (hcl.sm (Sm.drew w)) X r
  have hcapmax : ∀ old, xs.length + 1 ≤ grownCap w (xs.length + 1) old 3 ∧ grownCap w (xs.length + 1) old 3 ≤ maxLen := fun old => ⟨grownCap_ge w _ old 3, grownCap_le_maxLen w _ old 3 (by unfold maxLen; omega)⟩
  rcases hr with ⟨rfl, rfl⟩ | ⟨g, off, cap, cur, rfl, hg, ho, hs, hcp, hm, hx⟩
  · have hrun := run_append_nil (P := Try.prog) w 32 ty 3 i0 _ Try.underlying32 hi hz0 ⟨b, 0, none⟩ 1 1 [.int .i64 l] (by rw [hz1]; rfl) hsrc (by decide) (by decide) (by rw [hz2]; decide)
    refine ⟨w.heap.size, 0, grownCap w 1 0 3, _, _, hrun, ?_, hcl' _, hfr _⟩
    have h1 := hcapmax 0
    simp only [List.length_nil, Nat.zero_add] at h1
    have := hmk ([.int .i64 l] ++ (Builtin.zeroCells (Value.int .i64 0).cells (grownCap w 1 0 3 - 1)).toList) (grownCap w 1 0 3) (by simp [size_zeroCells, Value.cells]; omega) (by simpa using h1.1) h1.2
      (by intro j x hj; match j, hj with | 0, hj => simp at hj; subst hj; rfl)
    rw [arr_app] at this
    exact this
  · by_cases hroom : xs.length + 1 ≤ cap
    · have hcell : ∀ j, j < [Value.int .i64 l].length → (w.cell? ⟨g, off + xs.length * i0.size + j, none⟩).isSome = true := by
        intro j hj
        simp at hj; subst hj
        rw [hz1, cell_of_row w g _ cur 3 _ hg, Array.getElem?_eq_getElem (by omega)]; rfl
      have hrun := run_append_room_cells (P := Try.prog) w 32 ty 3 i0 Try.underlying32 hi g off xs.length cap ⟨b, 0, none⟩ 1 1 [.int .i64 l] (by rw [hz1]; rfl) hsrc word_one hroom hcell (fun j _ => frozen_of_row w g _ cur 3 hg)
      rw [hz1, Nat.mul_one] at hrun
      have hh := heap_setCell_same w g (off + xs.length) cur 3 (.int .i64 l) hg
      refine ⟨g, off, cap, _, o, hrun, ?_, hcl.setCell _ _, Fr.setCell _ _ ho⟩
      refine .inr ⟨g, off, cap, _, by simp, hh, ho, by simpa using hs, by simpa using hroom, hm, ?_⟩
      intro j x hj
      rw [Array.getElem?_setIfInBounds]
      by_cases e : j < xs.length
      · rw [if_neg (by omega)]
        rw [List.getElem?_append_left e] at hj
        exact hx j x hj
      · have hjl := (List.getElem?_eq_some_iff.1 hj).1
        simp at hjl
        have e2 : j = xs.length := by omega
        subst e2
        rw [if_pos rfl, if_pos (by omega)]
        simp at hj; rw [hj]
    · have hrun := run_append_grow (P := Try.prog) w 32 ty 3 i0 _ Try.underlying32 hi hz0 ⟨g, off, none⟩ xs.length cap (xs.map (Value.int .i64)) (by rw [hz1]; simp)
        (by
          intro j u hj
          rw [List.getElem?_map, Option.map_eq_some_iff] at hj
          obtain ⟨x, hxj, rfl⟩ := hj
          have e : (⟨g, off, none⟩ : Addr).add j = ⟨g, off + j, none⟩ := by unfold Addr.add; split <;> simp_all
          rw [e, cell_of_row w g _ cur 3 _ hg]; exact hx j x hxj)
        ⟨b, 0, none⟩ 1 1 [.int .i64 l] (by rw [hz1]; rfl) hsrc (by omega) (by omega) (growslice_fits (by omega) (by rw [hz2]; omega))
      refine ⟨w.heap.size, 0, grownCap w (xs.length + 1) cap 3, _, _, hrun, ?_, hcl' _, hfr _⟩
      have h1 := hcapmax cap
      have := hmk (xs.map (Value.int .i64) ++ [.int .i64 l] ++ (Builtin.zeroCells (Value.int .i64 0).cells (grownCap w (xs.length + 1) cap 3 - (xs.length + 1))).toList) (grownCap w (xs.length + 1) cap 3) (by simp [size_zeroCells, Value.cells]; omega) h1.1 h1.2
        (by
          intro j x hj
          have hjl := (List.getElem?_eq_some_iff.1 hj).1
          rw [List.getElem?_append_left (by simpa using hjl)]
          have : xs.map (Value.int .i64) ++ [.int .i64 l] = (xs ++ [l]).map (Value.int .i64) := by simp
          rw [this, List.getElem?_map, hj]; rfl)
      rw [arr_app, ← List.append_toArray] at this
      exact this

theorem ORow.append_wp {l : Int} {b : Nat} {oo : Oper} {a : Act} {Q : Exit → Act → World → Prop} (hr : ORow w o r v xs) (hcl : Cl o w) (hlen : xs.length ≤ 1000000000) (s x : Operand)
    (ho : oo.op = .call { callee := .builtin .append, args := #[s, x], argTypes := #[32, 32] }) (hs : a.eval s = v) (hx : a.eval x = .slice (some ⟨b, 0, none⟩) 1 1) (hc : w.cell? ⟨b, 0, none⟩ = some (.int .i64 l))
    {K : Act → World → Prop}
    (h : ∀ g off cap w' O', ORow w' O' r (.slice (some ⟨g, off, none⟩) (xs.length + 1) cap) (xs ++ [l]) → Cl O' w' → Fr (fun k => k = r) o O' w w' →
      K (a.put oo.dst (.slice (some ⟨g, off, none⟩) (xs.length + 1) cap)) w') : oo.wp Try.prog a w K Q := by
  obtain ⟨g, off, cap, w', O', h1, h2, h3, h4⟩ := hr.append_run hcl hlen hc oo.type
  unfold Oper.wp execOp
  simp only [ho, resolve, invoke, builtin, Sem.run_bind, Sem.run_pure, Result.andThen_ok, List.map_toArray, List.map_cons, List.map_nil, hs, hx]
  rw [h1]
  exact h g off cap w' O' h2 h3 h4

theorem ORow.append {l : Int} {b : Nat} {ops : Array Oper} {rest : List Oper} {oo : Oper} {a : Act} {Q : Exit → Act → World → Prop} (hr : ORow w o r v xs) (hcl : Cl o w) (hlen : xs.length ≤ 1000000000) (hgd : oo.guard = none) (s x : Operand)
    (ho : oo.op = .call { callee := .builtin .append, args := #[s, x], argTypes := #[32, 32] }) (hs : a.eval s = v) (hx : a.eval x = .slice (some ⟨b, 0, none⟩) 1 1) (hc : w.cell? ⟨b, 0, none⟩ = some (.int .i64 l))
    (h : ∀ g off cap w' O', ORow w' O' r (.slice (some ⟨g, off, none⟩) (xs.length + 1) cap) (xs ++ [l]) → Cl O' w' → Fr (fun k => k = r) o O' w w' →
      wpList Try.prog ops Q rest (a.put oo.dst (.slice (some ⟨g, off, none⟩) (xs.length + 1) cap)) w') : wpList Try.prog ops Q (oo :: rest) a w :=
  wpList_plain hgd fun _ hK => hr.append_wp hcl hlen s x ho hs hx hc fun g off cap w' O' h2 h3 h4 => hK _ _ (h g off cap w' O' h2 h3 h4)
end
end Go.Proofs.Ytpjiemffkkfbkaa
