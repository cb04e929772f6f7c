/- A range over a map with int keys. -/
import Derived.Test.YtpjiemffkkfbkaaM1
import Derived.Maps.RangeWalk
namespace Go.Proofs.Ytpjiemffkkfbkaa
open Go.RowKit Go.MapKept Go.ChangeMaps Go.WideShapes

def ent (e : MapEntry) : Value × Value := (e.key, e.val)
def encE (p : Int × Value) : Value × Value := (.int .i64 p.1, p.2)

/-- A range under way: 'rest' is still to come. -/
def IRng (w : World) (b r : Nat) (M rest : List (Int × Value)) : Prop :=
  ∃ es clock since seen c0, w.heap[b]? = some (.map es clock) ∧ es.toList.map ent = M.map encE ∧ (es.toList.map (·.born)).Nodup ∧ (∀ e ∈ es.toList, e.born < clock) ∧ (M.map (·.1)).Nodup ∧
    w.heap[r]? = some (.mapIter (some b) since seen c0) ∧ (∀ x ∈ es.toList, x.born < since) ∧ since ≤ c0 ∧ since ≤ clock ∧ (es.toList.filter fun e => !seen.contains e.born).map ent = rest.map encE

section
variable {w : World} {b r : Nat} {M rest : List (Int × Value)}
theorem IRng.map (h : IRng w b r M rest) : IMap w b M := by
  obtain ⟨es, clock, since, seen, c0, h1, h2, h3, h4, h5, _⟩ := h
  exact ⟨es, clock, h1, h2, h3, h4, h5⟩
theorem IRng.lt (h : IRng w b r M rest) : r < w.heap.size := by
  obtain ⟨es, clock, since, seen, c0, h1, h2, h3, h4, h5, h6, _⟩ := h
  exact (Array.getElem?_eq_some_iff.1 h6).1
theorem IRng.ne (h : IRng w b r M rest) : r ≠ b := by
  obtain ⟨es, clock, since, seen, c0, h1, h2, h3, h4, h5, h6, _⟩ := h
  rintro rfl
  rw [h1] at h6; cases h6
theorem IRng.keeps {w' : World} (h : IRng w b r M rest) (hb : w'.heap[b]? = w.heap[b]?) (hr : w'.heap[r]? = w.heap[r]?) : IRng w' b r M rest := by
  obtain ⟨es, clock, since, seen, c0, h1, h2, h3, h4, h5, h6, h7⟩ := h
  exact ⟨es, clock, since, seen, c0, by rw [hb]; exact h1, h2, h3, h4, h5, by rw [hr]; exact h6, h7⟩

theorem IMap.range {P : Program} {t key elem : TypeId} (h : IMap w b M) (ht : P.underlying t = some (.map key elem)) :
    ∃ w', (Instr.range t (.map (some b))).run P w = .ok (.pointer (some ⟨w.heap.size, 0, none⟩)) w' ∧ IRng w' b w.heap.size M M ∧ Fr (fun _ => False) (fun _ => 0) (fun _ => 0) w w' ∧ w'.heap.size = w.heap.size + 1 := by
  have hlt := h.lt
  obtain ⟨es, clock, hb, h2, h3, h4, h5⟩ := h
  refine ⟨_, run_range_map w t key elem b es clock ht hb, ⟨es, clock, clock, #[], clock, (heap_alloc_old w _ hlt).trans hb, h2, h3, h4, h5, heap_alloc_new w _, h4, Nat.le_refl _, Nat.le_refl _, ?_⟩, Fr.alloc0 _, by simp⟩
  rw [List.filter_eq_self.2 (by simp)]; exact h2

theorem filter_push {L : List MapEntry} {f : MapEntry → Bool} (hn : (L.map (·.born)).Nodup) : ∀ {A B : List MapEntry} {e : MapEntry}, L.filter f = A ++ e :: B → L.filter (fun x => f x && !(x.born == e.born)) = A ++ B := by
  induction L with
  | nil => intro A B e h; simp at h
  | cons x L ih =>
    intro A B e h
    rw [List.map_cons, List.nodup_cons] at hn
    have hmem : ∀ y ∈ L, y.born ≠ x.born := fun y hy e => hn.1 (List.mem_map.2 ⟨y, hy, e⟩)
    cases hf : f x with
    | false =>
      rw [List.filter_cons_of_neg (by simp [hf])] at h
      rw [List.filter_cons_of_neg (by simp [hf])]
      exact ih hn.2 h
    | true =>
      rw [List.filter_cons_of_pos hf] at h
      cases A with
      | nil =>
        simp only [List.nil_append, List.cons.injEq] at h
        obtain ⟨rfl, h⟩ := h
        rw [List.filter_cons_of_neg (by simp), List.nil_append, ← h]
        refine List.filter_congr fun y hy => ?_
        have := hmem y hy
        simp [this]
      | cons a A =>
        simp only [List.cons_append, List.cons.injEq] at h
        obtain ⟨rfl, h⟩ := h
        have he : e ∈ L := by
          have : e ∈ L.filter f := by rw [h]; simp
          exact (List.mem_filter.1 this).1
        have hne : ¬ (x.born = e.born) := fun e2 => hmem e he e2.symm
        rw [List.filter_cons_of_pos (by simp [hf, hne]), List.cons_append, ih hn.2 h]

theorem map_split {α β γ : Type} (f : α → γ) (g : β → γ) : ∀ {L : List α} {M : List β} {e : α}, L.map f = M.map g → e ∈ L → ∃ A B C p D, L = A ++ e :: B ∧ M = C ++ p :: D ∧ f e = g p ∧ A.map f = C.map g ∧ B.map f = D.map g := by
  intro L
  induction L with
  | nil => intro M e _ h; simp at h
  | cons a L ih =>
    intro M e h he
    cases M with
    | nil => simp at h
    | cons p M =>
      simp only [List.map_cons, List.cons.injEq] at h
      rcases List.mem_cons.1 he with rfl | he
      · exact ⟨[], L, [], p, M, rfl, rfl, h.1, rfl, h.2⟩
      · obtain ⟨A, B, C, q, D, e1, e2, e3, e4, e5⟩ := ih h.2 he
        exact ⟨a :: A, B, p :: C, q, D, by rw [e1]; rfl, by rw [e2]; rfl, e3, by simp [h.1, e4], e5⟩

theorem IRng.next {P : Program} (h : IRng w b r M rest) (ty : TypeId) :
    (rest = [] ∧ (Instr.next (.pointer (some ⟨r, 0, none⟩)) false ty).run P w = .ok (.tuple #[.bool false]) w) ∨
    ∃ C p D w', rest = C ++ p :: D ∧ (Instr.next (.pointer (some ⟨r, 0, none⟩)) false ty).run P w = .ok (.tuple #[.bool true, .int .i64 p.1, p.2]) w' ∧ IRng w' b r M (C ++ D) ∧
      Fr (fun k => k = 1) (fun k => if k = r then 1 else 0) (fun k => if k = r then 1 else 0) w w' ∧ w'.heap.size = w.heap.size ∧ (Instr.entry (.pointer (some ⟨r, 0, none⟩))).run P w' = .ok (.tuple #[.int .i64 p.1, p.2]) w' := by
  have hne := h.ne
  obtain ⟨es, clock, since, seen, c0, hb, h2, h3, h4, h5, hr, hold, hsc, hsk, hrest⟩ := h
  rcases run_next_at (P := P) w ty r b since c0 seen es clock hr hb hold hsc with ⟨h0, hrun⟩ | ⟨e, he, w1, hal, hrun⟩
  · refine .inl ⟨?_, hrun⟩
    have : (es.toList.filter fun e => !seen.contains e.born) = [] := by
      rw [List.filter_eq_nil_iff]
      intro x hx
      have := all_seen es seen h0 x hx
      simp only [this, Bool.not_true, Bool.false_eq_true, not_false_eq_true]
    rw [this] at hrest
    cases rest with
    | nil => rfl
    | cons a l => simp at hrest
  · have he2 : e ∈ es.toList.filter fun e => !seen.contains e.born := by
      obtain ⟨a1, a2⟩ := mem_left he
      exact List.mem_filter.2 ⟨a1, by rw [a2]; rfl⟩
    obtain ⟨A, B, C, p, D, e1, e2, e3, e4, e5⟩ := map_split ent encE hrest he2
    have hr1 : w1.heap[r]? = some (.mapIter (some b) since seen c0) := by rcases hal with rfl | rfl <;> exact hr
    have hb1 : w1.heap[b]? = some (.map es clock) := by rcases hal with rfl | rfl <;> exact hb
    have hset := heap_set (o' := .mapIter (some b) since (seen.push e.born) clock) hr1
    have hb' : (setBlock w1 r (.mapIter (some b) since (seen.push e.born) clock)).heap[b]? = some (.map es clock) := (hset.2 b (fun e1 => hne e1.symm)).trans hb1
    simp only [ent, encE, Prod.mk.injEq] at e3
    rw [e3.1, e3.2] at hrun
    have hent := run_entry_at (P := P) _ r b since seen es clock e hset.1 hb' (List.mem_filter.1 he2).1 h3
    rw [e3.1, e3.2] at hent
    refine .inr ⟨C, p, D, _, e2, hrun, ⟨es, clock, since, seen.push e.born, clock, hb', h2, h3, h4, h5, hset.1, hold, hsk, hsk, ?_⟩, ?_, ?_, hent⟩
    · have hf := filter_push h3 e1
      have : (es.toList.filter fun x => !(seen.push e.born).contains x.born) = A ++ B := by
        rw [← hf]
        refine List.filter_congr fun x _ => ?_
        rw [contains_push, Bool.not_or]
      rw [this, List.map_append, List.map_append, e4, e5]
    · rcases hal with rfl | rfl <;> exact ⟨rfl, rfl, rfl, by simp [setBlock], fun _ _ => rfl, fun i _ hi => hset.2 i (fun e1 => hi (by simp [e1]))⟩
    · rcases hal with rfl | rfl <;> simp [setBlock]

variable {P : Program} {ops : Array Oper} {ol : List Oper} {o : Oper} {a : Act} {Q : Exit → Act → World → Prop}
theorem irange_list {t key elem : TypeId} (hg : o.guard = none) (h : IMap w b M) (ht : P.underlying t = some (.map key elem)) (m : Operand) (hop : o.op = Op.range t m) (hm : a.eval m = .map (some b))
    (hK : ∀ w', IRng w' b w.heap.size M M → Fr (fun _ => False) (fun _ => 0) (fun _ => 0) w w' → w'.heap.size = w.heap.size + 1 → wpList P ops Q ol (a.put o.dst (.pointer (some ⟨w.heap.size, 0, none⟩))) w') : wpList P ops Q (o :: ol) a w := by
  refine wpList_plain hg fun K' hK' => ?_
  obtain ⟨w', hrun, r1, r2, r3⟩ := h.range ht
  unfold Oper.wp
  simp [execOp, hop, hm, hrun, Result.andThen]
  exact hK' _ _ (hK w' r1 r2 r3)
theorem inext_list (hg : o.guard = none) (h : IRng w b r M rest) (it : Operand) (hop : o.op = Op.next it false) (hit : a.eval it = .pointer (some ⟨r, 0, none⟩))
    (hDone : rest = [] → wpList P ops Q ol (a.put o.dst (.tuple #[.bool false])) w)
    (hMore : ∀ C p D w', rest = C ++ p :: D → IRng w' b r M (C ++ D) → Fr (fun k => k = 1) (fun k => if k = r then 1 else 0) (fun k => if k = r then 1 else 0) w w' → w'.heap.size = w.heap.size →
      (Instr.entry (.pointer (some ⟨r, 0, none⟩))).run P w' = .ok (.tuple #[.int .i64 p.1, p.2]) w' → wpList P ops Q ol (a.put o.dst (.tuple #[.bool true, .int .i64 p.1, p.2])) w') : wpList P ops Q (o :: ol) a w := by
  refine wpList_plain hg fun K' hK' => ?_
  unfold Oper.wp
  rcases h.next (P := P) o.type with ⟨h0, hrun⟩ | ⟨C, p, D, w', h1, hrun, h2, h3, h4, h5⟩
  · simp [execOp, hop, hit, hrun, Result.andThen]
    exact hK' _ _ (hDone h0)
  · simp [execOp, hop, hit, hrun, Result.andThen]
    exact hK' _ _ (hMore C p D w' h1 h2 h3 h4 h5)
end
end Go.Proofs.Ytpjiemffkkfbkaa
