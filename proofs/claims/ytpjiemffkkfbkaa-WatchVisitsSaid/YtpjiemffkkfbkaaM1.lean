/- Words for maps whose keys are numbers: a list of keys and values. Nothing of a program is named here. -/
import Derived.Test.YtpjiemffkkfbkaaM0
import Derived.Maps.Own
namespace Go.Proofs.Ytpjiemffkkfbkaa
open Go.RowKit Go.Maps

/-- Where a key stands in a list, and what it has. -/
def mfind : List (Int × Value) → Int → Option (Nat × Value)
  | [], _ => none
  | (k, v) :: M, a => if a = k then some (0, v) else (mfind M a).map fun p => (p.1 + 1, p.2)
def mget (M : List (Int × Value)) (a : Int) : Option Value := (mfind M a).map (·.2)
def mput (M : List (Int × Value)) (a : Int) (v : Value) : List (Int × Value) :=
  match mfind M a with
  | some (j, _) => M.set j (a, v)
  | none => M ++ [(a, v)]

theorem mfind_some : ∀ (M : List (Int × Value)) (a : Int) (j : Nat) (v : Value), mfind M a = some (j, v) → M[j]? = some (a, v) := by
  intro M
  induction M with
  | nil => intro a j v h; cases h
  | cons p M ih =>
    intro a j v h
    obtain ⟨k, x⟩ := p
    simp only [mfind] at h
    split at h
    · rename_i e; simp only [Option.some.injEq, Prod.mk.injEq] at h; obtain ⟨rfl, rfl⟩ := h; subst e; rfl
    · simp only [Option.map_eq_some_iff] at h
      obtain ⟨⟨i, y⟩, h1, h2⟩ := h
      simp only [Prod.mk.injEq] at h2
      obtain ⟨rfl, rfl⟩ := h2
      simpa using ih _ _ _ h1

theorem mfind_none : ∀ (M : List (Int × Value)) (a : Int), mfind M a = none ↔ a ∉ M.map (·.1) := by
  intro M
  induction M with
  | nil => intro a; simp [mfind]
  | cons p M ih =>
    intro a
    obtain ⟨k, x⟩ := p
    simp only [mfind]
    by_cases e : a = k
    · simp [e]
    · rw [if_neg e, Option.map_eq_none_iff, ih]; simp [e]

theorem mget_none (M : List (Int × Value)) (a : Int) : mget M a = none ↔ a ∉ M.map (·.1) := by rw [mget, Option.map_eq_none_iff, mfind_none]

theorem mput_cons (k : Int) (x : Value) (M : List (Int × Value)) (a : Int) (v : Value) : mput ((k, x) :: M) a v = if a = k then (a, v) :: M else (k, x) :: mput M a v := by
  unfold mput
  simp only [mfind]
  by_cases e : a = k
  · rw [if_pos e, if_pos e]; rfl
  · rw [if_neg e, if_neg e]
    cases h : mfind M a with
    | none => rfl
    | some p => rfl

theorem mget_mput (M : List (Int × Value)) (a b : Int) (v : Value) : mget (mput M a v) b = if b = a then some v else mget M b := by
  induction M with
  | nil =>
    show mget [(a, v)] b = _
    unfold mget; simp only [mfind]
    by_cases e : b = a
    · rw [if_pos e, if_pos e]; rfl
    · rw [if_neg e, if_neg e]; rfl
  | cons p M ih =>
    obtain ⟨k, x⟩ := p
    rw [mput_cons]
    by_cases e : a = k
    · rw [if_pos e]
      unfold mget; simp only [mfind]
      by_cases e2 : b = a
      · rw [if_pos e2, if_pos e2]; rfl
      · rw [if_neg e2, if_neg e2, if_neg (show ¬ b = k by omega)]
    · rw [if_neg e]
      unfold mget at ih ⊢
      simp only [mfind]
      by_cases e2 : b = k
      · rw [if_pos e2, if_pos e2, if_neg (show ¬ b = a by omega)]
      · rw [if_neg e2, if_neg e2]
        simp only [Option.map_map] at ih ⊢
        exact ih

theorem mput_keys (M : List (Int × Value)) (a : Int) (v : Value) : (mput M a v).map (·.1) = if a ∈ M.map (·.1) then M.map (·.1) else M.map (·.1) ++ [a] := by
  induction M with
  | nil => simp [mput, mfind]
  | cons p M ih =>
    obtain ⟨k, x⟩ := p
    rw [mput_cons]
    by_cases e : a = k
    · subst e; simp
    · rw [if_neg e, List.map_cons, ih]
      by_cases h : a ∈ M.map (·.1)
      · rw [if_pos h, if_pos (by simp [h])]; rfl
      · rw [if_neg h, if_neg (by simp [e, h])]; rfl

/-- Block b is a map of numbers to what M says. -/
def IMap (w : World) (b : Nat) (M : List (Int × Value)) : Prop :=
  ∃ es clock, w.heap[b]? = some (.map es clock) ∧ es.toList.map (fun e => (e.key, e.val)) = M.map (fun p => (Value.int .i64 p.1, p.2)) ∧
    (es.toList.map (·.born)).Nodup ∧ (∀ e ∈ es.toList, e.born < clock) ∧ (M.map (·.1)).Nodup

theorem IMap.keeps {S : Nat → Prop} {o o' : Own} {w w' : World} {b : Nat} {M : List (Int × Value)} (h : IMap w b M) (hf : Fr S o o' w w') (hs : ¬ S (o b)) : IMap w' b M := by
  obtain ⟨es, clock, h1, h2⟩ := h
  exact ⟨es, clock, (hf.keeps h1 hs).1, h2⟩
theorem IMap.sm {w w' : World} {b : Nat} {M : List (Int × Value)} (h : IMap w b M) (hs : Sm w w') : IMap w' b M := by
  obtain ⟨es, clock, h1, h2⟩ := h
  exact ⟨es, clock, by rw [hs.heap]; exact h1, h2⟩
theorem IMap.new (w : World) : IMap (w.alloc (.map #[] 0)) w.heap.size [] := ⟨#[], 0, heap_alloc_new w _, by simp, by simp, by simp, by simp⟩
theorem IMap.lt {w : World} {b : Nat} {M : List (Int × Value)} (h : IMap w b M) : b < w.heap.size := by
  obtain ⟨es, clock, h1, _⟩ := h
  exact (Array.getElem?_eq_some_iff.1 h1).1

theorem findNow_int (a : Int) : ∀ (es : List MapEntry) (M : List (Int × Value)) (i : Nat), es.map (fun e => (e.key, e.val)) = M.map (fun p => (Value.int .i64 p.1, p.2)) →
    Instr.findNow (.int .i64) (.int .i64 a) es i = some ((mfind M a).map fun p => (i + p.1, p.2)) := by
  intro es
  induction es with
  | nil => intro M i h; cases M with
    | nil => rfl
    | cons p M => simp at h
  | cons e es ih =>
    intro M i h
    cases M with
    | nil => simp at h
    | cons p M =>
      obtain ⟨k, x⟩ := p
      simp only [List.map_cons, List.cons.injEq, Prod.mk.injEq] at h
      obtain ⟨⟨hk, hx⟩, ht⟩ := h
      simp only [Instr.findNow, hk, Instr.sameNow, if_true, mfind]
      by_cases e2 : a = k
      · simp [e2, hx]
      · have : (a == k) = false := by simpa using e2
        rw [this, if_neg e2]
        simp only [ih M (i + 1) ht, Option.map_map]
        congr 2
        funext p
        simp [Nat.add_assoc, Nat.add_comm 1]

section
variable {P : Program} {w : World} {b : Nat} {M : List (Int × Value)} {t key elem : TypeId}

theorem checkKey_succ (hk : P.underlying key = some (.int .i64)) (em : Bool) (a : Int) (w : World) (n : Nat) : (Instr.checkKey em (n + 1) key (.int .i64 a)).run P w = .ok () w := by
  simp [Instr.checkKey, run_underlying hk]
theorem checkKey_int (hk : P.underlying key = some (.int .i64)) (em : Bool) (a : Int) (w : World) : (Instr.checkKey em 10000 key (.int .i64 a)).run P w = .ok () w := checkKey_succ hk em a w 9999

theorem findKey_int (hk : P.underlying key = some (.int .i64)) {es : List MapEntry} {M : List (Int × Value)} (hes : es.map (fun e => (e.key, e.val)) = M.map (fun p => (Value.int .i64 p.1, p.2))) (a : Int) (w : World) :
    (Instr.findKey key (.int .i64 a) es).run P w = .ok (mfind M a) w := by
  have h := findNow_int a es M 0 hes
  unfold Instr.findKey
  simp only [Sem.run_bind, run_underlying hk, Result.andThen_ok, h, Sem.run_pure]
  congr 1
  cases mfind M a <;> simp

/-- 'm[k]': the run. -/
theorem IMap.lookup (h : IMap w b M) (ht : P.underlying t = some (.map key elem)) (hk : P.underlying key = some (.int .i64)) {z : Value} (hz : ∀ w, (zeroValue elem).run P w = .ok z w) (a : Int) :
    (Instr.lookup t (.map (some b)) (.int .i64 a) false).run P w = .ok ((mget M a).getD z) w := by
  obtain ⟨es, clock, hb, hes, _⟩ := h
  have hf := fun w => findKey_int (P := P) hk hes a w
  cases h : mfind M a <;> simp [Instr.lookup, run_underlying ht, MapKept.run_getObj_map hb, checkKey_int hk, hf, h, hz, mget, Result.andThen]

/-- 'v, ok := m[k]': the run. -/
theorem IMap.lookup_ok (h : IMap w b M) (ht : P.underlying t = some (.map key elem)) (hk : P.underlying key = some (.int .i64)) {z : Value} (hz : ∀ w, (zeroValue elem).run P w = .ok z w) (a : Int) :
    (Instr.lookup t (.map (some b)) (.int .i64 a) true).run P w = .ok (.tuple #[(mget M a).getD z, .bool (mget M a).isSome]) w := by
  obtain ⟨es, clock, hb, hes, _⟩ := h
  have hf := fun w => findKey_int (P := P) hk hes a w
  cases h : mfind M a <;> simp [Instr.lookup, run_underlying ht, MapKept.run_getObj_map hb, checkKey_int hk, hf, h, hz, mget, Result.andThen]

/-- 'm[k] = v': the run: the block's new object. -/
theorem IMap.update (h : IMap w b M) (ht : P.underlying t = some (.map key elem)) (hk : P.underlying key = some (.int .i64)) (a : Int) (v : Value) :
    ∃ w', (Instr.mapUpdate t (.map (some b)) (.int .i64 a) v).run P w = .ok () w' ∧ IMap w' b (mput M a v) ∧ (∀ k, k ≠ b → w'.heap[k]? = w.heap[k]?) ∧
      w'.os = w.os ∧ w'.tape = w.tape ∧ w'.output = w.output ∧ w'.heap.size = w.heap.size := by
  obtain ⟨es, clock, hb, hes, hborn, hlt, hnd⟩ := h
  have hbs := (Array.getElem?_eq_some_iff.1 hb).1
  have hstay : ∀ w, (Instr.keyThatStays (.int .i64 a) (.int .i64 a)).run P w = .ok (.int .i64 a) w := by intro w; simp [Instr.keyThatStays, Instr.sameBits]
  have hfk := fun w => findKey_int (P := P) hk hes a w
  cases hf : mfind M a with
  | none =>
    refine ⟨{ w with heap := w.heap.setIfInBounds b (.map (es.push { key := .int .i64 a, val := v, born := clock }) (clock + 1)) }, by simp [Instr.mapUpdate, run_underlying ht, MapKept.run_getObj_map hb, checkKey_int hk, hfk, hf, MapKept.run_setObj_map _ hb, Result.andThen], ?_, ?_, rfl, rfl, rfl, by simp⟩
    refine ⟨es.push { key := .int .i64 a, val := v, born := clock }, clock + 1, by simp [hbs], ?_, ?_, ?_, ?_⟩
    · simp [hes, mput, hf]
    · simp only [Array.toList_push, List.map_append, List.map_cons, List.map_nil]
      rw [List.nodup_append]
      refine ⟨hborn, by simp, ?_⟩
      intro x hx y hy
      simp only [List.mem_singleton] at hy
      obtain ⟨e, he, rfl⟩ := List.mem_map.1 hx
      have := hlt e he
      omega
    · intro e he
      simp only [Array.toList_push, List.mem_append, List.mem_singleton] at he
      rcases he with he | rfl
      · have := hlt e he; omega
      · simp
    · rw [mput_keys, if_neg ((mfind_none M a).1 hf), List.nodup_append]
      refine ⟨hnd, by simp, ?_⟩
      intro x hx y hy
      simp only [List.mem_singleton] at hy
      subst hy
      intro e; subst e
      exact (mfind_none M x).1 hf hx
    · intro k hk
      rw [Array.getElem?_setIfInBounds_ne (by omega)]
  | some p =>
    obtain ⟨j, x⟩ := p
    have hM := mfind_some M a j x hf
    have hj : j < es.toList.length := by
      have h1 := congrArg List.length hes
      simp only [List.length_map] at h1
      rw [h1]; exact (List.getElem?_eq_some_iff.1 hM).1
    have hej : (es.toList[j]'hj).key = .int .i64 a := by
      have h1 := congrArg (·[j]?) hes
      simp only [List.getElem?_map, hM, Option.map_some] at h1
      rw [List.getElem?_eq_getElem hj] at h1
      simp only [Option.map_some, Option.some.injEq, Prod.mk.injEq] at h1
      exact h1.1
    have hkey : ((es[j]?).map (·.key)).getD (.int .i64 a) = .int .i64 a := by
      have : es[j]? = some (es.toList[j]'hj) := by simp
      rw [this]; simpa using hej
    have hmod : (es.modify j fun e => { e with key := .int .i64 a, val := v }).toList = es.toList.set j { es.toList[j]'hj with key := .int .i64 a, val := v } := by
      rw [Array.toList_modify]
      apply List.ext_getElem?
      intro i
      rw [List.getElem?_modify, List.getElem?_set]
      by_cases e : j = i
      · subst e
        rw [if_pos rfl, if_pos hj, List.getElem?_eq_getElem hj]; simp
      · rw [if_neg e]; simp [e]
    refine ⟨{ w with heap := w.heap.setIfInBounds b (.map (es.modify j fun e => { e with key := .int .i64 a, val := v }) clock) }, ?_, ?_, ?_, rfl, rfl, rfl, by simp⟩
    · simp only [Instr.mapUpdate, Sem.run_bind, run_underlying ht, Result.andThen_ok, MapKept.run_getObj_map hb, checkKey_int hk, hfk, hf, hkey, hstay, MapKept.run_setObj_map _ hb]
    refine ⟨es.modify j fun e => { e with key := .int .i64 a, val := v }, clock, by simp [hbs], ?_, ?_, ?_, ?_⟩
    · rw [hmod, List.map_set, hes]
      simp [mput, hf, List.map_set]
    · rw [hmod, List.map_set]
      have : (es.toList.map (·.born)).set j (es.toList[j]'hj).born = es.toList.map (·.born) := by
        apply List.ext_getElem?
        intro i
        rw [List.getElem?_set]
        by_cases e : j = i
        · subst e; rw [if_pos rfl, if_pos (by simpa using hj), List.getElem?_map, List.getElem?_eq_getElem hj]; rfl
        · rw [if_neg e]
      rw [this]; exact hborn
    · intro e he
      rw [hmod] at he
      rcases List.mem_or_eq_of_mem_set he with he | rfl
      · exact hlt e he
      · exact hlt (es.toList[j]'hj) (List.getElem_mem hj)
    · rw [mput_keys]
      split
      · exact hnd
      · rename_i hn; exact absurd (List.mem_map.2 ⟨(a, x), List.mem_of_getElem? hM, rfl⟩) hn
    · intro k hk
      rw [Array.getElem?_setIfInBounds_ne (by omega)]

/-- .. as a turn of one role. -/
theorem IMap.update_fr (h : IMap w b M) (ht : P.underlying t = some (.map key elem)) (hk : P.underlying key = some (.int .i64)) (a : Int) (v : Value) (o : Own) {S : Nat → Prop} (hS : S (o b)) :
    ∃ w', (Instr.mapUpdate t (.map (some b)) (.int .i64 a) v).run P w = .ok () w' ∧ IMap w' b (mput M a v) ∧ Fr S o o w w' := by
  obtain ⟨w', h1, h2, h3, h4, h5, h6, h7⟩ := h.update ht hk a v
  exact ⟨w', h1, h2, h4, h5, h6, by omega, fun _ _ => rfl, fun k _ hs => h3 k (fun e => hs (by rw [e]; exact hS))⟩

/-- .. at the operation. -/
theorem imapUpdate_wp {o : Oper} {a : Act} {Q : Exit → Act → World → Prop} (h : IMap w b M) (ht : P.underlying t = some (.map key elem)) (hk : P.underlying key = some (.int .i64)) (m x v : Operand) (hop : o.op = Op.mapUpdate t m x v)
    (hm : a.eval m = .map (some b)) {n : Int} (hx : a.eval x = .int .i64 n) {val : Value} (hv : a.eval v = val) {O : Own} {S : Nat → Prop} (hS : S (O b)) {K : Act → World → Prop}
    (hK : ∀ w', IMap w' b (mput M n val) → Fr S O O w w' → K (a.put o.dst undef) w') : o.wp P a w K Q := by
  obtain ⟨w', hrun, r1, r2⟩ := h.update_fr ht hk n val O hS
  unfold Oper.wp
  simp [execOp, hop, hm, hx, hv, hrun, Result.andThen]
  exact hK w' r1 r2

theorem imapUpdate_list {ops : Array Oper} {rest : List Oper} {o : Oper} {a : Act} {Q : Exit → Act → World → Prop} (hg : o.guard = none) (h : IMap w b M) (ht : P.underlying t = some (.map key elem)) (hk : P.underlying key = some (.int .i64))
    (m x v : Operand) (hop : o.op = Op.mapUpdate t m x v) (hm : a.eval m = .map (some b)) {n : Int} (hx : a.eval x = .int .i64 n) {val : Value} (hv : a.eval v = val) {O : Own} {S : Nat → Prop} (hS : S (O b))
    (hK : ∀ w', IMap w' b (mput M n val) → Fr S O O w w' → wpList P ops Q rest (a.put o.dst undef) w') : wpList P ops Q (o :: rest) a w :=
  wpList_plain hg fun _ hK' => imapUpdate_wp h ht hk m x v hop hm hx hv hS fun w' r1 r2 => hK' _ _ (hK w' r1 r2)

theorem imapUpdate_step {ops : Array Oper} {o : Oper} {a : Act} {Q : Exit → Act → World → Prop} {K : Act → World → Prop} {E : Prop} (hgd : o.guard = none) (h : IMap w b M) (ht : P.underlying t = some (.map key elem)) (hk : P.underlying key = some (.int .i64))
    (m x v : Operand) (hop : o.op = Op.mapUpdate t m x v) (hm : a.eval m = .map (some b)) {n : Int} (hx : a.eval x = .int .i64 n) {val : Value} (hv : a.eval v = val) {O : Own} {S : Nat → Prop} (hS : S (O b))
    (hK : ∀ w', IMap w' b (mput M n val) → Fr S O O w w' → K (a.put o.dst undef) w') : if Region.wanted o (yielded ops a.tmps) = true then Oper.wp P o a w K Q else E := by
  have hw : Region.wanted o (yielded ops a.tmps) = true := by simp [Region.wanted, hgd]
  rw [if_pos hw]
  exact imapUpdate_wp h ht hk m x v hop hm hx hv hS hK
end
end Go.Proofs.Ytpjiemffkkfbkaa
