/- Plain laws of watch, part 1: what the data and the moves of the propagator mean, in plain Lean with no program in sight. -/
/- Plain words for literals and a trail: what package lit and package trail compute, on lists alone. -/
namespace Go.Proofs.Ytpjiemffkkfbkaa

/-- Is it a literal of so many variables? -/
def litIn (l : Int) (n : Nat) : Bool := decide (l ≠ 0 ∧ l ≤ n ∧ -(n : Int) ≤ l)

/-- A literal's variable's place in the list. -/
def vi (l : Int) : Nat := l.natAbs - 1

/-- 1 or -1. -/
def sgn (l : Int) : Int := if l < 0 then -1 else 1

/-- A literal's index. -/
def ix (l : Int) : Nat := if l < 0 then 2 * (l.natAbs - 1) + 1 else 2 * (l.natAbs - 1)

theorem litIn_iff {l : Int} {n : Nat} : litIn l n = true ↔ l ≠ 0 ∧ l ≤ n ∧ -(n : Int) ≤ l := by simp [litIn]
theorem vi_lt {l : Int} {n : Nat} (h : litIn l n = true) : vi l < n := by
  rw [litIn_iff] at h; unfold vi; omega
theorem litIn_neg {l : Int} {n : Nat} : litIn (-l) n = litIn l n := by
  unfold litIn; congr 1; apply propext; omega
theorem vi_neg (l : Int) : vi (-l) = vi l := by unfold vi; omega
theorem eq_of_vi {l m : Int} {n : Nat} (hl : litIn l n = true) (hm : litIn m n = true) (h : vi l = vi m) : l = m ∨ l = -m := by
  rw [litIn_iff] at hl hm; unfold vi at h; omega

/-- What is known of a variable. -/
structure Cell where
  v : Int
  lv : Int
  rs : Int
  pl : Int
  ph : Bool
  deriving Inhabited

def Cell.zero : Cell := ⟨0, 0, 0, 0, false⟩

/-- A trail. -/
structure TS where
  vars : List Cell
  l : List Int
  st : List Int

namespace TS

def n (σ : TS) : Nat := σ.vars.length
def ok (σ : TS) (l : Int) : Bool := litIn l σ.vars.length
def get (σ : TS) (l : Int) : Cell := σ.vars.getD (vi l) Cell.zero
/-- Is its variable on the trail? -/
def on (σ : TS) (l : Int) : Bool := σ.ok l && (σ.get l).v != 0
def value (σ : TS) (l : Int) : Int := if σ.on l then (if l < 0 then -(σ.get l).v else (σ.get l).v) else 0
def level (σ : TS) : Nat := σ.st.length
def levelOf (σ : TS) (l : Int) : Int := if σ.on l then (σ.get l).lv else -1
def reason (σ : TS) (l : Int) : Int := if σ.on l then (σ.get l).rs else -1
def place (σ : TS) (l : Int) : Int := if σ.on l then (σ.get l).pl else -1
def at_ (σ : TS) (i : Int) : Int := if 0 ≤ i ∧ i < σ.l.length then σ.l.getD i.toNat 0 else 0
def full (σ : TS) : Bool := σ.l.length == σ.vars.length
def assignment (σ : TS) : List Bool := σ.vars.map fun c => c.v == 1 || c.v == 0 && c.ph
/-- May a literal be put? -/
def free (σ : TS) (l : Int) : Bool := σ.ok l && (σ.get l).v == 0
def put (σ : TS) (l r : Int) : TS :=
  { vars := σ.vars.set (vi l) ⟨sgn l, σ.st.length, r, σ.l.length, decide (0 < l)⟩, l := σ.l ++ [l], st := σ.st }
def decide_ (σ : TS) (l : Int) : TS := ({ σ with st := σ.st ++ [(σ.l.length : Int)] }).put l (-1)
/-- A variable's value goes. -/
def clear (vs : List Cell) (l : Int) : List Cell := vs.set (vi l) { vs.getD (vi l) Cell.zero with v := 0 }
def backTo (σ : TS) (k : Nat) : Nat := (σ.st.getD k 0).toNat
def back (σ : TS) (k : Nat) : TS :=
  { vars := (σ.l.drop (σ.backTo k)).reverse.foldl clear σ.vars, l := σ.l.take (σ.backTo k), st := σ.st.take k }
def empty (n : Nat) : TS := ⟨List.replicate n Cell.zero, [], []⟩

/-- How many decisions stand at places up to i. -/
def lvAt (σ : TS) (i : Nat) : Nat := (σ.st.filter fun s => decide (s ≤ (i : Int))).length

/-- What holds of every trail that is made by putting, deciding and taking back. -/
structure WF (σ : TS) : Prop where
  nle : σ.vars.length ≤ 100000
  vals : ∀ c ∈ σ.vars, c.v = -1 ∨ c.v = 0 ∨ c.v = 1
  lit : ∀ (i : Nat) x, σ.l[i]? = some x → σ.ok x = true ∧ (σ.get x).v = sgn x ∧ (σ.get x).pl = i ∧ (σ.get x).lv = σ.lvAt i
  all : ∀ x, σ.ok x = true → (σ.get x).v ≠ 0 → ∃ i : Nat, σ.l[i]? = some x ∨ σ.l[i]? = some (-x)
  st : ∀ (k : Nat) s, σ.st[k]? = some s → 0 ≤ s ∧ s < σ.l.length
  mono : σ.st.Pairwise (· < ·)

theorem get_neg (σ : TS) (l : Int) : σ.get (-l) = σ.get l := by unfold get; rw [vi_neg]
theorem ok_neg (σ : TS) (l : Int) : σ.ok (-l) = σ.ok l := litIn_neg
theorem on_neg (σ : TS) (l : Int) : σ.on (-l) = σ.on l := by unfold on; rw [ok_neg, get_neg]

theorem get_mem {σ : TS} {l : Int} (h : σ.ok l = true) : σ.get l ∈ σ.vars := by
  have := vi_lt h
  unfold get
  rw [List.getD_eq_getElem?_getD, List.getElem?_eq_getElem this]
  exact List.getElem_mem this

theorem WF.empty {n : Nat} (h : n ≤ 100000) : (TS.empty n).WF where
  nle := by simpa [TS.empty] using h
  vals := by intro c hc; simp [TS.empty] at hc; simp [hc.2, Cell.zero]
  lit := by intro i x hx; simp [TS.empty] at hx
  all := by
    intro x hx hv
    have h0 : (TS.empty n).get x = Cell.zero := List.eq_of_mem_replicate (get_mem hx)
    exact absurd (by rw [h0]; rfl) hv
  st := by intro k s h; simp [TS.empty] at h
  mono := by simp [TS.empty]

theorem eq_of_nodup_aux {σ : TS} (h : σ.WF) {i j : Nat} {x y : Int} (hi : σ.l[i]? = some x) (hj : σ.l[j]? = some y) (hv : vi x = vi y) : i = j := by
  have h1 := (h.lit i x hi).2.2.1
  have h2 := (h.lit j y hj).2.2.1
  unfold get at h1 h2
  rw [hv] at h1
  omega

/-- The places of the variables on the trail are all different. -/
theorem WF.nodup {σ : TS} (h : σ.WF) : (σ.l.map vi).Nodup := by
  rw [List.nodup_iff_pairwise_ne, List.pairwise_iff_getElem]
  intro i j hi hj hij e
  simp only [List.getElem_map] at e
  simp only [List.length_map] at hi hj
  have := eq_of_nodup_aux h (List.getElem?_eq_getElem hi) (List.getElem?_eq_getElem hj) e
  omega

theorem length_le_of_nodup_lt : ∀ (n : Nat) (l : List Nat), l.Nodup → (∀ x ∈ l, x < n) → l.length ≤ n := by
  intro n
  induction n with
  | zero => intro l _ h; cases l with
    | nil => simp
    | cons a l => exact absurd (h a (by simp)) (by omega)
  | succ n ih =>
    intro l hd h
    have h1 := ih (l.erase n) (hd.erase n) (fun x hx => by
      have hne : x ≠ n := fun e => by subst e; exact (List.Nodup.not_mem_erase hd) hx
      have := h x (List.mem_of_mem_erase hx)
      omega)
    have h2 : l.length ≤ (l.erase n).length + 1 := by rw [List.length_erase]; split <;> omega
    omega

theorem WF.len {σ : TS} (h : σ.WF) : σ.l.length ≤ σ.vars.length := by
  have := length_le_of_nodup_lt σ.vars.length (σ.l.map vi) h.nodup (by
    intro x hx
    obtain ⟨y, hy, rfl⟩ := List.mem_map.1 hx
    obtain ⟨i, hi, rfl⟩ := List.mem_iff_getElem.1 hy
    exact vi_lt (h.lit i _ (List.getElem?_eq_getElem hi)).1)
  simpa using this

theorem pairwise_lt_len : ∀ (l : List Int) (a b : Int), l.Pairwise (· < ·) → (∀ x ∈ l, a ≤ x ∧ x < b) → a ≤ b → (l.length : Int) ≤ b - a := by
  intro l
  induction l with
  | nil => intro a b _ _ h; simp; omega
  | cons x l ih =>
    intro a b hp h hab
    rw [List.pairwise_cons] at hp
    have hx := h x (by simp)
    have := ih (x + 1) b hp.2 (fun y hy => ⟨by have := hp.1 y hy; omega, (h y (by simp [hy])).2⟩) (by omega)
    simp only [List.length_cons]
    omega

theorem WF.lev {σ : TS} (h : σ.WF) : σ.st.length ≤ σ.l.length := by
  have := pairwise_lt_len σ.st 0 σ.l.length h.mono (fun x hx => by
    obtain ⟨i, hi, rfl⟩ := List.mem_iff_getElem.1 hx
    exact h.st i _ (List.getElem?_eq_getElem hi)) (by omega)
  omega

theorem sgn_ne (l : Int) : sgn l ≠ 0 := by unfold sgn; split <;> omega

theorem get_set {vs : List Cell} {i : Nat} {c : Cell} (h : i < vs.length) (j : Nat) : (vs.set i c).getD j Cell.zero = if j = i then c else vs.getD j Cell.zero := by
  rw [List.getD_eq_getElem?_getD, List.getElem?_set, List.getD_eq_getElem?_getD]
  by_cases e : i = j
  · subst e; simp [h]
  · rw [if_neg e, if_neg (fun h => e h.symm)]

theorem filter_all_len {l : List Int} {p : Int → Bool} (h : ∀ x ∈ l, p x = true) : (l.filter p).length = l.length := by
  rw [List.filter_eq_self.2 h]

/-- Putting a literal whose variable is free, at the level or at a level more. -/
theorem WF.put' {σ : TS} (h : σ.WF) {l r : Int} (hf : σ.free l = true) (st' : List Int) (hst : st' = σ.st ∨ st' = σ.st ++ [(σ.l.length : Int)]) :
    (({ σ with st := st' } : TS).put l r).WF := by
  simp only [free, Bool.and_eq_true, beq_iff_eq] at hf
  obtain ⟨hok, hv⟩ := hf
  have hlt : vi l < σ.vars.length := vi_lt hok
  have hget : ∀ x, (({ σ with st := st' } : TS).put l r).get x = if vi x = vi l then ⟨sgn l, st'.length, r, σ.l.length, decide (0 < l)⟩ else σ.get x := by
    intro x
    show (σ.vars.set (vi l) _).getD (vi x) Cell.zero = _
    rw [get_set hlt]; rfl
  have hokk : ∀ x, (({ σ with st := st' } : TS).put l r).ok x = σ.ok x := by intro x; simp [ok, TS.put]
  have hmem : ∀ s ∈ st', 0 ≤ s ∧ s ≤ σ.l.length := by
    intro s hs
    have h0 : ∀ s ∈ σ.st, 0 ≤ s ∧ s ≤ σ.l.length := by
      intro s hs
      obtain ⟨k, hk, rfl⟩ := List.mem_iff_getElem.1 hs
      have := h.st k _ (List.getElem?_eq_getElem hk)
      omega
    rcases hst with rfl | rfl
    · exact h0 s hs
    · rcases List.mem_append.1 hs with hs | hs
      · exact h0 s hs
      · simp at hs; omega
  have hlv : ∀ i : Nat, i < σ.l.length → (({ σ with st := st' } : TS).put l r).lvAt i = σ.lvAt i := by
    intro i hi
    show (st'.filter _).length = _
    rcases hst with rfl | rfl
    · rfl
    · rw [List.filter_append]
      have : ([(σ.l.length : Int)].filter fun s => decide (s ≤ (i : Int))) = [] := by simp; omega
      rw [this, List.append_nil]; rfl
  refine ⟨by simpa [TS.put] using h.nle, ?_, ?_, ?_, ?_, ?_⟩
  · intro c hc
    rcases List.mem_or_eq_of_mem_set hc with hc | rfl
    · exact h.vals c hc
    · simp only [sgn]; split <;> simp
  · intro i x hx
    have hx' : (σ.l ++ [l])[i]? = some x := hx
    rw [hokk, hget]
    by_cases hi : i < σ.l.length
    · rw [List.getElem?_append_left hi] at hx'
      have h4 := h.lit i x hx'
      have hne : vi x ≠ vi l := by
        intro e
        have : σ.get x = σ.get l := by unfold get; rw [e]
        rw [this] at h4
        exact sgn_ne x (h4.2.1.symm.trans hv)
      rw [if_neg hne, hlv i hi]
      exact h4
    · rw [List.getElem?_append_right (by omega)] at hx'
      have hi2 : i = σ.l.length := by
        rcases Nat.lt_or_ge (i - σ.l.length) 1 with h1 | h1
        · omega
        · rw [List.getElem?_eq_none (by simpa using h1)] at hx'; cases hx'
      subst hi2
      simp at hx'
      subst hx'
      rw [if_pos rfl]
      refine ⟨hok, rfl, rfl, ?_⟩
      show ((st'.length : Nat) : Int) = ((st'.filter fun s => decide (s ≤ (σ.l.length : Int))).length : Nat)
      rw [filter_all_len]
      intro s hs; simpa using (hmem s hs).2
  · intro x hx hvx
    rw [hokk] at hx
    rw [hget] at hvx
    show ∃ i : Nat, (σ.l ++ [l])[i]? = some x ∨ (σ.l ++ [l])[i]? = some (-x)
    by_cases e : vi x = vi l
    · refine ⟨σ.l.length, ?_⟩
      rw [List.getElem?_append_right (Nat.le_refl _)]
      simp
      rcases eq_of_vi hx hok e with e | e <;> omega
    · rw [if_neg e] at hvx
      obtain ⟨i, hi⟩ := h.all x hx hvx
      refine ⟨i, ?_⟩
      have hlt : i < σ.l.length := by
        rcases hi with hi | hi <;> exact (List.getElem?_eq_some_iff.1 hi).1
      rw [List.getElem?_append_left hlt]
      exact hi
  · intro k s hs
    have := hmem s (List.mem_of_getElem? hs)
    show 0 ≤ s ∧ s < ((σ.l ++ [l]).length : Nat)
    simp; omega
  · show st'.Pairwise (· < ·)
    rcases hst with rfl | rfl
    · exact h.mono
    · rw [List.pairwise_append]
      refine ⟨h.mono, by simp, fun a ha b hb => ?_⟩
      simp at hb; subst hb
      obtain ⟨k, hk, rfl⟩ := List.mem_iff_getElem.1 ha
      exact (h.st k _ (List.getElem?_eq_getElem hk)).2

theorem WF.put {σ : TS} (h : σ.WF) {l r : Int} (hf : σ.free l = true) : (σ.put l r).WF := h.put' hf σ.st (.inl rfl)
theorem WF.decided {σ : TS} (h : σ.WF) {l : Int} (hf : σ.free l = true) : (σ.decide_ l).WF := h.put' hf _ (.inr rfl)

theorem clear_get (vs : List Cell) (l : Int) (j : Nat) : (clear vs l).getD j Cell.zero = if j = vi l then { vs.getD j Cell.zero with v := 0 } else vs.getD j Cell.zero := by
  unfold clear
  by_cases h : vi l < vs.length
  · rw [get_set h]
    by_cases e : j = vi l
    · rw [if_pos e, if_pos e, e]
    · rw [if_neg e, if_neg e]
  · rw [List.set_eq_of_length_le (by omega)]
    by_cases e : j = vi l
    · rw [if_pos e]
      have : vs.getD j Cell.zero = Cell.zero := by rw [List.getD_eq_getElem?_getD, List.getElem?_eq_none (by omega)]; rfl
      rw [this]; rfl
    · rw [if_neg e]

theorem clears_get (D : List Int) : ∀ (vs : List Cell) (j : Nat), (D.foldl clear vs).getD j Cell.zero = if j ∈ D.map vi then { vs.getD j Cell.zero with v := 0 } else vs.getD j Cell.zero := by
  induction D with
  | nil => intro vs j; simp
  | cons d D ih =>
    intro vs j
    rw [List.foldl_cons, ih, clear_get]
    by_cases h1 : j ∈ D.map vi <;> by_cases h2 : j = vi d <;> simp [h1, h2]

theorem clears_length (D : List Int) : ∀ vs : List Cell, (D.foldl clear vs).length = vs.length := by
  induction D with
  | nil => intro vs; rfl
  | cons d D ih => intro vs; rw [List.foldl_cons, ih]; simp [clear]

theorem clears_mem (D : List Int) : ∀ (vs : List Cell), (∀ c ∈ vs, c.v = -1 ∨ c.v = 0 ∨ c.v = 1) → ∀ c ∈ D.foldl clear vs, c.v = -1 ∨ c.v = 0 ∨ c.v = 1 := by
  induction D with
  | nil => intro vs h; exact h
  | cons d D ih =>
    intro vs h
    rw [List.foldl_cons]
    refine ih _ fun c hc => ?_
    rcases List.mem_or_eq_of_mem_set hc with hc | rfl
    · exact h c hc
    · simp

theorem WF.backTo_lt {σ : TS} (h : σ.WF) {k : Nat} (hk : k < σ.st.length) : σ.backTo k < σ.l.length ∧ σ.st[k]? = some (σ.backTo k : Int) := by
  have h0 := List.getElem?_eq_getElem hk
  have h1 := h.st k _ h0
  unfold backTo
  rw [List.getD_eq_getElem?_getD, h0]
  simp only [Option.getD_some]
  constructor
  · omega
  · congr 1; omega

theorem back_get {σ : TS} (k : Nat) (x : Int) : (σ.back k).get x = if vi x ∈ (σ.l.drop (σ.backTo k)).map vi then { σ.get x with v := 0 } else σ.get x := by
  show ((σ.l.drop (σ.backTo k)).reverse.foldl clear σ.vars).getD (vi x) Cell.zero = _
  rw [clears_get]
  simp only [List.map_reverse, List.mem_reverse]
  rfl

theorem WF.back {σ : TS} (h : σ.WF) {k : Nat} (hk : k < σ.st.length) : (σ.back k).WF := by
  obtain ⟨hb, hs⟩ := h.backTo_lt hk
  have hlen : (σ.back k).vars.length = σ.vars.length := clears_length ..
  have hokk : ∀ x, (σ.back k).ok x = σ.ok x := by intro x; simp [ok, hlen]
  have hstk : ∀ (j : Nat) s, σ.st[j]? = some s → j < k → s < σ.backTo k := by
    intro j s hj hjk
    have h1 := (List.pairwise_iff_getElem.1 h.mono) j k (by omega) hk hjk
    rw [List.getElem?_eq_getElem (by omega)] at hj hs
    simp only [Option.some.injEq] at hj hs
    omega
  have hnot : ∀ (i : Nat) x, σ.l[i]? = some x → i < σ.backTo k → vi x ∉ (σ.l.drop (σ.backTo k)).map vi := by
    intro i x hx hi hm
    obtain ⟨y, hy, e⟩ := List.mem_map.1 hm
    obtain ⟨j, hj, rfl⟩ := List.mem_iff_getElem.1 hy
    rw [List.getElem_drop] at e
    rw [List.length_drop] at hj
    have := eq_of_nodup_aux h hx (List.getElem?_eq_getElem (show σ.backTo k + j < σ.l.length by omega)) e.symm
    omega
  refine ⟨by rw [hlen]; exact h.nle, clears_mem _ _ h.vals, ?_, ?_, ?_, ?_⟩
  · intro i x hx
    have hx' : (σ.l.take (σ.backTo k))[i]? = some x := hx
    rw [List.getElem?_take] at hx'
    split at hx'
    · rename_i hi
      have h4 := h.lit i x hx'
      rw [hokk, back_get, if_neg (hnot i x hx' hi)]
      refine ⟨h4.1, h4.2.1, h4.2.2.1, h4.2.2.2.trans ?_⟩
      show ((σ.st.filter _).length : Int) = (((σ.st.take k).filter _).length : Nat)
      conv => lhs; rw [← List.take_append_drop k σ.st]
      rw [List.filter_append]
      have : (σ.st.drop k).filter (fun s => decide (s ≤ (i : Int))) = [] := by
        rw [List.filter_eq_nil_iff]
        intro s hs'
        obtain ⟨j, hj, rfl⟩ := List.mem_iff_getElem.1 hs'
        rw [List.getElem_drop]
        simp only [List.length_drop] at hj
        have : (σ.backTo k : Int) ≤ σ.st[k + j] := by
          rw [List.getElem?_eq_getElem hk] at hs
          simp only [Option.some.injEq] at hs
          rcases Nat.eq_zero_or_pos j with rfl | hj0
          · simp only [Nat.add_zero]; omega
          · have := (List.pairwise_iff_getElem.1 h.mono) k (k + j) hk (by omega) (by omega)
            omega
        simp; omega
      rw [this, List.append_nil]
    · cases hx'
  · intro x hx hv
    rw [hokk] at hx
    rw [back_get] at hv
    split at hv
    · exact absurd rfl hv
    · rename_i hm
      obtain ⟨i, hi⟩ := h.all x hx hv
      have hil : i < σ.l.length := by rcases hi with hi | hi <;> exact (List.getElem?_eq_some_iff.1 hi).1
      refine ⟨i, ?_⟩
      have hib : i < σ.backTo k := by
        rcases Nat.lt_or_ge i (σ.backTo k) with hlt | hge
        · exact hlt
        · exfalso; apply hm
          refine List.mem_map.2 ⟨σ.l[i], ?_, ?_⟩
          · refine List.mem_iff_getElem.2 ⟨i - σ.backTo k, by simp; omega, ?_⟩
            rw [List.getElem_drop]; congr 1; omega
          · rw [List.getElem?_eq_getElem hil] at hi
            simp only [Option.some.injEq] at hi
            rcases hi with hi | hi
            · rw [hi]
            · rw [hi, vi_neg]
      show (σ.l.take _)[i]? = some x ∨ (σ.l.take _)[i]? = some (-x)
      rw [List.getElem?_take, if_pos hib]; exact hi
  · intro j s hj
    have hj' : (σ.st.take k)[j]? = some s := hj
    rw [List.getElem?_take] at hj'
    split at hj'
    · rename_i hjk
      have h1 := h.st j s hj'
      have h2 := hstk j s hj' hjk
      show 0 ≤ s ∧ s < ((σ.l.take _).length : Nat)
      rw [List.length_take]; omega
    · cases hj'
  · exact h.mono.sublist (List.take_sublist ..)

end TS
end Go.Proofs.Ytpjiemffkkfbkaa

/- Plain words for an arena of clauses: what package arena keeps, on lists alone. -/
namespace Go.Proofs.Ytpjiemffkkfbkaa

/-- A clause with its head. -/
structure Cz where
  lits : List Int
  learned : Bool
  glue : Int
  uses : Int
  dropped : Bool

namespace Cz
def head (c : Cz) : Int := c.lits.length + (if c.learned then 1099511627776 else 0) + (if c.dropped then 2199023255552 else 0)
def words (c : Cz) : List Int := c.head :: c.glue :: c.uses :: c.lits
def size (c : Cz) : Nat := 3 + c.lits.length
theorem words_length (c : Cz) : c.words.length = c.size := by simp [words, size]; omega
end Cz

def wordsOf (cs : List Cz) : List Int := cs.flatMap Cz.words
/-- The clause that begins at r, where the first begins at s; none: there is none, or it is dropped. -/
def liveAt : Nat → List Cz → Int → Option Cz
  | _, [], _ => none
  | s, c :: cs, r => if r = s then (if c.dropped then none else some c) else liveAt (s + c.size) cs r
/-- The places of the clauses that aren't dropped, rising. -/
def liveRefs : Nat → List Cz → List Int
  | _, [] => []
  | s, c :: cs => if c.dropped then liveRefs (s + c.size) cs else (s : Int) :: liveRefs (s + c.size) cs
/-- The clause that begins at r is turned. -/
def updAt : Nat → List Cz → Int → (Cz → Cz) → List Cz
  | _, [], _, _ => []
  | s, c :: cs, r, f => if r = s then f c :: cs else c :: updAt (s + c.size) cs r f

theorem wordsOf_cons (c : Cz) (cs : List Cz) : wordsOf (c :: cs) = c.words ++ wordsOf cs := rfl
theorem wordsOf_append (a b : List Cz) : wordsOf (a ++ b) = wordsOf a ++ wordsOf b := by simp [wordsOf]

theorem liveAt_ge : ∀ (cs : List Cz) (s : Nat) (r : Int) (c : Cz), liveAt s cs r = some c → (s : Int) ≤ r ∧ r + c.size ≤ s + (wordsOf cs).length := by
  intro cs
  induction cs with
  | nil => intro s r c h; cases h
  | cons d cs ih =>
    intro s r c h
    rw [wordsOf_cons, List.length_append, Cz.words_length]
    simp only [liveAt] at h
    split at h
    · split at h
      · cases h
      · cases h; omega
    · have := ih _ _ _ h; omega

theorem liveAt_dropped : ∀ (cs : List Cz) (s : Nat) (r : Int) (c : Cz), liveAt s cs r = some c → c.dropped = false := by
  intro cs
  induction cs with
  | nil => intro s r c h; cases h
  | cons d cs ih =>
    intro s r c h
    simp only [liveAt] at h
    split at h
    · split at h
      · cases h
      · rename_i hn; cases h; exact (Bool.not_eq_true _).mp hn
    · exact ih _ _ _ h

theorem liveAt_words : ∀ (cs : List Cz) (s : Nat) (r : Int) (c : Cz), liveAt s cs r = some c → ∀ j, j < c.size → (wordsOf cs)[(r - s).toNat + j]? = c.words[j]? := by
  intro cs
  induction cs with
  | nil => intro s r c h; cases h
  | cons d cs ih =>
    intro s r c h j hj
    rw [wordsOf_cons]
    simp only [liveAt] at h
    split at h
    · rename_i e
      split at h
      · cases h
      · cases h
        rw [List.getElem?_append_left (by rw [Cz.words_length]; omega)]
        congr 1; omega
    · have h1 := liveAt_ge _ _ _ _ h
      have h2 := ih _ _ _ h j hj
      rw [List.getElem?_append_right (by rw [Cz.words_length]; omega), Cz.words_length, ← h2]
      congr 1; omega

theorem liveRefs_mem : ∀ (cs : List Cz) (s : Nat) (r : Int), r ∈ liveRefs s cs ↔ (liveAt s cs r).isSome = true := by
  intro cs
  induction cs with
  | nil => intro s r; simp [liveRefs, liveAt]
  | cons d cs ih =>
    intro s r
    have hge : ∀ r, r ∈ liveRefs (s + d.size) cs → ((s + d.size : Nat) : Int) ≤ r := by
      intro r hr
      rw [ih, Option.isSome_iff_exists] at hr
      obtain ⟨c, hc⟩ := hr
      exact (liveAt_ge _ _ _ _ hc).1
    have hsz : 3 ≤ d.size := by unfold Cz.size; omega
    simp only [liveRefs, liveAt]
    by_cases hd : d.dropped = true
    · simp only [hd, if_true]
      by_cases e : r = s
      · rw [if_pos e]
        simp only [Option.isSome_none, Bool.false_eq_true, iff_false]
        intro hr; have := hge r hr; omega
      · rw [if_neg e]; exact ih _ _
    · simp only [hd]
      by_cases e : r = s
      · simp [e]
      · rw [if_neg e]; simp [e]; exact ih _ _

theorem liveRefs_nodup : ∀ (cs : List Cz) (s : Nat), (liveRefs s cs).Nodup ∧ ∀ r ∈ liveRefs s cs, (s : Int) ≤ r ∧ r < s + (wordsOf cs).length := by
  intro cs
  induction cs with
  | nil => intro s; simp [liveRefs]
  | cons d cs ih =>
    intro s
    obtain ⟨h1, h2⟩ := ih (s + d.size)
    have hsz : 3 ≤ d.size := by unfold Cz.size; omega
    have hw : (wordsOf (d :: cs)).length = d.size + (wordsOf cs).length := by rw [wordsOf_cons, List.length_append, Cz.words_length]
    simp only [liveRefs]
    split
    · exact ⟨h1, fun r hr => by have := h2 r hr; omega⟩
    · refine ⟨List.nodup_cons.2 ⟨fun hr => by have := h2 _ hr; omega, h1⟩, fun r hr => ?_⟩
      rcases List.mem_cons.1 hr with rfl | hr
      · omega
      · have := h2 r hr; omega

theorem updAt_length (f : Cz → Cz) (hf : ∀ c, (f c).size = c.size) : ∀ (cs : List Cz) (s : Nat) (r : Int), (wordsOf (updAt s cs r f)).length = (wordsOf cs).length := by
  intro cs
  induction cs with
  | nil => intro s r; rfl
  | cons d cs ih =>
    intro s r
    simp only [updAt]
    split
    · simp only [wordsOf_cons, List.length_append, Cz.words_length, hf]
    · simp only [wordsOf_cons, List.length_append, ih]

theorem liveAt_upd (f : Cz → Cz) (hf : ∀ c, (f c).size = c.size) (hd : ∀ c, (f c).dropped = c.dropped) : ∀ (cs : List Cz) (s : Nat) (r q : Int),
    liveAt s (updAt s cs r f) q = if q = r then (liveAt s cs q).map f else liveAt s cs q := by
  intro cs
  induction cs with
  | nil => intro s r q; simp [updAt, liveAt]
  | cons d cs ih =>
    intro s r q
    simp only [updAt]
    by_cases e : r = s
    · rw [if_pos e]
      simp only [liveAt, hf, hd]
      by_cases e2 : q = s
      · subst e2; subst e; simp only [if_true]; split <;> rfl
      · rw [if_neg e2, if_neg (by omega), if_neg e2]
    · rw [if_neg e]
      simp only [liveAt]
      by_cases e2 : q = s
      · rw [if_pos e2, if_pos e2, if_neg (show ¬ q = r by omega)]
      · rw [if_neg e2, if_neg e2, ih]

theorem liveRefs_upd (f : Cz → Cz) (hf : ∀ c, (f c).size = c.size) (hd : ∀ c, (f c).dropped = c.dropped) : ∀ (cs : List Cz) (s : Nat) (r : Int), liveRefs s (updAt s cs r f) = liveRefs s cs := by
  intro cs
  induction cs with
  | nil => intro s r; rfl
  | cons d cs ih =>
    intro s r
    simp only [updAt]
    split
    · simp only [liveRefs, hf, hd]
    · simp only [liveRefs, ih]

/-- Words of a clause that is turned. -/
theorem wordsOf_upd (f : Cz → Cz) : ∀ (cs : List Cz) (s : Nat) (r : Int) (c : Cz), liveAt s cs r = some c → (f c).words.length = c.words.length →
    wordsOf (updAt s cs r f) = (wordsOf cs).take (r - s).toNat ++ (f c).words ++ (wordsOf cs).drop ((r - s).toNat + c.size) := by
  intro cs
  induction cs with
  | nil => intro s r c h; cases h
  | cons d cs ih =>
    intro s r c h hl
    simp only [liveAt] at h
    simp only [updAt]
    split at h
    · rename_i e
      split at h
      · cases h
      · cases h
        rw [if_pos e]
        have e0 : (r - s).toNat = 0 := by omega
        rw [e0, wordsOf_cons, wordsOf_cons, List.take_zero, List.nil_append, Nat.zero_add, ← Cz.words_length d, List.drop_left]
    · rename_i e
      have h1 := liveAt_ge _ _ _ _ h
      have h2 := ih _ _ _ h hl
      rw [if_neg e, wordsOf_cons, wordsOf_cons, h2]
      have e1 : (r - s).toNat = d.words.length + (r - (s + d.size : Nat)).toNat := by rw [Cz.words_length]; omega
      rw [e1, List.take_length_add_append, Nat.add_assoc, List.drop_length_add_append]
      simp [List.append_assoc]

theorem liveAt_append : ∀ (a : List Cz) (b : Cz) (s : Nat) (r : Int), liveAt s (a ++ [b]) r = if r = s + (wordsOf a).length then (if b.dropped then none else some b) else liveAt s a r := by
  intro a
  induction a with
  | nil => intro b s r; simp [liveAt, wordsOf]
  | cons d a ih =>
    intro b s r
    have hsz : 3 ≤ d.size := by unfold Cz.size; omega
    rw [List.cons_append, wordsOf_cons, List.length_append, Cz.words_length]
    simp only [liveAt]
    by_cases e : r = s
    · rw [if_pos e, if_pos e, if_neg (show ¬ r = (s : Int) + ((d.size + (wordsOf a).length : Nat) : Int) by omega)]
    · rw [if_neg e, if_neg e, ih]
      by_cases e2 : r = ((s + d.size : Nat) : Int) + ((wordsOf a).length : Nat)
      · rw [if_pos e2, if_pos (show r = (s : Int) + ((d.size + (wordsOf a).length : Nat) : Int) by omega)]
      · rw [if_neg e2, if_neg (show ¬ r = (s : Int) + ((d.size + (wordsOf a).length : Nat) : Int) by omega)]

theorem liveRefs_append : ∀ (a : List Cz) (b : Cz) (s : Nat), b.dropped = false → liveRefs s (a ++ [b]) = liveRefs s a ++ [((s + (wordsOf a).length : Nat) : Int)] := by
  intro a
  induction a with
  | nil => intro b s hb; simp [liveRefs, hb, wordsOf]
  | cons d a ih =>
    intro b s hb
    rw [List.cons_append, wordsOf_cons, List.length_append, Cz.words_length]
    simp only [liveRefs, ih _ _ hb]
    split
    · congr 2; congr 1; omega
    · rw [List.cons_append]; congr 3; congr 1; omega

/-- An arena. -/
structure AS where
  cs : List Cz
  limit : Int

namespace AS
def words (A : AS) : List Int := wordsOf A.cs
def get (A : AS) (r : Int) : Option Cz := liveAt 0 A.cs r
def has (A : AS) (r : Int) : Bool := (A.get r).isSome
def lits (A : AS) (r : Int) : List Int := match A.get r with | some c => c.lits | none => []
def len (A : AS) (r : Int) : Nat := (A.lits r).length
def lit (A : AS) (r i : Int) : Int := if 0 ≤ i ∧ i < A.len r then (A.lits r).getD i.toNat 0 else 0
def count (A : AS) : Nat := (liveRefs 0 A.cs).length
def swapL (l : List Int) (i k : Nat) : List Int := (l.set i (l.getD k 0)).set k (l.getD i 0)
def swap (A : AS) (r : Int) (i k : Nat) : AS := { A with cs := updAt 0 A.cs r fun c => { c with lits := swapL c.lits i k } }
def fit (g : Int) : Int := min (max g 0) 2147483647
def add (A : AS) (c : List Int) (learned : Bool) (g : Int) : AS := { A with cs := A.cs ++ [⟨c, learned, fit g, 0, false⟩] }
def room (A : AS) (c : List Int) : Bool := !(decide (0 < A.limit) && decide (A.limit < A.words.length + 3 + c.length))
def new (limit : Int) : AS := ⟨[], limit⟩

theorem swapL_length (l : List Int) (i k : Nat) : (swapL l i k).length = l.length := by simp [swapL]
theorem get_swap (A : AS) (r q : Int) (i k : Nat) : (A.swap r i k).get q = if q = r then (A.get q).map fun c => { c with lits := swapL c.lits i k } else A.get q :=
  liveAt_upd _ (by intro c; simp [Cz.size, swapL_length]) (by intro c; rfl) _ _ _ _
theorem lits_swap (A : AS) (r q : Int) (i k : Nat) : (A.swap r i k).lits q = if q = r then swapL (A.lits q) i k else A.lits q := by
  unfold lits
  rw [get_swap]
  by_cases e : q = r
  · rw [if_pos e, if_pos e]; cases A.get q <;> simp [swapL]
  · rw [if_neg e, if_neg e]
theorem has_swap (A : AS) (r q : Int) (i k : Nat) : (A.swap r i k).has q = A.has q := by
  unfold has
  rw [get_swap]
  split
  · cases A.get q <;> rfl
  · rfl
theorem get_add (A : AS) (c : List Int) (b : Bool) (g r : Int) : (A.add c b g).get r = if r = A.words.length then some ⟨c, b, fit g, 0, false⟩ else A.get r := by
  unfold get add words
  rw [liveAt_append]; simp
theorem lits_add (A : AS) (c : List Int) (b : Bool) (g r : Int) : (A.add c b g).lits r = if r = A.words.length then c else A.lits r := by
  unfold lits; rw [get_add]; by_cases e : r = A.words.length
  · rw [if_pos e, if_pos e]
  · rw [if_neg e, if_neg e]
theorem has_add (A : AS) (c : List Int) (b : Bool) (g r : Int) : (A.add c b g).has r = (decide (r = A.words.length) || A.has r) := by
  unfold has; rw [get_add]; split <;> simp_all
theorem words_add (A : AS) (c : List Int) (b : Bool) (g : Int) : (A.add c b g).words = A.words ++ ((⟨c, b, fit g, 0, false⟩ : Cz).words) := by
  simp [words, add, wordsOf]
theorem words_split {A : AS} {r : Int} {c : Cz} (hc : A.get r = some c) : A.words = A.words.take r.toNat ++ c.words ++ A.words.drop (r.toNat + c.size) := by
  have h := wordsOf_upd id A.cs 0 r c hc rfl
  have e : updAt 0 A.cs r id = A.cs := by
    have : ∀ (cs : List Cz) (s : Nat), updAt s cs r id = cs := by
      intro cs
      induction cs with
      | nil => intro s; rfl
      | cons d cs ih => intro s; simp only [updAt, ih]; split <;> rfl
    exact this _ _
  rw [e] at h
  have e0 : (r - (0 : Nat)).toNat = r.toNat := by omega
  rw [e0] at h
  exact h

theorem words_swap {A : AS} {r : Int} {c : Cz} (hc : A.get r = some c) {i k : Nat} (hi : i < c.lits.length) (hk : k < c.lits.length) :
    (A.swap r i k).words = (A.words.set (r.toNat + 3 + i) (c.lits.getD k 0)).set (r.toNat + 3 + k) (c.lits.getD i 0) := by
  have h1 := liveAt_ge _ _ _ _ hc
  have h := wordsOf_upd (fun c => { c with lits := swapL c.lits i k }) A.cs 0 r c hc (by simp [Cz.words, swapL])
  have e0 : (r - (0 : Nat)).toNat = r.toNat := by omega
  rw [e0] at h
  have hw : ({ c with lits := swapL c.lits i k } : Cz).words = (c.words.set (3 + i) (c.lits.getD k 0)).set (3 + k) (c.lits.getD i 0) := by
    have e1 : 3 + i = i + 1 + 1 + 1 := by omega
    have e2 : 3 + k = k + 1 + 1 + 1 := by omega
    rw [e1, e2]
    simp [Cz.words, swapL, Cz.head]
  have hl : (A.words.take r.toNat).length = r.toNat := by
    have : A.words.length = (wordsOf A.cs).length := rfl
    rw [List.length_take]; omega
  have hs := words_split hc
  have hcw := Cz.words_length c
  have hcs : c.size = 3 + c.lits.length := rfl
  show wordsOf _ = _
  rw [show (A.swap r i k).cs = updAt 0 A.cs r (fun c => { c with lits := swapL c.lits i k }) from rfl, h, hw]
  generalize hT : A.words.take r.toNat = T at *
  generalize hD : A.words.drop (r.toNat + c.size) = D at *
  have hT2 : (wordsOf A.cs).take r.toNat = T := hT
  have hD2 : (wordsOf A.cs).drop (r.toNat + c.size) = D := hD
  rw [hT2, hD2, hs, List.append_assoc, List.append_assoc]
  have e3 : ∀ j, r.toNat + 3 + j = T.length + (3 + j) := by intro j; omega
  rw [e3, e3]
  have hset : ∀ (a b : List Int) (n : Nat) (x : Int), (a ++ b).set (a.length + n) x = a ++ b.set n x := by
    intro a b n x; rw [List.set_append_right _ _ (by omega), Nat.add_sub_cancel_left]
  rw [hset, hset]
  congr 1
  rw [List.set_append_left _ _ (by omega), List.set_append_left _ _ (by simp; omega)]
end AS
end Go.Proofs.Ytpjiemffkkfbkaa

/- Plain words for the propagator: what package watch computes, on lists alone. -/
namespace Go.Proofs.Ytpjiemffkkfbkaa

/-- A clause that is looked at when a literal becomes false. -/
structure Wx where
  ref : Int
  bl : Int
  bin : Bool
  deriving Inhabited

/-- A propagator. -/
structure WS where
  lists : List (List Wx)
  pend : List Int
  head : Nat
  visits : Int

/-- Arena, trail, propagator. -/
structure SS where
  A : AS
  T : TS
  W : WS

/-- A number as Go's int keeps it. -/
def w64 (n : Int) : Int := (n + 9223372036854775808) % 18446744073709551616 - 9223372036854775808

namespace SS

def rank (T : TS) (l : Int) : Int := if T.value l < 0 then T.levelOf l else T.st.length + 1
/-- The best place from i on, b being the best so far. -/
def bestGo (rk : Int → Int) (L : List Int) : Nat → Nat → Nat → Nat
  | 0, _, b => b
  | k + 1, i, b => bestGo rk L k (i + 1) (if rk (L.getD b 0) < rk (L.getD i 0) then i else b)
def best (T : TS) (L : List Int) (to : Nat) : Nat := bestGo (rank T) L (L.length - (to + 1)) (to + 1) to
def bring (S : SS) (r : Int) (to : Nat) : SS := { S with A := S.A.swap r to (best S.T (S.A.lits r) to) }
def addW (W : WS) (l : Int) (x : Wx) : WS := { W with lists := W.lists.set (ix l) (W.lists.getD (ix l) [] ++ [x]) }
def attach2 (S : SS) (r : Int) : SS :=
  let S2 := (S.bring r 0).bring r 1
  let x := S2.A.lit r 0
  let y := S2.A.lit r 1
  let n := S.A.len r
  { S2 with W := addW (addW S2.W x ⟨r, y, (n : Int) == 2⟩) y ⟨r, x, (n : Int) == 2⟩ }
def attach (S : SS) (r : Int) : SS :=
  let S1 : SS := { S with W := { S.W with pend := S.W.pend ++ [r] } }
  if 2 ≤ S.A.len r then S1.attach2 r else S1

theorem bestGo_lt (rk : Int → Int) (L : List Int) : ∀ (k i b : Nat), i + k ≤ L.length → b < L.length → bestGo rk L k i b < L.length := by
  intro k
  induction k with
  | zero => intro i b _ hb; exact hb
  | succ k ih =>
    intro i b hi hb
    unfold bestGo
    refine ih _ _ (by omega) ?_
    split <;> omega
theorem best_lt (T : TS) (L : List Int) (to : Nat) (h : to < L.length) : best T L to < L.length := bestGo_lt _ _ _ _ _ (by omega) h
theorem mem_swapL {l : List Int} {i k : Nat} {x : Int} (hi : i < l.length) (hk : k < l.length) (h : x ∈ AS.swapL l i k) : x ∈ l := by
  unfold AS.swapL at h
  rcases List.mem_or_eq_of_mem_set h with h | rfl
  · rcases List.mem_or_eq_of_mem_set h with h | rfl
    · exact h
    · rw [List.getD_eq_getElem?_getD, List.getElem?_eq_getElem hk]; exact List.getElem_mem hk
  · rw [List.getD_eq_getElem?_getD, List.getElem?_eq_getElem hi]; exact List.getElem_mem hi
theorem len_swap (A : AS) (r q : Int) (i k : Nat) : (A.swap r i k).len q = A.len q := by
  unfold AS.len; rw [AS.lits_swap]; split
  · exact AS.swapL_length _ _ _
  · rfl
theorem lits_swap_mem {A : AS} {r q : Int} {i k : Nat} (hi : i < A.len r) (hk : k < A.len r) {x : Int} (h : x ∈ (A.swap r i k).lits q) : x ∈ A.lits q := by
  rw [AS.lits_swap] at h
  split at h
  · rename_i e; subst e; exact mem_swapL hi hk h
  · exact h
theorem bring_len (S : SS) (r q : Int) (to : Nat) : (S.bring r to).A.len q = S.A.len q := len_swap _ _ _ _ _
theorem bring_mem {S : SS} {r q : Int} {to : Nat} (h : to < S.A.len r) {x : Int} (hx : x ∈ (S.bring r to).A.lits q) : x ∈ S.A.lits q := lits_swap_mem h (best_lt _ _ _ h) hx

/-- The scan of a clause: none: it holds, or two are free; else the free one, or 0. -/
def scan (val : Int → Int) : List Int → Int → Option Int
  | [], free => some free
  | l :: L, free => if 0 < val l ∨ (val l = 0 ∧ free ≠ 0) then none else scan val L (if val l = 0 then l else free)
def put (S : SS) (l r : Int) : SS := if S.T.free l then { S with T := S.T.put l r } else S
def look (S : SS) (r : Int) : SS × Bool :=
  match scan S.T.value (S.A.lits r) 0 with
  | none => (S, true)
  | some f => if f = 0 then (S, false) else (S.put f r, S.T.free f)

inductive Out where
  | stays | goes | clashes
  deriving DecidableEq
def Out.num : Out → Int | stays => 0 | goes => 1 | clashes => 2

def unit (S : SS) (l r : Int) : SS × Out :=
  let S1 := if S.T.value l = 0 then S.put l r else S
  (S1, if S1.T.value l < 0 then .clashes else .stays)

/-- The first place from i on whose literal isn't false. -/
def other (val : Int → Int) (L : List Int) : Nat → Nat → Option Nat
  | 0, _ => none
  | k + 1, i => if 0 ≤ val (L.getD i 0) then some i else other val L k (i + 1)

/-- What is watched at a place of a list turns. -/
def setW (W : WS) (at_ i : Nat) (x : Wx) : WS := { W with lists := W.lists.set at_ ((W.lists.getD at_ []).set i x) }
def wx (W : WS) (at_ i : Nat) : Wx := (W.lists.getD at_ []).getD i default

/-- The first two literals in order: the false one second. -/
def turn (S : SS) (x : Wx) (f : Int) : SS := if S.A.lit x.ref 0 = f then { S with A := S.A.swap x.ref 0 1 } else S

def visit3 (S : SS) (at_ i : Nat) (x : Wx) : SS × Out :=
  let first := S.A.lit x.ref 0
  if 0 < S.T.value first then ({ S with W := setW S.W at_ i { x with bl := first } }, .stays)
  else match other S.T.value (S.A.lits x.ref) (S.A.len x.ref - 2) 2 with
    | some j => ({ S with A := S.A.swap x.ref 1 j, W := addW S.W (S.A.lit x.ref j) ⟨x.ref, first, false⟩ }, .goes)
    | none => S.unit first x.ref

def visit (S : SS) (at_ i : Nat) (f : Int) : SS × Out :=
  let x := wx S.W at_ i
  let S1 : SS := { S with W := { S.W with visits := w64 (S.W.visits + 1) } }
  if !S.A.has x.ref then (S1, .goes)
  else if 0 < S.T.value x.bl then (S1, .stays)
  else if x.bin then S1.unit x.bl x.ref
  else (S1.turn x f).visit3 at_ i x

/-- The rounds of 'fell': k are to come, from i on; n are kept. -/
def fellGo (at_ : Nat) (f : Int) : Nat → Nat → Nat → SS → SS × Option Int
  | 0, _, n, S => ({ S with W := { S.W with lists := S.W.lists.set at_ ((S.W.lists.getD at_ []).take n) } }, none)
  | k + 1, i, n, S =>
    match S.visit at_ i f with
    | (S1, .stays) => fellGo at_ f k (i + 1) (n + 1) { S1 with W := setW S1.W at_ n (wx S1.W at_ i) }
    | (S1, .goes) => fellGo at_ f k (i + 1) n S1
    | (S1, .clashes) =>
      let L := S1.W.lists.getD at_ []
      ({ S1 with W := { S1.W with lists := S1.W.lists.set at_ (L.take n ++ L.drop i) } }, some (wx S1.W at_ i).ref)
def fell (S : SS) (f : Int) : SS × Option Int := fellGo (ix f) f (S.W.lists.getD (ix f) []).length 0 0 S

def pendGo : List Int → SS → SS × Option Int
  | [], S => ({ S with W := { S.W with pend := [] } }, none)
  | r :: P, S =>
    let S1 : SS := { S with W := { S.W with pend := r :: P, visits := w64 (S.W.visits + 1) } }
    if S.A.has r then
      match S1.look r with
      | (S2, false) => (S2, some r)
      | (S2, true) => pendGo P S2
    else pendGo P S1

/-- The rounds over the trail: at most k. -/
def headGo : Nat → SS → SS × Option Int
  | 0, S => (S, none)
  | k + 1, S =>
    if S.W.head < S.T.l.length then
      match S.fell (-(S.T.at_ S.W.head)) with
      | (S1, some r) => (S1, some r)
      | (S1, none) => headGo k { S1 with W := { S1.W with head := S1.W.head + 1 } }
    else (S, none)

def propagate (S : SS) : SS × Option Int :=
  match pendGo S.W.pend S with
  | (S1, some r) => (S1, some r)
  | (S1, none) => headGo (S1.T.vars.length + 1) S1

def new (n : Nat) : SS := ⟨AS.new 0, TS.empty n, ⟨List.replicate (2 * n) [], [], 0, 0⟩⟩

end SS
end Go.Proofs.Ytpjiemffkkfbkaa

/- What the propagator keeps: trails that grow, clauses whose literals change places, lists that stay within. -/
namespace Go.Proofs.Ytpjiemffkkfbkaa

namespace TS
/-- A trail after some puts. -/
inductive Puts : TS → TS → Prop where
  | refl (T : TS) : Puts T T
  | put {T T' : TS} {l r : Int} : Puts T T' → T'.free l = true → Puts T (T'.put l r)

theorem Puts.trans {A B C : TS} (h : Puts A B) (k : Puts B C) : Puts A C := by
  induction k with
  | refl => exact h
  | put _ hf ih => exact ih.put hf

theorem put_vars (T : TS) (l r : Int) : (T.put l r).vars.length = T.vars.length := by simp [TS.put]
theorem put_ok (T : TS) (l r m : Int) : (T.put l r).ok m = T.ok m := by simp [TS.ok, TS.put]
theorem put_get {T : TS} {l r : Int} (h : T.free l = true) (m : Int) : (T.put l r).get m = if vi m = vi l then ⟨sgn l, T.st.length, r, T.l.length, decide (0 < l)⟩ else T.get m := by
  show (T.vars.set (vi l) _).getD (vi m) Cell.zero = _
  simp only [TS.free, Bool.and_eq_true] at h
  rw [get_set (vi_lt h.1)]
  rfl

theorem ok_ne {T : TS} {l : Int} (h : T.ok l = true) : l ≠ 0 := by unfold TS.ok at h; rw [litIn_iff] at h; exact h.1

/-- A value that is there stays. -/
theorem put_value {T : TS} {l r m : Int} (h : T.free l = true) (hm : T.value m ≠ 0) : (T.put l r).value m = T.value m := by
  have hon : T.on m = true := by
    unfold TS.value at hm; by_cases e : T.on m = true
    · exact e
    · simp [e] at hm
  have hne : vi m ≠ vi l := by
    intro e
    simp only [TS.on, Bool.and_eq_true, bne_iff_ne, TS.free, beq_iff_eq] at hon h
    apply hon.2
    have : T.get m = T.get l := by unfold TS.get; rw [e]
    rw [this]; exact h.2
  have hg : (T.put l r).get m = T.get m := by rw [put_get h, if_neg hne]
  unfold TS.value TS.on
  rw [put_ok, hg]

/-- A value after a put: the literal and its negation have one; else nothing turns. -/
theorem put_value_iff {T : TS} {l r m : Int} (h : T.free l = true) : (T.put l r).value m = if m = l then 1 else if m = -l then -1 else T.value m := by
  have hok : T.ok l = true := by simp only [TS.free, Bool.and_eq_true] at h; exact h.1
  have hl0 := ok_ne hok
  by_cases e : vi m = vi l
  · by_cases hm : T.ok m = true
    · have hml : m = l ∨ m = -l := by unfold TS.ok at hm hok; exact eq_of_vi hm hok e
      have hg : (T.put l r).get m = ⟨sgn l, T.st.length, r, T.l.length, decide (0 < l)⟩ := by rw [put_get h, if_pos e]
      unfold TS.value TS.on
      rw [put_ok, hm, hg]
      simp only [sgn]
      rcases hml with rfl | rfl
      · simp only [if_true]; split <;> simp_all
      · rw [if_neg (show ¬ (-l = l) by omega)]
        simp only [if_true]
        split <;> split <;> simp_all <;> omega
    · have h1 : m ≠ l := by intro e'; subst e'; exact hm hok
      have h2 : m ≠ -l := by intro e'; subst e'; rw [ok_neg] at hm; exact hm hok
      have hm' : T.ok m = false := by simpa using hm
      rw [if_neg h1, if_neg h2]
      unfold TS.value TS.on
      rw [put_ok, hm']; simp
  · have h1 : m ≠ l := by intro e'; subst e'; exact e rfl
    have h2 : m ≠ -l := by intro e'; subst e'; exact e (vi_neg l)
    rw [if_neg h1, if_neg h2]
    have hg : (T.put l r).get m = T.get m := by rw [put_get h, if_neg e]
    unfold TS.value TS.on
    rw [put_ok, hg]

section
variable {T T' : TS}
theorem Puts.vars (h : Puts T T') : T'.vars.length = T.vars.length := by
  induction h with
  | refl => rfl
  | put _ _ ih => rw [put_vars, ih]
theorem Puts.ok (h : Puts T T') (m : Int) : T'.ok m = T.ok m := by unfold TS.ok; rw [h.vars]
theorem Puts.val (h : Puts T T') {m : Int} (hm : T.value m ≠ 0) : T'.value m = T.value m := by
  induction h with
  | refl => rfl
  | put _ hf ih => rw [put_value hf (by rw [ih]; exact hm), ih]
theorem Puts.wf (h : Puts T T') (hw : T.WF) : T'.WF := by
  induction h with
  | refl => exact hw
  | put _ hf ih => exact ih.put hf
theorem Puts.st (h : Puts T T') : T'.st = T.st := by
  induction h with
  | refl => rfl
  | put _ _ ih => exact ih
theorem Puts.l (h : Puts T T') : ∃ s, T'.l = T.l ++ s := by
  induction h with
  | refl => exact ⟨[], by simp⟩
  | put _ _ ih =>
    obtain ⟨s, hs⟩ := ih
    rename_i l _ _ _
    exact ⟨s ++ [l], by show _ ++ _ = _; rw [hs]; simp⟩
end
end TS

/-- How many elements lists have. -/
def tot {α : Type _} : List (List α) → Nat
  | [] => 0
  | a :: L => a.length + tot L
theorem tot_get {α : Type _} (L : List (List α)) (i : Nat) : (L.getD i []).length ≤ tot L := by
  induction L generalizing i with
  | nil => simp
  | cons a L ih =>
    cases i with
    | zero => simp [tot]
    | succ i => simp only [List.getD_cons_succ, tot]; have := ih i; omega
theorem tot_set {α : Type _} (L : List (List α)) (i : Nat) (a : List α) : tot (L.set i a) + (L.getD i []).length ≤ tot L + a.length := by
  induction L generalizing i with
  | nil => simp [tot]
  | cons b L ih =>
    cases i with
    | zero => simp [tot]; omega
    | succ i => simp only [List.set_cons_succ, List.getD_cons_succ, tot]; have := ih i; omega

theorem ix_inj' {a b : Int} (ha : a ≠ 0) (hb : b ≠ 0) (h : ix a = ix b) : a = b := by
  unfold ix at h; split at h <;> split at h <;> omega

namespace SS
/-- What every step keeps. -/
structure Step (S S' : SS) : Prop where
  puts : S.T.Puts S'.T
  has : ∀ r, S'.A.has r = S.A.has r
  perm : ∀ r, (S'.A.lits r).Perm (S.A.lits r)
  len : S'.W.lists.length = S.W.lists.length
  refs : liveRefs 0 S'.A.cs = liveRefs 0 S.A.cs

theorem Step.refl (S : SS) : Step S S := ⟨.refl _, fun _ => rfl, fun _ => .refl _, rfl, rfl⟩
theorem Step.trans {A B C : SS} (h : Step A B) (k : Step B C) : Step A C :=
  ⟨h.puts.trans k.puts, fun r => (k.has r).trans (h.has r), fun r => (k.perm r).trans (h.perm r), k.len.trans h.len, k.refs.trans h.refs⟩
theorem Step.lenL {S S' : SS} (h : Step S S') (r : Int) : S'.A.len r = S.A.len r := (h.perm r).length_eq

theorem swapL_perm {l : List Int} {i k : Nat} (hi : i < l.length) (hk : k < l.length) : (AS.swapL l i k).Perm l := by
  unfold AS.swapL
  have e1 : l.getD k 0 = l[k] := by rw [List.getD_eq_getElem?_getD, List.getElem?_eq_getElem hk]; rfl
  have e2 : l.getD i 0 = l[i] := by rw [List.getD_eq_getElem?_getD, List.getElem?_eq_getElem hi]; rfl
  rw [e1, e2]
  exact List.set_set_perm hi hk

theorem Step.swap (S : SS) {r : Int} {i k : Nat} (hi : i < S.A.len r) (hk : k < S.A.len r) : Step S { S with A := S.A.swap r i k } where
  puts := .refl _
  has := fun q => AS.has_swap ..
  perm := fun q => by
    show ((S.A.swap r i k).lits q).Perm _
    rw [AS.lits_swap]
    split
    · rename_i e; subst e; exact swapL_perm hi hk
    · exact .refl _
  len := rfl
  refs := liveRefs_upd (fun c => { c with lits := AS.swapL c.lits i k }) (fun c => by simp [Cz.size, AS.swapL_length]) (fun _ => rfl) _ _ _
theorem Step.put (S : SS) (l r : Int) : Step S (S.put l r) := by
  unfold SS.put
  split
  · rename_i h; exact ⟨.put (.refl _) h, fun _ => rfl, fun _ => .refl _, rfl, rfl⟩
  · exact .refl _
theorem Step.watch (S : SS) {W : WS} (h : W.lists.length = S.W.lists.length) : Step S { S with W := W } := ⟨.refl _, fun _ => rfl, fun _ => .refl _, h, rfl⟩
theorem Step.unit (S : SS) (l r : Int) : Step S (S.unit l r).1 := by
  unfold SS.unit
  split
  · exact .put S l r
  · exact .refl _

/-- Literals and lists are within their bounds. -/
structure Safe (S : SS) : Prop where
  lists : S.W.lists.length = 2 * S.T.vars.length
  lits : ∀ r, ∀ l ∈ S.A.lits r, S.T.ok l = true
  wok : ∀ j, ∀ x ∈ S.W.lists.getD j [], S.T.ok x.bl = true ∧ (S.A.has x.ref = true → 2 ≤ S.A.len x.ref)

theorem Safe.step {S S' : SS} (h : Safe S) (hs : Step S S') (hw : ∀ j, ∀ x ∈ S'.W.lists.getD j [], S.T.ok x.bl = true ∧ (S.A.has x.ref = true → 2 ≤ S.A.len x.ref)) : Safe S' := by
  refine ⟨by rw [hs.len, hs.puts.vars]; exact h.lists, fun r l hl => ?_, fun j x hx => ?_⟩
  · rw [hs.puts.ok]; exact h.lits r l ((hs.perm r).subset hl)
  · rw [hs.puts.ok, hs.has, hs.lenL]; exact hw j x hx
theorem Safe.same {S S' : SS} (h : Safe S) (hs : Step S S') (hw : ∀ j, ∀ x ∈ S'.W.lists.getD j [], ∃ k, x ∈ S.W.lists.getD k []) : Safe S' :=
  h.step hs fun j x hx => by obtain ⟨k, hk⟩ := hw j x hx; exact h.wok k x hk

theorem put_W (S : SS) (l r : Int) : (S.put l r).W = S.W := by unfold SS.put; split <;> rfl
theorem unit_W (S : SS) (l r : Int) : (S.unit l r).1.W = S.W := by unfold SS.unit; split; exact put_W ..; rfl
theorem turn_W (S : SS) (x : Wx) (f : Int) : (S.turn x f).W = S.W := by unfold SS.turn; split <;> rfl

theorem mem_addW {W : WS} {l : Int} {x y : Wx} {j : Nat} (h : y ∈ (addW W l x).lists.getD j []) : y = x ∨ y ∈ W.lists.getD j [] := by
  simp only [SS.addW, List.getD_eq_getElem?_getD, List.getElem?_set] at h ⊢
  split at h
  · rename_i e; subst e
    split at h
    · simp only [Option.getD_some, List.mem_append, List.mem_singleton] at h
      rcases h with h | h
      · exact .inr h
      · exact .inl h
    · simp at h
  · exact .inr h

theorem wx_mem {W : WS} {j i : Nat} (h : i < (W.lists.getD j []).length) : wx W j i ∈ W.lists.getD j [] := by
  unfold SS.wx
  rw [List.getD_eq_getElem?_getD (l := W.lists.getD j []), List.getElem?_eq_getElem h]; exact List.getElem_mem h

theorem mem_setW {W : WS} {k i j : Nat} {x y : Wx} (h : y ∈ (setW W k i x).lists.getD j []) : y = x ∨ y ∈ W.lists.getD j [] := by
  simp only [SS.setW] at h
  rw [List.getD_eq_getElem?_getD, List.getElem?_set] at h
  split at h
  · rename_i e; subst e
    split at h
    · simp only [Option.getD_some] at h
      rcases List.mem_or_eq_of_mem_set h with h | h
      · exact .inr h
      · exact .inl h
    · simp at h
  · rw [List.getD_eq_getElem?_getD]; exact .inr h

theorem other_spec (val : Int → Int) (L : List Int) : ∀ k i j, other val L k i = some j → i ≤ j ∧ j < i + k ∧ 0 ≤ val (L.getD j 0) := by
  intro k
  induction k with
  | zero => intro i j h; cases h
  | succ k ih =>
    intro i j h
    simp only [SS.other] at h
    split at h
    · rename_i hv
      simp only [Option.some.injEq] at h
      subst h
      exact ⟨Nat.le_refl _, by omega, hv⟩
    · have := ih _ _ h
      exact ⟨by omega, by omega, this.2.2⟩

theorem other_none (val : Int → Int) (L : List Int) : ∀ k i, other val L k i = none → ∀ j, i ≤ j → j < i + k → val (L.getD j 0) < 0 := by
  intro k
  induction k with
  | zero => intro i _ j h1 h2; omega
  | succ k ih =>
    intro i h j h1 h2
    simp only [SS.other] at h
    split at h
    · cases h
    · rename_i hv
      by_cases e : j = i
      · subst e; omega
      · exact ih _ h j (by omega) (by omega)

/-- What is kept by a look at one watch. -/
structure VisitOk (S S' : SS) (k : Nat) (o : Out) : Prop where
  step : Step S S'
  safe : Safe S'
  len : (S'.W.lists.getD k []).length = (S.W.lists.getD k []).length
  tot : tot S'.W.lists ≤ tot S.W.lists + (if o = .goes then 1 else 0)

theorem tot_setW (W : WS) (k i : Nat) (x : Wx) : Ytpjiemffkkfbkaa.tot (setW W k i x).lists ≤ Ytpjiemffkkfbkaa.tot W.lists := by
  have := tot_set W.lists k ((W.lists.getD k []).set i x)
  rw [List.length_set] at this
  show Ytpjiemffkkfbkaa.tot (W.lists.set _ _) ≤ _
  omega
theorem tot_addW (W : WS) (l : Int) (x : Wx) : Ytpjiemffkkfbkaa.tot (addW W l x).lists ≤ Ytpjiemffkkfbkaa.tot W.lists + 1 := by
  have := tot_set W.lists (ix l) (W.lists.getD (ix l) [] ++ [x])
  rw [List.length_append, List.length_singleton] at this
  show Ytpjiemffkkfbkaa.tot (W.lists.set _ _) ≤ _
  omega
theorem len_setW (W : WS) (k i j : Nat) (x : Wx) : ((setW W k i x).lists.getD j []).length = (W.lists.getD j []).length := by
  simp only [SS.setW]
  rw [List.getD_eq_getElem?_getD, List.getElem?_set]
  split
  · rename_i e; subst e
    split
    · simp
    · rename_i hn; rw [List.getD_eq_getElem?_getD, List.getElem?_eq_none (by omega)]
  · rw [List.getD_eq_getElem?_getD]
theorem get_addW (W : WS) (l : Int) (x : Wx) {j : Nat} (h : ix l ≠ j) : (addW W l x).lists.getD j [] = W.lists.getD j [] := by
  simp only [SS.addW, List.getD_eq_getElem?_getD, List.getElem?_set, if_neg h]

theorem Safe.visits {S : SS} (h : Safe S) (n : Int) : Safe { S with W := { S.W with visits := n } } := ⟨h.lists, h.lits, h.wok⟩

theorem lit_mem' {A : AS} {r : Int} {i : Nat} (hi : i < A.len r) : A.lit r i ∈ A.lits r := by
  have e : A.lit r i = (A.lits r).getD i 0 := by unfold AS.lit; rw [if_pos (by omega)]; rfl
  rw [e, List.getD_eq_getElem?_getD, List.getElem?_eq_getElem hi]; exact List.getElem_mem hi


theorem VisitOk.mono {S S1 S2 : SS} {k : Nat} {o : Out} (h1 : VisitOk S S1 k .stays) (h2 : VisitOk S1 S2 k o) : VisitOk S S2 k o := by
  refine ⟨h1.step.trans h2.step, h2.safe, h2.len.trans h1.len, ?_⟩
  have a := h1.tot; have b := h2.tot
  rw [if_neg (by decide)] at a
  omega

theorem unit_ok {S : SS} (h : Safe S) (l r : Int) (k : Nat) (o : Out) : VisitOk S (S.unit l r).1 k o :=
  ⟨.unit S l r, h.same (.unit S l r) (fun j x hx => ⟨j, by rw [unit_W] at hx; exact hx⟩), by rw [unit_W], by rw [unit_W]; omega⟩

theorem visit3_ok {S : SS} (h : Safe S) {k i : Nat} {f : Int} {x : Wx} (_hx : x ∈ S.W.lists.getD k []) (h2 : 2 ≤ S.A.len x.ref) (hat : k = ix f) (hf0 : f ≠ 0) (hff : S.T.value f < 0) :
    VisitOk S (S.visit3 k i x).1 k (S.visit3 k i x).2 := by
  have hfok : S.T.ok (S.A.lit x.ref (0 : Nat)) = true := h.lits _ _ (lit_mem' (by omega))
  unfold SS.visit3
  simp only
  split
  · have st : Step S { S with W := setW S.W k i { x with bl := S.A.lit x.ref 0 } } := Step.watch S (by simp [SS.setW])
    refine ⟨st, h.step st ?_, len_setW .., by have := tot_setW S.W k i { x with bl := S.A.lit x.ref 0 }; simpa using this⟩
    intro j y hy
    rcases mem_setW hy with rfl | hy
    · exact ⟨hfok, fun _ => h2⟩
    · exact h.wok j y hy
  · split
    · rename_i j hj
      obtain ⟨hj1, hj2, hj3⟩ := other_spec _ _ _ _ _ hj
      have hjl : j < S.A.len x.ref := by omega
      have st : Step S { S with A := S.A.swap x.ref 1 j, W := addW S.W (S.A.lit x.ref j) ⟨x.ref, S.A.lit x.ref 0, false⟩ } :=
        (Step.swap S (r := x.ref) (i := 1) (k := j) (by omega) hjl).trans (Step.watch _ (by simp [SS.addW]))
      have hjm : S.A.lit x.ref j ∈ S.A.lits x.ref := lit_mem' hjl
      have hne : ix (S.A.lit x.ref j) ≠ k := by
        intro e
        have h0 := TS.ok_ne (h.lits _ _ hjm)
        have := ix_inj' h0 hf0 (e.trans hat)
        have e2 : (S.A.lits x.ref).getD j 0 = S.A.lit x.ref j := by
          unfold AS.lit; rw [if_pos (by omega)]; rfl
        rw [e2, this] at hj3
        omega
      refine ⟨st, h.step st ?_, by rw [get_addW _ _ _ hne], by have := tot_addW S.W (S.A.lit x.ref j) ⟨x.ref, S.A.lit x.ref 0, false⟩; simpa using this⟩
      intro q y hy
      rcases mem_addW hy with rfl | hy
      · exact ⟨hfok, fun _ => h2⟩
      · exact h.wok q y hy
    · exact unit_ok h _ _ _ _

theorem turn_ok {S : SS} (h : Safe S) (x : Wx) (f : Int) (k : Nat) (h2 : 2 ≤ S.A.len x.ref) : VisitOk S (S.turn x f) k .stays := by
  have st : Step S (S.turn x f) := by
    unfold SS.turn; split
    · exact Step.swap S (by omega) (by omega)
    · exact .refl _
  exact ⟨st, h.same st (fun j y hy => ⟨j, by rw [turn_W] at hy; exact hy⟩), by rw [turn_W], by rw [turn_W]; omega⟩

theorem visit_ok {S : SS} (h : Safe S) {k i : Nat} {f : Int} (hi : i < (S.W.lists.getD k []).length) (hat : k = ix f) (hf0 : f ≠ 0) (hff : S.T.value f < 0) : VisitOk S (S.visit k i f).1 k (S.visit k i f).2 := by
  have hmem := wx_mem hi
  obtain ⟨hb, h2⟩ := h.wok k _ hmem
  have h1 : ∀ o, VisitOk S { S with W := { S.W with visits := w64 (S.W.visits + 1) } } k o := fun o => ⟨Step.watch S rfl, h.visits _, rfl, by simp⟩
  unfold SS.visit
  simp only
  split
  · exact h1 _
  · rename_i hh
    have hh : S.A.has (SS.wx S.W k i).ref = true := by simpa using hh
    split
    · exact h1 _
    · split
      · exact (h1 _).mono (unit_ok (h.visits _) _ _ _ _)
      · have ht := turn_ok (h.visits (w64 (S.W.visits + 1))) (SS.wx S.W k i) f k (h2 hh)
        refine ((h1 _).mono ht).mono ?_
        refine visit3_ok ht.safe ?_ ?_ hat hf0 ?_
        · rw [turn_W]; exact hmem
        · rw [ht.step.lenL]; exact h2 hh
        · rw [ht.step.puts.val (by show S.T.value f ≠ 0; omega)]; exact hff

/-- What is kept by the rounds over a list. -/
structure FellOk (S S' : SS) (d : Nat) : Prop where
  step : Step S S'
  safe : Safe S'
  tot : tot S'.W.lists + d ≤ tot S.W.lists

theorem mem_setL {W : WS} {k j : Nat} {L : List Wx} {y : Wx} (hL : ∀ x ∈ L, x ∈ W.lists.getD k []) (h : y ∈ ({ W with lists := W.lists.set k L } : WS).lists.getD j []) : ∃ q, y ∈ W.lists.getD q [] := by
  simp only at h
  rw [List.getD_eq_getElem?_getD, List.getElem?_set] at h
  split at h
  · rename_i e; subst e
    split at h
    · exact ⟨k, hL _ (by simpa using h)⟩
    · simp at h
  · exact ⟨j, by rw [List.getD_eq_getElem?_getD]; exact h⟩

theorem fellGo_ok (k : Nat) (f : Int) (hat : k = ix f) (hf0 : f ≠ 0) : ∀ (c i n : Nat) (S : SS), Safe S → S.T.value f < 0 → n ≤ i → i + c = (S.W.lists.getD k []).length →
    FellOk S (fellGo k f c i n S).1 (i - n) := by
  intro c
  induction c with
  | zero =>
    intro i n S h hff hn hi
    have st : Step S { S with W := { S.W with lists := S.W.lists.set k ((S.W.lists.getD k []).take n) } } := Step.watch S (by simp)
    refine ⟨st, h.same st fun j x hx => mem_setL (fun x hx => List.mem_of_mem_take hx) hx, ?_⟩
    have := tot_set S.W.lists k ((S.W.lists.getD k []).take n)
    rw [List.length_take] at this
    show Ytpjiemffkkfbkaa.tot (S.W.lists.set _ _) + _ ≤ _
    omega
  | succ c ih =>
    intro i n S h hff hn hi
    have hil : i < (S.W.lists.getD k []).length := by omega
    have hv := visit_ok h hil hat hf0 hff
    unfold SS.fellGo
    cases hr : S.visit k i f with
    | mk S1 o =>
      rw [hr] at hv
      simp only at hv
      have hff1 : S1.T.value f < 0 := by rw [hv.step.puts.val (by omega)]; exact hff
      have hv1 := hv.tot
      have hv2 := hv.len
      cases o with
      | stays =>
        simp only
        have hm : SS.wx S1.W k i ∈ S1.W.lists.getD k [] := wx_mem (by omega)
        have st : Step S1 { S1 with W := setW S1.W k n (SS.wx S1.W k i) } := Step.watch S1 (by simp [SS.setW])
        have sf : Safe { S1 with W := setW S1.W k n (SS.wx S1.W k i) } := hv.safe.same st fun j x hx => by
          rcases mem_setW hx with rfl | hx
          · exact ⟨k, hm⟩
          · exact ⟨j, hx⟩
        have r := ih (i + 1) (n + 1) { S1 with W := setW S1.W k n (SS.wx S1.W k i) } sf hff1 (by omega) (by show _ = ((setW S1.W k n _).lists.getD k []).length; rw [len_setW]; omega)
        have r3 := r.tot
        have r4 := tot_setW S1.W k n (SS.wx S1.W k i)
        rw [if_neg (by decide)] at hv1
        simp only at r3
        exact ⟨(hv.step.trans st).trans r.step, r.safe, by omega⟩
      | goes =>
        simp only
        have r := ih (i + 1) n S1 hv.safe hff1 (by omega) (by omega)
        have r3 := r.tot
        rw [if_pos rfl] at hv1
        exact ⟨hv.step.trans r.step, r.safe, by omega⟩
      | clashes =>
        simp only
        have st : Step S1 { S1 with W := { S1.W with lists := S1.W.lists.set k ((S1.W.lists.getD k []).take n ++ (S1.W.lists.getD k []).drop i) } } := Step.watch S1 (by simp)
        refine ⟨hv.step.trans st, hv.safe.same st fun j x hx => mem_setL (fun x hx => ?_) hx, ?_⟩
        · rcases List.mem_append.1 hx with hx | hx
          · exact List.mem_of_mem_take hx
          · exact List.mem_of_mem_drop hx
        · have := tot_set S1.W.lists k ((S1.W.lists.getD k []).take n ++ (S1.W.lists.getD k []).drop i)
          rw [List.length_append, List.length_take, List.length_drop] at this
          rw [if_neg (by decide)] at hv1
          show Ytpjiemffkkfbkaa.tot (S1.W.lists.set _ _) + _ ≤ _
          omega

theorem fell_ok {S : SS} (h : Safe S) {f : Int} (hf0 : f ≠ 0) (hff : S.T.value f < 0) : FellOk S (S.fell f).1 0 := by
  have := fellGo_ok (ix f) f rfl hf0 (S.W.lists.getD (ix f) []).length 0 0 S h hff (Nat.le_refl _) (by omega)
  exact this
end SS
end Go.Proofs.Ytpjiemffkkfbkaa

/- What a whole propagation keeps. -/
namespace Go.Proofs.Ytpjiemffkkfbkaa
namespace SS

theorem Step.look (S : SS) (r : Int) : Step S (S.look r).1 := by
  unfold SS.look
  split
  · exact .refl _
  · split
    · exact .refl _
    · exact .put ..
theorem look_W (S : SS) (r : Int) : (S.look r).1.W = S.W := by
  unfold SS.look
  split
  · rfl
  · split
    · rfl
    · exact put_W ..

theorem FellOk.trans {A B C : SS} {d : Nat} (h : FellOk A B 0) (k : FellOk B C d) : FellOk A C d :=
  ⟨h.step.trans k.step, k.safe, by have := h.tot; have := k.tot; omega⟩
theorem FellOk.refl {S : SS} (h : Safe S) : FellOk S S 0 := ⟨.refl _, h, Nat.le_refl _⟩

/-- A turn of the propagator's other words. -/
theorem FellOk.words {S : SS} (h : Safe S) (p : List Int) (hd : Nat) (n : Int) : FellOk S { S with W := { S.W with pend := p, head := hd, visits := n } } 0 :=
  ⟨Step.watch S rfl, ⟨h.lists, h.lits, h.wok⟩, Nat.le_refl _⟩
theorem FellOk.look {S : SS} (h : Safe S) (r : Int) : FellOk S (S.look r).1 0 :=
  ⟨.look S r, h.same (.look S r) (fun j x hx => ⟨j, by rw [look_W] at hx; exact hx⟩), by rw [look_W]; exact Nat.le_refl _⟩

theorem pendGo_ok : ∀ (P : List Int) (S : SS), Safe S → FellOk S (pendGo P S).1 0 := by
  intro P
  induction P with
  | nil => intro S h; exact FellOk.words h [] S.W.head S.W.visits
  | cons r P ih =>
    intro S h
    have h1 : FellOk S { S with W := { S.W with pend := r :: P, visits := w64 (S.W.visits + 1) } } 0 := FellOk.words h (r :: P) S.W.head _
    unfold SS.pendGo
    simp only
    split
    · have h2 := FellOk.look h1.safe r
      split
      · rename_i S2 heq; rw [heq] at h2; exact h1.trans h2
      · rename_i S2 heq; rw [heq] at h2; exact (h1.trans h2).trans (ih S2 h2.safe)
    · exact h1.trans (ih _ h1.safe)

/-- What is pending is not read off the propagator. -/
theorem pendGo_pend (P : List Int) (S : SS) (Q : List Int) : pendGo P { S with W := { S.W with pend := Q } } = pendGo P S := by
  cases P <;> rfl

theorem headGo_ok : ∀ (k : Nat) (S : SS), S.T.WF → Safe S → FellOk S (headGo k S).1 0 := by
  intro k
  induction k with
  | zero => intro S _ h; exact .refl h
  | succ k ih =>
    intro S hw h
    unfold SS.headGo
    split
    · rename_i hl
      have hat : S.T.at_ S.W.head = S.T.l[S.W.head] := by
        unfold TS.at_; rw [if_pos (by omega)]
        rw [List.getD_eq_getElem?_getD]; simp [hl]
      obtain ⟨h1, h2, _, _⟩ := hw.lit S.W.head _ (List.getElem?_eq_getElem hl)
      rw [← hat] at h1 h2
      have hv : S.T.value (-(S.T.at_ S.W.head)) < 0 := by
        have h0 := TS.ok_ne h1
        unfold TS.value TS.on
        rw [TS.ok_neg, TS.get_neg, h1, h2]
        unfold sgn
        by_cases e : S.T.at_ S.W.head < 0
        · simp [e]; omega
        · simp [e]; omega
      have hf := fell_ok h (f := -(S.T.at_ S.W.head)) (by have := TS.ok_ne h1; omega) hv
      split
      · rename_i S1 r heq; rw [heq] at hf; exact hf
      · rename_i S1 heq
        rw [heq] at hf
        have h3 : FellOk S1 { S1 with W := { S1.W with head := S1.W.head + 1 } } 0 := FellOk.words hf.safe S1.W.pend _ S1.W.visits
        exact (hf.trans h3).trans (ih _ (hf.step.puts.wf hw) h3.safe)
    · exact .refl h

theorem propagate_ok {S : SS} (hw : S.T.WF) (h : Safe S) : FellOk S S.propagate.1 0 := by
  unfold SS.propagate
  have h1 := pendGo_ok S.W.pend S h
  split
  · rename_i S1 r heq; rw [heq] at h1; exact h1
  · rename_i S1 heq; rw [heq] at h1; exact h1.trans (headGo_ok _ S1 (h1.step.puts.wf hw) h1.safe)

/-- The literal that is looked at is true: its negation is false. -/
theorem at_false {T : TS} (hw : T.WF) {i : Nat} (hl : i < T.l.length) : T.ok (T.at_ i) = true ∧ T.value (-(T.at_ i)) < 0 ∧ T.at_ i ≠ 0 := by
  have hat : T.at_ i = T.l[i] := by
    unfold TS.at_; rw [if_pos (by omega)]
    rw [List.getD_eq_getElem?_getD]; simp [hl]
  obtain ⟨h1, h2, _, _⟩ := hw.lit i _ (List.getElem?_eq_getElem hl)
  rw [← hat] at h1 h2
  have h0 := TS.ok_ne h1
  refine ⟨h1, ?_, h0⟩
  unfold TS.value TS.on
  rw [TS.ok_neg, TS.get_neg, h1, h2]
  unfold sgn
  by_cases e : T.at_ i < 0
  · simp [e]; omega
  · simp [e]; omega

theorem visit3_head (S : SS) (k i : Nat) (x : Wx) : (S.visit3 k i x).1.W.head = S.W.head := by
  unfold SS.visit3
  simp only
  split
  · rfl
  · split
    · rfl
    · rw [unit_W]
theorem visit_head (S : SS) (k i : Nat) (f : Int) : (S.visit k i f).1.W.head = S.W.head := by
  unfold SS.visit
  simp only
  split
  · rfl
  · split
    · rfl
    · split
      · rw [unit_W]
      · rw [visit3_head, turn_W]
theorem fellGo_head (k : Nat) (f : Int) : ∀ (c i n : Nat) (S : SS), (fellGo k f c i n S).1.W.head = S.W.head := by
  intro c
  induction c with
  | zero => intro i n S; rfl
  | succ c ih =>
    intro i n S
    have hv := visit_head S k i f
    unfold SS.fellGo
    cases hr : S.visit k i f with
    | mk S1 o =>
      rw [hr] at hv
      cases o with
      | stays => simp only; rw [ih]; exact hv
      | goes => simp only; rw [ih]; exact hv
      | clashes => exact hv
theorem fell_head (S : SS) (f : Int) : (S.fell f).1.W.head = S.W.head := fellGo_head ..
end SS
end Go.Proofs.Ytpjiemffkkfbkaa

/- Plain words for sorting and normal forms. -/
namespace Go.Proofs.Ytpjiemffkkfbkaa

/-- Element j sinks to its place. -/
def insGo (L : List Int) : Nat → List Int
  | 0 => L
  | j + 1 => if ix (L.getD (j + 1) 0) < ix (L.getD j 0) then insGo (AS.swapL L (j + 1) j) j else L
def outGo (L : List Int) (i : Nat) : Nat → List Int
  | 0 => L
  | k + 1 => outGo (insGo L i) (i + 1) k
def sortL (L : List Int) : List Int := outGo L 1 (L.length - 1)

theorem insGo_length (j : Nat) : ∀ L : List Int, (insGo L j).length = L.length := by
  induction j with
  | zero => intro L; rfl
  | succ j ih => intro L; unfold insGo; split; rw [ih, AS.swapL_length]; rfl
theorem insGo_perm (j : Nat) : ∀ L : List Int, j < L.length → (insGo L j).Perm L := by
  induction j with
  | zero => intro L _; exact .refl _
  | succ j ih =>
    intro L h
    unfold insGo
    split
    · exact (ih _ (by rw [AS.swapL_length]; omega)).trans (SS.swapL_perm h (by omega))
    · exact .refl _
theorem outGo_perm (k : Nat) : ∀ (L : List Int) (i : Nat), i + k ≤ L.length → (outGo L i k).Perm L := by
  induction k with
  | zero => intro L i _; exact .refl _
  | succ k ih =>
    intro L i h
    unfold outGo
    exact (ih _ _ (by rw [insGo_length]; omega)).trans (insGo_perm i L (by omega))
theorem sortL_perm (L : List Int) : (sortL L).Perm L := by
  unfold sortL
  cases L with
  | nil => exact .refl _
  | cons a L => exact outGo_perm _ _ _ (by simp; omega)
end Go.Proofs.Ytpjiemffkkfbkaa

/- What follows by units, and trails whose literals have reasons: plain words. -/
namespace Go.Proofs.Ytpjiemffkkfbkaa

/-- What follows from literals by clauses. -/
inductive Der (C : List Int → Prop) (k : List Int) : Int → Prop where
  | given {x : Int} : x ∈ k → Der C k x
  | unit {c : List Int} {x : Int} : C c → x ∈ c → (∀ y ∈ c, y ≠ x → Der C k (-y)) → Der C k x

/-- They clash. -/
def Clash (C : List Int → Prop) (k : List Int) : Prop := (∃ x, Der C k x ∧ Der C k (-x)) ∨ ∃ c, C c ∧ ∀ y ∈ c, Der C k (-y)

theorem Der.mono {C D : List Int → Prop} {k m : List Int} (hC : ∀ c, C c → ∃ d, D d ∧ ∀ x, x ∈ d ↔ x ∈ c) (hk : ∀ x ∈ k, Der D m x) {x : Int} (h : Der C k x) : Der D m x := by
  induction h with
  | given h => exact hk _ h
  | unit hc hx _ ih =>
    obtain ⟨d, hd, hm⟩ := hC _ hc
    exact .unit hd ((hm _).2 hx) fun y hy hne => ih y ((hm y).1 hy) hne

theorem Clash.mono {C D : List Int → Prop} {k m : List Int} (hC : ∀ c, C c → ∃ d, D d ∧ ∀ x, x ∈ d ↔ x ∈ c) (hk : ∀ x ∈ k, Der D m x) (h : Clash C k) : Clash D m := by
  rcases h with ⟨x, h1, h2⟩ | ⟨c, hc, h⟩
  · exact .inl ⟨x, h1.mono hC hk, h2.mono hC hk⟩
  · obtain ⟨d, hd, hm⟩ := hC _ hc
    exact .inr ⟨d, hd, fun y hy => (h y ((hm y).1 hy)).mono hC hk⟩

theorem same_cls (C : List Int → Prop) : ∀ c, C c → ∃ d, C d ∧ ∀ x, x ∈ d ↔ x ∈ c := fun c h => ⟨c, h, fun _ => Iff.rfl⟩

/-- What satisfies all clauses, and what is given, satisfies what follows. -/
theorem Der.sound {C : List Int → Prop} {k : List Int} {x : Int} (h : Der C k x) (a : Int → Prop) (hn : ∀ x, a x → ¬ a (-x)) (hC : ∀ c, C c → ∃ x ∈ c, a x) (hk : ∀ x ∈ k, a x) : a x := by
  induction h with
  | given h => exact hk _ h
  | unit hc hx _ ih =>
    rename_i c x _
    obtain ⟨z, hz, ha⟩ := hC _ hc
    by_cases e : z = x
    · rw [← e]; exact ha
    · exact absurd (ih z hz e) (hn z ha)

namespace TS
section
variable {T : TS}
theorem value_mem (hw : T.WF) {x : Int} : (0 < T.value x → x ∈ T.l) ∧ (T.value x < 0 → -x ∈ T.l) := by
  by_cases hon : T.on x = true
  · have hon' := hon
    simp only [on, Bool.and_eq_true, bne_iff_ne] at hon
    obtain ⟨i, hi⟩ := hw.all x hon.1 hon.2
    have h0 := ok_ne hon.1
    have hv : T.value x = if x < 0 then -(T.get x).v else (T.get x).v := by unfold value; rw [if_pos hon']
    rcases hi with hi | hi
    · have := (hw.lit i x hi).2.1
      refine ⟨fun _ => List.mem_of_getElem? hi, fun h => ?_⟩
      rw [hv, this] at h; unfold sgn at h; split at h <;> simp_all
    · have := (hw.lit i _ hi).2.1
      rw [get_neg] at this
      refine ⟨fun h => ?_, fun _ => List.mem_of_getElem? hi⟩
      rw [hv, this] at h; unfold sgn at h; split at h <;> split at h <;> simp_all <;> omega
  · unfold value; rw [if_neg hon]; omega

theorem mem_on (hw : T.WF) {x : Int} (hx : x ∈ T.l) : T.ok x = true ∧ T.on x = true ∧ T.value x = 1 ∧ T.value (-x) = -1 := by
  obtain ⟨i, hi, rfl⟩ := List.mem_iff_getElem.1 hx
  obtain ⟨h1, h2, _, _⟩ := hw.lit i _ (List.getElem?_eq_getElem hi)
  have h0 := ok_ne h1
  generalize T.l[i] = x at *
  have hon : T.on x = true := by simp only [on, h1, h2, Bool.true_and, bne_iff_ne]; exact sgn_ne x
  refine ⟨h1, hon, ?_, ?_⟩
  · unfold value; rw [if_pos hon, h2]; unfold sgn; split <;> simp_all
  · unfold value; rw [on_neg, if_pos hon, get_neg, h2]; unfold sgn; split <;> split <;> simp_all <;> omega

theorem pos_iff (hw : T.WF) {x : Int} : 0 < T.value x ↔ x ∈ T.l := ⟨(value_mem hw).1, fun h => by rw [(mem_on hw h).2.2.1]; omega⟩
theorem neg_iff (hw : T.WF) {x : Int} : T.value x < 0 ↔ -x ∈ T.l := ⟨(value_mem hw).2, fun h => by
  have := (mem_on hw h).2.2.2; rw [Int.neg_neg] at this; rw [this]; omega⟩
theorem not_both (hw : T.WF) {x : Int} (h : x ∈ T.l) : -x ∉ T.l := fun h2 => by
  have := (neg_iff hw).2 h2; have := (pos_iff hw).2 h; omega

/-- Where a literal stands. -/
theorem place_of (hw : T.WF) {i : Nat} {x : Int} (h : T.l[i]? = some x) : T.place x = i ∧ T.place (-x) = i ∧ T.levelOf x = T.lvAt i ∧ T.levelOf (-x) = T.lvAt i := by
  have h4 := hw.lit i x h
  have hon := (mem_on hw (List.mem_of_getElem? h)).2.1
  refine ⟨?_, ?_, ?_, ?_⟩
  · unfold place; rw [if_pos hon]; exact h4.2.2.1
  · unfold place; rw [on_neg, if_pos hon, get_neg]; exact h4.2.2.1
  · unfold levelOf; rw [if_pos hon]; exact h4.2.2.2
  · unfold levelOf; rw [on_neg, if_pos hon, get_neg]; exact h4.2.2.2

theorem lvAt_le (T : TS) (i : Nat) : T.lvAt i ≤ T.st.length := List.length_filter_le ..
theorem lvAt_mono (T : TS) {i j : Nat} (h : i ≤ j) : T.lvAt i ≤ T.lvAt j := by
  unfold lvAt
  rw [← List.countP_eq_length_filter, ← List.countP_eq_length_filter]
  refine List.countP_mono_left fun s _ hs => ?_
  simp only [decide_eq_true_eq] at hs ⊢
  omega

theorem levelOf_le (hw : T.WF) (x : Int) : T.levelOf x ≤ T.st.length := by
  by_cases hon : T.on x = true
  · simp only [on, Bool.and_eq_true, bne_iff_ne] at hon
    obtain ⟨i, hi⟩ := hw.all x hon.1 hon.2
    have := lvAt_le T i
    rcases hi with hi | hi
    · rw [(place_of hw hi).2.2.1]; omega
    · have h := (place_of hw hi).2.2.2; rw [Int.neg_neg] at h; rw [h]; omega
  · unfold levelOf; rw [if_neg hon]; omega

/-! puts -/
theorem put_get_on (_hw : T.WF) {l r x : Int} (hf : T.free l = true) (hx : T.on x = true) : (T.put l r).get x = T.get x ∧ (T.put l r).on x = true := by
  have hne : vi x ≠ vi l := by
    intro e
    simp only [on, Bool.and_eq_true, bne_iff_ne, free, beq_iff_eq] at hx hf
    apply hx.2
    have : T.get x = T.get l := by unfold get; rw [e]
    rw [this]; exact hf.2
  have hg : (T.put l r).get x = T.get x := by rw [put_get hf, if_neg hne]
  refine ⟨hg, ?_⟩
  unfold on; rw [put_ok, hg]; exact hx

theorem put_mem (T : TS) (l r x : Int) : x ∈ (T.put l r).l ↔ x ∈ T.l ∨ x = l := by
  show x ∈ T.l ++ [l] ↔ _
  simp

theorem free_not (hw : T.WF) {l : Int} (hf : T.free l = true) : l ∉ T.l ∧ -l ∉ T.l := by
  simp only [free, Bool.and_eq_true, beq_iff_eq] at hf
  have hno : T.on l = false := by simp [on, hf.2]
  constructor
  · intro h; have := (mem_on hw h).2.1; rw [hno] at this; cases this
  · intro h; have := (mem_on hw h).2.1; rw [on_neg, hno] at this; cases this

end
end TS

/-- Each literal that was put has its reason; the others are the first of their levels. -/
def RInv (A : AS) (T : TS) : Prop := ∀ (i : Nat) x, T.l[i]? = some x →
  ((T.get x).rs = -1 ∧ (i : Int) ∈ T.st) ∨
  (A.has (T.get x).rs = true ∧ x ∈ A.lits (T.get x).rs ∧ (∀ y ∈ A.lits (T.get x).rs, y ≠ x → -y ∈ T.l.take i) ∧ (i : Int) ∉ T.st)

/-- The arena's clauses. -/
def AS.cl (A : AS) (c : List Int) : Prop := ∃ r, A.has r = true ∧ A.lits r = c

theorem RInv.put {A : AS} {T : TS} (h : RInv A T) (hw : T.WF) {l r : Int} (hf : T.free l = true) (hr : A.has r = true) (hl : l ∈ A.lits r) (ho : ∀ y ∈ A.lits r, y ≠ l → -y ∈ T.l) :
    RInv A (T.put l r) := by
  intro i x hx
  have hx' : (T.l ++ [l])[i]? = some x := hx
  by_cases hi : i < T.l.length
  · rw [List.getElem?_append_left hi] at hx'
    have hon := (TS.mem_on hw (List.mem_of_getElem? hx')).2.1
    rw [(TS.put_get_on hw hf hon).1]
    rcases h i x hx' with h | ⟨h1, h2, h3, h4⟩
    · exact .inl h
    · refine .inr ⟨h1, h2, fun y hy hne => ?_, h4⟩
      show -y ∈ (T.l ++ [l]).take i
      rw [List.take_append_of_le_length (by omega)]; exact h3 y hy hne
  · have hi2 : i = T.l.length := by
      rcases Nat.lt_or_ge (i - T.l.length) 1 with h1 | h1
      · omega
      · rw [List.getElem?_append_right (by omega), List.getElem?_eq_none (by simpa using h1)] at hx'; cases hx'
    subst hi2
    simp at hx'
    subst hx'
    rw [TS.put_get hf, if_pos rfl]
    refine .inr ⟨hr, hl, fun y hy hne => ?_, fun hs => ?_⟩
    · show -y ∈ (T.l ++ [l]).take _
      rw [List.take_append_of_le_length (Nat.le_refl _), List.take_length]; exact ho y hy hne
    · obtain ⟨k, hk, e⟩ := List.mem_iff_getElem.1 hs
      have := hw.st k _ (List.getElem?_eq_getElem hk)
      omega

theorem RInv.decided {A : AS} {T : TS} (h : RInv A T) (hw : T.WF) {l : Int} (hf : T.free l = true) : RInv A (T.decide_ l) := by
  intro i x hx
  have hx' : (T.l ++ [l])[i]? = some x := hx
  have hg : ∀ x, (T.decide_ l).get x = if vi x = vi l then ⟨sgn l, (T.st ++ [(T.l.length : Int)]).length, -1, T.l.length, decide (0 < l)⟩ else T.get x := by
    intro x
    show (T.vars.set (vi l) _).getD (vi x) Cell.zero = _
    simp only [TS.free, Bool.and_eq_true] at hf
    rw [TS.get_set (vi_lt hf.1)]; rfl
  have hst : (T.decide_ l).st = T.st ++ [(T.l.length : Int)] := rfl
  rw [hst]
  by_cases hi : i < T.l.length
  · rw [List.getElem?_append_left hi] at hx'
    have hon := (TS.mem_on hw (List.mem_of_getElem? hx')).2.1
    have hne : vi x ≠ vi l := by
      intro e
      simp only [TS.on, Bool.and_eq_true, bne_iff_ne, TS.free, beq_iff_eq] at hon hf
      apply hon.2
      have : T.get x = T.get l := by unfold TS.get; rw [e]
      rw [this]; exact hf.2
    rw [hg, if_neg hne]
    have hni : (i : Int) ∈ T.st ++ [(T.l.length : Int)] ↔ (i : Int) ∈ T.st := by
      simp only [List.mem_append, List.mem_singleton]
      exact ⟨fun h => h.resolve_right (by omega), .inl⟩
    rw [hni]
    rcases h i x hx' with h | ⟨h1, h2, h3, h4⟩
    · exact .inl h
    · refine .inr ⟨h1, h2, fun y hy hne => ?_, h4⟩
      show -y ∈ (T.l ++ [l]).take i
      rw [List.take_append_of_le_length (by omega)]; exact h3 y hy hne
  · have hi2 : i = T.l.length := by
      rcases Nat.lt_or_ge (i - T.l.length) 1 with h1 | h1
      · omega
      · rw [List.getElem?_append_right (by omega), List.getElem?_eq_none (by simpa using h1)] at hx'; cases hx'
    subst hi2
    simp at hx'
    subst hx'
    rw [hg, if_pos rfl]
    exact .inl ⟨rfl, by simp⟩

theorem RInv.arena {A B : AS} {T : TS} (h : RInv A T) (hh : ∀ r, A.has r = true → B.has r = true ∧ ∀ x, x ∈ B.lits r ↔ x ∈ A.lits r) : RInv B T := by
  intro i x hx
  rcases h i x hx with h | ⟨h1, h2, h3, h4⟩
  · exact .inl h
  · exact .inr ⟨(hh _ h1).1, ((hh _ h1).2 x).2 h2, fun y hy => h3 y (((hh _ h1).2 y).1 hy), h4⟩

/-- What is behind a place where no decision stands follows from what is ahead of it. -/
theorem RInv.der {A : AS} {T : TS} (h : RInv A T) (n : Nat) (hn : ∀ s ∈ T.st, s < (n : Int)) : ∀ (i : Nat) x, T.l[i]? = some x → Der A.cl (T.l.take n) x := by
  intro i
  induction i using Nat.strongRecOn with
  | _ i ih =>
    intro x hx
    by_cases hi : i < n
    · exact .given (List.mem_of_getElem? (by rw [List.getElem?_take, if_pos hi]; exact hx))
    · rcases h i x hx with ⟨_, hs⟩ | ⟨h1, h2, h3, _⟩
      · have := hn _ hs; omega
      · refine .unit (c := A.lits (T.get x).rs) ⟨_, h1, rfl⟩ h2 fun y hy hne => ?_
        obtain ⟨j, hj, e⟩ := List.mem_iff_getElem.1 (h3 y hy hne)
        rw [List.getElem_take] at e
        have hj2 : j < i := by rw [List.length_take] at hj; omega
        have hj3 : j < T.l.length := by rw [List.length_take] at hj; omega
        exact ih j hj2 (-y) (by rw [List.getElem?_eq_getElem hj3, e])

/-- .. and all of it from the decisions. -/
theorem RInv.der0 {A : AS} {T : TS} (h : RInv A T) {k : List Int} (hk : ∀ (i : Nat) x, (i : Int) ∈ T.st → T.l[i]? = some x → x ∈ k) : ∀ (i : Nat) x, T.l[i]? = some x → Der A.cl k x := by
  intro i
  induction i using Nat.strongRecOn with
  | _ i ih =>
    intro x hx
    rcases h i x hx with ⟨_, hs⟩ | ⟨h1, h2, h3, _⟩
    · exact .given (hk i x hs hx)
    · refine .unit (c := A.lits (T.get x).rs) ⟨_, h1, rfl⟩ h2 fun y hy hne => ?_
      obtain ⟨j, hj, e⟩ := List.mem_iff_getElem.1 (h3 y hy hne)
      rw [List.getElem_take] at e
      have hj2 : j < i := by rw [List.length_take] at hj; omega
      have hj3 : j < T.l.length := by rw [List.length_take] at hj; omega
      exact ih j hj2 (-y) (by rw [List.getElem?_eq_getElem hj3, e])

/-- No clause is a unit, and none clashes. -/
def Closed (C : List Int → Prop) (L : List Int) : Prop := ∀ c, C c → (∃ z ∈ c, z ∈ L) ∨ ∃ y ∈ c, ∃ z ∈ c, y ≠ z ∧ -y ∉ L ∧ -z ∉ L

theorem Closed.der {C : List Int → Prop} {L k : List Int} (h : Closed C L) (hn : ∀ x ∈ L, -x ∉ L) (hk : ∀ x ∈ k, x ∈ L) {x : Int} (hd : Der C k x) : x ∈ L := by
  induction hd with
  | given h => exact hk _ h
  | unit hc hx _ ih =>
    rename_i c x _
    rcases h c hc with ⟨z, hz, hl⟩ | ⟨y, hy, z, hz, hne, h1, h2⟩
    · by_cases e : z = x
      · rw [← e]; exact hl
      · exact absurd (ih z hz e) (hn z hl)
    · by_cases e : z = x
      · exact absurd (ih y hy (fun e2 => hne (e2.trans e.symm))) h1
      · exact absurd (ih z hz e) h2

theorem Closed.noClash {C : List Int → Prop} {L k : List Int} (h : Closed C L) (hn : ∀ x ∈ L, -x ∉ L) (hk : ∀ x ∈ k, x ∈ L) : ¬ Clash C k := by
  rintro (⟨x, h1, h2⟩ | ⟨c, hc, hd⟩)
  · exact hn x (h.der hn hk h1) (h.der hn hk h2)
  · rcases h c hc with ⟨z, hz, hl⟩ | ⟨y, hy, z, hz, hne, h1, h2⟩
    · exact hn z hl (h.der hn hk (hd z hz))
    · exact h1 (h.der hn hk (hd y hy))
end Go.Proofs.Ytpjiemffkkfbkaa

/- The reference's Follow, on lists: plain words. -/
namespace Go.Proofs.Ytpjiemffkkfbkaa

def freeF (k : List Int) (x : Int) : Bool := !k.contains (-x)
/-- The scan of a clause: how many literals are left, and the last one. -/
def scanF (k : List Int) : List Int → Nat → Int → Nat × Int
  | [], left, last => (left, last)
  | x :: c, left, last => if freeF k x && (left == 0 || x != last) then scanF k c (left + 1) x else scanF k c left last
/-- All clauses once. -/
def passF : List (List Int) → List Int → Bool → Option (List Int × Bool)
  | [], k, g => some (k, g)
  | c :: C, k, g => if (scanF k c 0 0).1 = 0 then none else if (scanF k c 0 0).1 = 1 ∧ k.contains (scanF k c 0 0).2 = false then passF C (k ++ [(scanF k c 0 0).2]) true else passF C k g
def clashF (k : List Int) : Bool := k.any fun x => k.contains (-x)
def followF : Nat → List (List Int) → List Int → Option (List Int)
  | 0, _, _ => none
  | f + 1, C, k => if clashF k then none else match passF C k false with
    | none => none
    | some (k', g) => if g then followF f C k' else some k'

theorem scanF_spec (k : List Int) : ∀ (c : List Int) (left : Nat) (last : Int), c.Nodup → (left = 0 ∨ last ∉ c) →
    (scanF k c left last).1 = left + (c.filter (freeF k)).length ∧ (scanF k c left last).2 = ((c.filter (freeF k)).getLast?).getD last := by
  intro c
  induction c with
  | nil => intro left last _ _; simp [scanF]
  | cons x c ih =>
    intro left last hn hl
    rw [List.nodup_cons] at hn
    have hne : (left == 0 || x != last) = true := by
      rcases hl with rfl | hl
      · simp
      · have : x ≠ last := fun e => hl (by simp [e])
        simp [this]
    unfold scanF
    rw [hne, Bool.and_true]
    cases hf : freeF k x with
    | true =>
      simp only [if_true]
      obtain ⟨h1, h2⟩ := ih (left + 1) x hn.2 (.inr hn.1)
      rw [List.filter_cons_of_pos hf]
      refine ⟨by rw [h1, List.length_cons]; omega, ?_⟩
      rw [h2]
      cases h : (c.filter (freeF k)) with
      | nil => simp
      | cons a l =>
        rw [List.getLast?_cons_cons]
        have e : (a :: l).getLast? = some ((a :: l).getLast (by simp)) := List.getLast?_eq_some_getLast (by simp)
        rw [e]; rfl
    | false =>
      simp only [Bool.false_eq_true, if_false]
      obtain ⟨h1, h2⟩ := ih left last hn.2 (hl.imp id fun h hm => h (by simp [hm]))
      rw [List.filter_cons_of_neg (by simp [hf])]
      exact ⟨h1, h2⟩

theorem scanF_zero {k c : List Int} (hn : c.Nodup) (h : (scanF k c 0 0).1 = 0) : ∀ x ∈ c, -x ∈ k := by
  have h1 := (scanF_spec k c 0 0 hn (.inl rfl)).1
  intro x hx
  have : c.filter (freeF k) = [] := List.eq_nil_of_length_eq_zero (by omega)
  rw [List.filter_eq_nil_iff] at this
  have := this x hx
  simpa [freeF] using this
theorem scanF_one {k c : List Int} (hn : c.Nodup) (h : (scanF k c 0 0).1 = 1) : (scanF k c 0 0).2 ∈ c ∧ -(scanF k c 0 0).2 ∉ k ∧ ∀ x ∈ c, x ≠ (scanF k c 0 0).2 → -x ∈ k := by
  obtain ⟨h1, h2⟩ := scanF_spec k c 0 0 hn (.inl rfl)
  have hl : (c.filter (freeF k)).length = 1 := by omega
  obtain ⟨a, ha⟩ := List.length_eq_one_iff.1 hl
  rw [ha] at h2
  simp at h2
  rw [h2]
  have hm : a ∈ c.filter (freeF k) := by rw [ha]; simp
  rw [List.mem_filter] at hm
  refine ⟨hm.1, by simpa [freeF] using hm.2, fun x hx hne => ?_⟩
  cases hf : freeF k x with
  | true => have : x ∈ c.filter (freeF k) := List.mem_filter.2 ⟨hx, hf⟩
            rw [ha] at this; simp at this; exact absurd this hne
  | false => simpa [freeF] using hf
theorem scanF_two {k c : List Int} (hn : c.Nodup) (h : 2 ≤ (scanF k c 0 0).1) : ∃ y ∈ c, ∃ z ∈ c, y ≠ z ∧ -y ∉ k ∧ -z ∉ k := by
  have h1 := (scanF_spec k c 0 0 hn (.inl rfl)).1
  match hF : c.filter (freeF k), h1 with
  | [], h1 => simp at h1; omega
  | [a], h1 => simp at h1; omega
  | a :: b :: l, _ =>
    have ma : a ∈ c.filter (freeF k) := by rw [hF]; simp
    have mb : b ∈ c.filter (freeF k) := by rw [hF]; simp
    have hd : (c.filter (freeF k)).Nodup := hn.filter _
    rw [hF, List.nodup_cons] at hd
    rw [List.mem_filter] at ma mb
    exact ⟨a, ma.1, b, mb.1, fun e => hd.1 (by simp [e]), by simpa [freeF] using ma.2, by simpa [freeF] using mb.2⟩

/-- The literals of n variables. -/
def univ : Nat → List Int
  | 0 => []
  | n + 1 => ((n : Int) + 1) :: (-((n : Int) + 1)) :: univ n
theorem univ_mem {n : Nat} {x : Int} (h : litIn x n = true) : x ∈ univ n := by
  rw [litIn_iff] at h
  induction n with
  | zero => omega
  | succ n ih =>
    unfold univ
    by_cases e1 : x = (n : Int) + 1
    · simp [e1]
    · by_cases e2 : x = -((n : Int) + 1)
      · simp [e2]
      · simp only [List.mem_cons]; exact .inr (.inr (ih (by omega)))
theorem univ_len (n : Nat) : (univ n).length = 2 * n := by
  induction n with
  | zero => rfl
  | succ n ih => simp [univ, ih]; omega

/-- How many literals are not in a list. -/
def miss (n : Nat) (k : List Int) : Nat := ((univ n).filter fun x => !k.contains x).length
theorem miss_le (n : Nat) (k : List Int) : miss n k ≤ 2 * n := by
  unfold miss; have := List.length_filter_le (fun x => !k.contains x) (univ n); rw [univ_len] at this; exact this
theorem filter_lt {l : List Int} {p q : Int → Bool} (h : ∀ x, q x = true → p x = true) {y : Int} (hy : y ∈ l) (hp : p y = true) (hq : q y = false) : (l.filter q).length + 1 ≤ (l.filter p).length := by
  have hle : ∀ l : List Int, (l.filter q).length ≤ (l.filter p).length := by
    intro l
    rw [← List.countP_eq_length_filter, ← List.countP_eq_length_filter]
    exact List.countP_mono_left fun x _ hx => h x hx
  induction l with
  | nil => simp at hy
  | cons a l ih =>
    by_cases e : a = y
    · subst e
      rw [List.filter_cons_of_pos hp, List.filter_cons_of_neg (by simp [hq])]
      have := hle l
      simp; omega
    · have hy' : y ∈ l := by rcases List.mem_cons.1 hy with h | h; exact absurd h.symm e; exact h
      have := ih hy'
      cases hqa : q a with
      | true => rw [List.filter_cons_of_pos hqa, List.filter_cons_of_pos (h a hqa)]; simp; omega
      | false =>
        rw [List.filter_cons_of_neg (by simp [hqa])]
        cases hpa : p a with
        | true => rw [List.filter_cons_of_pos hpa]; simp; omega
        | false => rw [List.filter_cons_of_neg (by simp [hpa])]; exact this
theorem miss_add {n : Nat} {k : List Int} {x : Int} (h : litIn x n = true) (hx : k.contains x = false) : miss n (k ++ [x]) + 1 ≤ miss n k := by
  refine filter_lt (fun y hy => ?_) (univ_mem h) (by simpa using hx) (by simp)
  simp only [Bool.not_eq_true', List.contains_eq_mem, List.mem_append, decide_eq_false_iff_not, not_or] at hy ⊢
  exact hy.1

/-- What a pass over the clauses says. -/
structure PassOk (C D : List (List Int)) (n : Nat) (k0 k k' : List Int) (g g' : Bool) : Prop where
  ext : ∃ s, k' = k ++ s
  der : (∀ x ∈ k, Der (fun c => c ∈ D) k0 x) → ∀ x ∈ k', Der (fun c => c ∈ D) k0 x
  lits : (∀ x ∈ k, litIn x n = true) → ∀ x ∈ k', litIn x n = true
  ms : k'.length + miss n k' ≤ k.length + miss n k
  grown : g' = true → g = true ∨ miss n k' + 1 ≤ miss n k
  still : g' = false → k' = k ∧ ∀ c ∈ C, (∃ z ∈ c, z ∈ k) ∨ ∃ y ∈ c, ∃ z ∈ c, y ≠ z ∧ -y ∉ k ∧ -z ∉ k

theorem passF_some {D : List (List Int)} {n : Nat} {k0 : List Int} : ∀ (C : List (List Int)) (k : List Int) (g : Bool) (k' : List Int) (g' : Bool), (∀ c ∈ C, c ∈ D) → (∀ c ∈ C, c.Nodup) → (∀ c ∈ C, ∀ l ∈ c, litIn l n = true) →
    passF C k g = some (k', g') → PassOk C D n k0 k k' g g' := by
  intro C
  induction C with
  | nil =>
    intro k g k' g' _ _ _ h
    simp only [passF, Option.some.injEq, Prod.mk.injEq] at h
    obtain ⟨rfl, rfl⟩ := h
    exact ⟨⟨[], by simp⟩, fun h => h, fun h => h, Nat.le_refl _, .inl, fun _ => ⟨rfl, by simp⟩⟩
  | cons c C ih =>
    intro k g k' g' hD hn hl h
    have hcn := hn c (by simp)
    unfold passF at h
    split at h
    · cases h
    · rename_i h0
      split at h
      · rename_i h1
        obtain ⟨m1, m2, m3⟩ := scanF_one hcn h1.1
        have hlit := hl c (by simp) _ m1
        have r := ih _ true k' g' (fun d hd => hD d (by simp [hd])) (fun d hd => hn d (by simp [hd])) (fun d hd => hl d (by simp [hd])) h
        have hms := miss_add hlit h1.2
        obtain ⟨s, hs⟩ := r.ext
        have hge : g' = true := by
          cases hg : g' with
          | true => rfl
          | false =>
            -- once grown it stays so
            exfalso
            have key : ∀ (C : List (List Int)) (k : List Int) (k' : List Int), passF C k true = some (k', false) → False := by
              intro C
              induction C with
              | nil => intro k k' h; simp [passF] at h
              | cons d C ih2 =>
                intro k k' h
                unfold passF at h
                split at h
                · cases h
                · split at h
                  · exact ih2 _ _ h
                  · exact ih2 _ _ h
            rw [hg] at h
            exact key _ _ _ h
        refine ⟨⟨(scanF k c 0 0).2 :: s, by rw [hs]; simp⟩, fun hd => r.der fun x hx => ?_, fun hd => r.lits fun x hx => ?_, ?_, fun _ => .inr ?_, fun hf => by rw [hge] at hf; cases hf⟩
        · rcases List.mem_append.1 hx with hx | hx
          · exact hd x hx
          · simp at hx; subst hx
            exact .unit (hD c (by simp)) m1 fun y hy hne => hd _ (m3 y hy hne)
        · rcases List.mem_append.1 hx with hx | hx
          · exact hd x hx
          · simp at hx; subst hx; exact hlit
        · have := r.ms; simp only [List.length_append, List.length_singleton] at this; omega
        · have h2 := r.ms
          rw [hs] at h2 ⊢
          simp only [List.length_append, List.length_singleton] at h2
          omega
      · rename_i h1
        have r := ih _ g k' g' (fun d hd => hD d (by simp [hd])) (fun d hd => hn d (by simp [hd])) (fun d hd => hl d (by simp [hd])) h
        refine ⟨r.ext, r.der, r.lits, r.ms, r.grown, fun hg => ?_⟩
        obtain ⟨e, hc⟩ := r.still hg
        refine ⟨e, fun d hd => ?_⟩
        rcases List.mem_cons.1 hd with rfl | hd
        · by_cases h2 : 2 ≤ (scanF k d 0 0).1
          · exact .inr (scanF_two hcn h2)
          · have h3 : (scanF k d 0 0).1 = 1 := by omega
            have h4 : k.contains (scanF k d 0 0).2 = true := by
              cases hk : k.contains (scanF k d 0 0).2 with
              | true => rfl
              | false => exact absurd ⟨h3, hk⟩ h1
            exact .inl ⟨_, (scanF_one hcn h3).1, by simpa using h4⟩
        · exact hc d hd

theorem passF_none {D : List (List Int)} {k0 : List Int} : ∀ (C : List (List Int)) (k : List Int) (g : Bool), (∀ c ∈ C, c ∈ D) → (∀ c ∈ C, c.Nodup) →
    passF C k g = none → (∀ x ∈ k, Der (fun c => c ∈ D) k0 x) → Clash (fun c => c ∈ D) k0 := by
  intro C
  induction C with
  | nil => intro k g _ _ h; cases h
  | cons c C ih =>
    intro k g hD hn h hd
    have hcn := hn c (by simp)
    unfold passF at h
    split at h
    · rename_i h0
      exact .inr ⟨c, hD c (by simp), fun y hy => hd _ (scanF_zero hcn h0 y hy)⟩
    · split at h
      · rename_i h1
        obtain ⟨m1, m2, m3⟩ := scanF_one hcn h1.1
        refine ih _ _ (fun d hd => hD d (by simp [hd])) (fun d hd => hn d (by simp [hd])) h fun x hx => ?_
        rcases List.mem_append.1 hx with hx | hx
        · exact hd x hx
        · simp at hx; subst hx
          exact .unit (hD c (by simp)) m1 fun y hy hne => hd _ (m3 y hy hne)
      · exact ih _ _ (fun d hd => hD d (by simp [hd])) (fun d hd => hn d (by simp [hd])) h hd

theorem followF_spec {C : List (List Int)} {n : Nat} {k0 : List Int} (hn : ∀ c ∈ C, c.Nodup) (hl : ∀ c ∈ C, ∀ l ∈ c, litIn l n = true) : ∀ (f : Nat) (k : List Int), miss n k < f → (∀ x ∈ k, litIn x n = true) → (∀ x ∈ k, Der (fun c => c ∈ C) k0 x) → (∀ x ∈ k0, x ∈ k) →
    (∀ k', followF f C k = some k' → (∀ x, x ∈ k' ↔ Der (fun c => c ∈ C) k0 x) ∧ ¬ Clash (fun c => c ∈ C) k0) ∧ (followF f C k = none → Clash (fun c => c ∈ C) k0) := by
  intro f
  induction f with
  | zero => intro k h; omega
  | succ f ih =>
    intro k hm hlk hd h0
    unfold followF
    cases hc : clashF k with
    | true =>
      simp only [if_true]
      refine ⟨fun k' h => (by cases h), fun _ => ?_⟩
      unfold clashF at hc
      simp only [List.any_eq_true, List.contains_iff_mem] at hc
      obtain ⟨x, hx, hnx⟩ := hc
      exact .inl ⟨x, hd x hx, hd _ hnx⟩
    | false =>
      simp only [Bool.false_eq_true, if_false]
      cases hp : passF C k false with
      | none => exact ⟨fun k' h => (by cases h), fun _ => passF_none C k false (fun c h => h) hn hp hd⟩
      | some r =>
        obtain ⟨k', g⟩ := r
        have P := passF_some (D := C) (n := n) (k0 := k0) C k false k' g (fun c h => h) hn hl hp
        cases g with
        | true =>
          simp only [if_true]
          obtain ⟨s, hs⟩ := P.ext
          exact ih k' (by have := P.grown rfl; simp at this; omega) (P.lits hlk) (P.der hd) fun x hx => by rw [hs]; exact List.mem_append_left _ (h0 x hx)
        | false =>
          simp only [Bool.false_eq_true, if_false]
          obtain ⟨e, hcl⟩ := P.still rfl
          refine ⟨fun k2 h => ?_, fun h => (by cases h)⟩
          have e2 := Option.some.inj h
          subst e2
          subst e
          have hnb : ∀ x ∈ k', -x ∉ k' := by
            intro x hx hnx
            unfold clashF at hc
            have : (k'.any fun x => k'.contains (-x)) = true := by
              simp only [List.any_eq_true, List.contains_iff_mem]; exact ⟨x, hx, hnx⟩
            rw [this] at hc; cases hc
          have hcl2 : Closed (fun c => c ∈ C) k' := fun c hc => hcl c hc
          exact ⟨fun x => ⟨hd x, fun h => hcl2.der hnb h0 h⟩, hcl2.noClash hnb h0⟩

theorem followF_len {C : List (List Int)} {n : Nat} (hn : ∀ c ∈ C, c.Nodup) (hl : ∀ c ∈ C, ∀ l ∈ c, litIn l n = true) : ∀ (f : Nat) (k k' : List Int), followF f C k = some k' → k'.length + miss n k' ≤ k.length + miss n k ∧ ((∀ x ∈ k, litIn x n = true) → ∀ x ∈ k', litIn x n = true) := by
  intro f
  induction f with
  | zero => intro k k' h; cases h
  | succ f ih =>
    intro k k' h
    unfold followF at h
    split at h
    · cases h
    · cases hp : passF C k false with
      | none => rw [hp] at h; cases h
      | some r =>
        obtain ⟨k2, g⟩ := r
        have P := passF_some (D := C) (n := n) (k0 := k) C k false k2 g (fun c h => h) hn hl hp
        rw [hp] at h
        simp only at h
        split at h
        · obtain ⟨h1, h2⟩ := ih _ _ h
          exact ⟨Nat.le_trans h1 P.ms, fun hk => h2 (P.lits hk)⟩
        · cases h; exact ⟨P.ms, P.lits⟩

/-- Enough rounds. -/
def follow (n : Nat) (C : List (List Int)) (k : List Int) : Option (List Int) := followF (2 * n + 1) C k
theorem follow_spec {C : List (List Int)} {n : Nat} {k : List Int} (hn : ∀ c ∈ C, c.Nodup) (hl : ∀ c ∈ C, ∀ l ∈ c, litIn l n = true) (hk : ∀ x ∈ k, litIn x n = true) :
    (∀ k', follow n C k = some k' → (∀ x, x ∈ k' ↔ Der (fun c => c ∈ C) k x) ∧ ¬ Clash (fun c => c ∈ C) k) ∧ (follow n C k = none → Clash (fun c => c ∈ C) k) :=
  followF_spec hn hl _ k (by have := miss_le n k; omega) hk (fun x hx => .given hx) fun x hx => hx
theorem follow_len {C : List (List Int)} {n : Nat} (hn : ∀ c ∈ C, c.Nodup) (hl : ∀ c ∈ C, ∀ l ∈ c, litIn l n = true) {k k' : List Int} (h : follow n C k = some k') : k'.length ≤ k.length + 2 * n ∧ ((∀ x ∈ k, litIn x n = true) → ∀ x ∈ k', litIn x n = true) := by
  obtain ⟨h1, h2⟩ := followF_len hn hl _ _ _ h
  have := miss_le n k
  exact ⟨by omega, h2⟩
end Go.Proofs.Ytpjiemffkkfbkaa

