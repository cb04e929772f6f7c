/- Plain laws of watch, part 2: what the data and the moves of the propagator mean, in plain Lean with no program in sight. -/
import Derived.Test.YtpjiemffkkfbkaaPA
/- The propagator's invariant: plain words. -/
namespace Go.Proofs.Ytpjiemffkkfbkaa

theorem AS.lit_getD (A : AS) (r : Int) (i : Nat) : A.lit r i = (A.lits r).getD i 0 := by
  unfold AS.lit
  by_cases h : i < A.len r
  · rw [if_pos (by omega)]; rfl
  · rw [if_neg (by omega), List.getD_eq_getElem?_getD, List.getElem?_eq_none (by unfold AS.len at h; omega)]; rfl

theorem swapL_getD {L : List Int} {i k : Nat} (hi : i < L.length) (hk : k < L.length) (m : Nat) :
    (AS.swapL L i k).getD m 0 = if m = k then L.getD i 0 else if m = i then L.getD k 0 else L.getD m 0 := by
  unfold AS.swapL
  rw [List.getD_eq_getElem?_getD, List.getElem?_set, List.length_set, List.getElem?_set]
  by_cases e : k = m
  · subst e; rw [if_pos rfl, if_pos hk, if_pos rfl]; rfl
  · rw [if_neg e, if_neg (show ¬ m = k from fun h => e h.symm)]
    by_cases e2 : i = m
    · subst e2; rw [if_pos rfl, if_pos hi, if_pos rfl]; rfl
    · rw [if_neg e2, if_neg (show ¬ m = i from fun h => e2 h.symm)]; simp only [List.getD_eq_getElem?_getD]

theorem getD_mem {L : List Int} {i : Nat} (h : i < L.length) : L.getD i 0 ∈ L := by
  rw [List.getD_eq_getElem?_getD, List.getElem?_eq_getElem h]; exact List.getElem_mem h
theorem getD_inj {L : List Int} (hn : L.Nodup) {i k : Nat} (hi : i < L.length) (hk : k < L.length) (h : L.getD i 0 = L.getD k 0) : i = k := by
  simp only [List.getD_eq_getElem?_getD, List.getElem?_eq_getElem hi, List.getElem?_eq_getElem hk, Option.getD_some] at h
  rw [List.nodup_iff_pairwise_ne, List.pairwise_iff_getElem] at hn
  rcases Nat.lt_trichotomy i k with h1 | h1 | h1
  · exact absurd h (hn i k hi hk h1)
  · exact h1
  · exact absurd h.symm (hn k i hk hi h1)

namespace TS
variable {T : TS}
theorem free_of' {l : Int} (h : T.ok l = true) (hv : T.value l = 0) : T.free l = true := by
  unfold free
  rw [h, Bool.true_and, beq_iff_eq]
  unfold value on at hv
  rw [h, Bool.true_and] at hv
  by_cases e : (T.get l).v = 0
  · exact e
  · simp only [bne_iff_ne, ne_eq, e, not_false_eq_true, if_true] at hv
    split at hv <;> omega
theorem value_free' {l : Int} (h : T.free l = true) : T.value l = 0 := by
  simp only [free, Bool.and_eq_true, beq_iff_eq] at h
  unfold value on; simp [h.2]
theorem on_of_value {x : Int} (h : T.value x ≠ 0) : T.on x = true := by
  unfold value at h; by_cases e : T.on x = true
  · exact e
  · simp [e] at h

theorem put_pos {l r z : Int} (hf : T.free l = true) (h : 0 < T.value z) : 0 < (T.put l r).value z := by rw [put_value hf (by omega)]; exact h
theorem put_neg {l r z : Int} (hf : T.free l = true) (h : (T.put l r).value z < 0) : T.value z < 0 ∨ z = -l := by
  rw [put_value_iff hf] at h
  split at h
  · omega
  · split at h
    · rename_i e; exact .inr e
    · exact .inl h
theorem put_negs {l r z : Int} (hf : T.free l = true) (h : T.value z < 0) : (T.put l r).value z < 0 := by rw [put_value hf (by omega)]; exact h
theorem put_nonneg {l r z : Int} (hf : T.free l = true) (h : 0 ≤ (T.put l r).value z) : 0 ≤ T.value z := by
  rcases Int.lt_or_le (T.value z) 0 with h1 | h1
  · have := put_negs (r := r) hf h1; omega
  · exact h1
theorem put_level (hw : T.WF) {l r x : Int} (hf : T.free l = true) (h : T.value x ≠ 0) : (T.put l r).levelOf x = T.levelOf x ∧ (T.put l r).place x = T.place x := by
  have hon := on_of_value h
  obtain ⟨h1, h2⟩ := put_get_on (r := r) hw hf hon
  unfold levelOf place
  rw [if_pos hon, if_pos hon, if_pos h2, if_pos h2, h1]
  exact ⟨rfl, rfl⟩
theorem put_new (hw : T.WF) {l r : Int} (hf : T.free l = true) : (T.put l r).place l = T.l.length ∧ (T.put l r).place (-l) = T.l.length ∧ (T.put l r).levelOf l = T.st.length := by
  have hw' := hw.put (r := r) hf
  have hx : (T.put l r).l[T.l.length]? = some l := by show (T.l ++ [l])[_]? = _; simp
  have := place_of hw' hx
  refine ⟨this.1, this.2.1, ?_⟩
  rw [this.2.2.1]
  show (((T.st.filter _).length : Nat) : Int) = _
  rw [filter_all_len]
  intro s hs
  obtain ⟨k, hk, rfl⟩ := List.mem_iff_getElem.1 hs
  have := hw.st k _ (List.getElem?_eq_getElem hk)
  simp; omega
theorem level_nonneg (hw : T.WF) {x : Int} (h : T.value x ≠ 0) : 0 ≤ T.levelOf x := by
  have hon := on_of_value h
  simp only [on, Bool.and_eq_true, bne_iff_ne] at hon
  obtain ⟨i, hi⟩ := hw.all x hon.1 hon.2
  rcases hi with hi | hi
  · rw [(place_of hw hi).2.2.1]; omega
  · have h := (place_of hw hi).2.2.2; rw [Int.neg_neg] at h; rw [h]; omega
end TS

/-- What is known of a watch in the list of index j. -/
def EV (A : AS) (j : Nat) (e : Wx) : Prop :=
  2 ≤ A.len e.ref ∧ (ix ((A.lits e.ref).getD 0 0) = j ∨ ix ((A.lits e.ref).getD 1 0) = j) ∧ e.bl ∈ A.lits e.ref ∧ (e.bin = true → A.len e.ref = 2 ∧ ix e.bl ≠ j)

/-- Some literal of a clause is true. -/
def Sat (A : AS) (T : TS) (r : Int) : Prop := ∃ z ∈ A.lits r, 0 < T.value z

/-- The propagator's invariant; lf: the lists of watches. -/
structure WI (A : AS) (T : TS) (lf : Nat → List Wx) (pend : List Int) (head : Nat) : Prop where
  nd : ∀ r, (A.lits r).Nodup
  ok : ∀ r, ∀ l ∈ A.lits r, T.ok l = true
  ev : ∀ j, ∀ e ∈ lf j, A.has e.ref = true → EV A j e
  un : ∀ j, ((lf j).map Wx.ref).Nodup
  lo : ∀ j, ∀ e ∈ lf j, e.ref < A.words.length
  wt : ∀ r, A.has r = true → 2 ≤ A.len r → ∀ m, m < 2 → ∃ e ∈ lf (ix ((A.lits r).getD m 0)), e.ref = r
  dn : ∀ r, A.has r = true → r ∉ pend → 2 ≤ A.len r → ∀ m, m < 2 → T.value ((A.lits r).getD m 0) < 0 → T.place ((A.lits r).getD m 0) < head →
    ∃ z ∈ A.lits r, 0 < T.value z ∧ T.levelOf z ≤ T.levelOf ((A.lits r).getD m 0)
  pn : ∀ r, A.has r = true → r ∈ pend → 2 ≤ A.len r → ∀ m, m < 2 → T.value ((A.lits r).getD m 0) < 0 → T.place ((A.lits r).getD m 0) < head →
    T.levelOf ((A.lits r).getD m 0) = T.st.length ∧ ∀ y ∈ A.lits r, ∀ z ∈ A.lits r, 0 ≤ T.value y → 0 ≤ T.value z → y = z
  sh : ∀ r, A.has r = true → r ∉ pend → A.len r < 2 → ∃ z ∈ A.lits r, 0 < T.value z ∧ T.levelOf z = 0
  ps : ∀ r, A.has r = true → r ∈ pend → A.len r < 2 → T.st = []
  lt : ∀ (i : Nat) x, T.l[i]? = some x → head ≤ i → T.levelOf x = T.st.length
  hd : head ≤ T.l.length
  wf : T.WF
  rs : RInv A T

namespace WI
section
variable {A : AS} {T : TS} {lf lf' : Nat → List Wx} {pend : List Int} {head : Nat}

theorem congr (h : WI A T lf pend head) (e : ∀ j, lf' j = lf j) : WI A T lf' pend head := by
  have : lf' = lf := funext e
  rw [this]; exact h

theorem put (h : WI A T lf pend head) {l r : Int} (hf : T.free l = true) (hr : A.has r = true) (hl : l ∈ A.lits r) (ho : ∀ y ∈ A.lits r, y ≠ l → T.value y < 0) : WI A (T.put l r) lf pend head where
  nd := h.nd
  ok := fun q l' hl' => by rw [TS.put_ok]; exact h.ok q l' hl'
  ev := h.ev
  un := h.un
  lo := h.lo
  wt := h.wt
  dn := by
    intro q hq hp h2 m hm hv hpl
    rcases TS.put_neg hf hv with hv' | e
    · have hv'' : T.value ((A.lits q).getD m 0) ≠ 0 := by omega
      rw [(TS.put_level h.wf hf hv'').2] at hpl
      rw [(TS.put_level h.wf hf hv'').1]
      obtain ⟨z, hz, hp1, hp2⟩ := h.dn q hq hp h2 m hm hv' hpl
      exact ⟨z, hz, TS.put_pos hf hp1, by rw [(TS.put_level h.wf hf (by omega)).1]; exact hp2⟩
    · rw [e, (TS.put_new h.wf hf).2.1] at hpl
      have := h.hd; omega
  pn := by
    intro q hq hp h2 m hm hv hpl
    rcases TS.put_neg hf hv with hv' | e
    · have hv'' : T.value ((A.lits q).getD m 0) ≠ 0 := by omega
      rw [(TS.put_level h.wf hf hv'').2] at hpl
      rw [(TS.put_level h.wf hf hv'').1]
      obtain ⟨h1, h3⟩ := h.pn q hq hp h2 m hm hv' hpl
      exact ⟨h1, fun y hy z hz hy0 hz0 => h3 y hy z hz (TS.put_nonneg hf hy0) (TS.put_nonneg hf hz0)⟩
    · rw [e, (TS.put_new h.wf hf).2.1] at hpl
      have := h.hd; omega
  sh := by
    intro q hq hp h2
    obtain ⟨z, hz, h1, h3⟩ := h.sh q hq hp h2
    exact ⟨z, hz, TS.put_pos hf h1, by rw [(TS.put_level h.wf hf (by omega)).1]; exact h3⟩
  ps := h.ps
  lt := by
    intro i x hx hi
    have hx' : (T.l ++ [l])[i]? = some x := hx
    by_cases hil : i < T.l.length
    · rw [List.getElem?_append_left hil] at hx'
      have := (TS.mem_on h.wf (List.mem_of_getElem? hx')).2.2.1
      rw [(TS.put_level h.wf hf (by omega)).1]
      exact h.lt i x hx' hi
    · rw [List.getElem?_append_right (by omega)] at hx'
      have : i - T.l.length = 0 := by
        rcases Nat.lt_or_ge (i - T.l.length) 1 with h1 | h1
        · omega
        · rw [List.getElem?_eq_none (by simpa using h1)] at hx'; cases hx'
      rw [this] at hx'
      simp at hx'
      subst hx'
      exact (TS.put_new h.wf hf).2.2
  hd := by show head ≤ (T.l ++ [l]).length; have := h.hd; simp; omega
  wf := h.wf.put hf
  rs := h.rs.put h.wf hf hr hl fun y hy hne => (TS.neg_iff h.wf).1 (ho y hy hne)

theorem words_swap (A : AS) (r : Int) (i k : Nat) : (A.swap r i k).words.length = A.words.length :=
  updAt_length (fun c => { c with lits := AS.swapL c.lits i k }) (fun c => by simp [Cz.size, AS.swapL_length]) _ _ _

theorem lits_perm (A : AS) {r : Int} {i k : Nat} (hi : i < A.len r) (hk : k < A.len r) (q : Int) : ((A.swap r i k).lits q).Perm (A.lits q) := by
  rw [AS.lits_swap]; split
  · rename_i e; subst e; exact SS.swapL_perm hi hk
  · exact .refl _

theorem lits_other (A : AS) {r q : Int} (i k : Nat) (h : q ≠ r) : (A.swap r i k).lits q = A.lits q := by rw [AS.lits_swap, if_neg h]
theorem lits_self (A : AS) (r : Int) (i k : Nat) : (A.swap r i k).lits r = AS.swapL (A.lits r) i k := by rw [AS.lits_swap, if_pos rfl]

/-- The first two literals change places. -/
theorem swap01 (h : WI A T lf pend head) {r : Int} (h2 : 2 ≤ A.len r) : WI (A.swap r 0 1) T lf pend head := by
  have h0 : 0 < A.len r := by omega
  have h1 : 1 < A.len r := by omega
  have hp := lits_perm A h0 h1
  have hlen : ∀ q, (A.swap r 0 1).len q = A.len q := fun q => (hp q).length_eq
  have hhas : ∀ q, (A.swap r 0 1).has q = A.has q := fun q => AS.has_swap ..
  have hmem : ∀ q x, x ∈ (A.swap r 0 1).lits q ↔ x ∈ A.lits q := fun q x => (hp q).mem_iff
  have hget : ∀ q m, m < 2 → ∃ m', m' < 2 ∧ ((A.swap r 0 1).lits q).getD m 0 = (A.lits q).getD m' 0 := by
    intro q m hm
    by_cases e : q = r
    · subst e
      rw [lits_self, swapL_getD h0 h1]
      by_cases e1 : m = 1
      · exact ⟨0, by omega, by rw [if_pos e1]⟩
      · exact ⟨1, by omega, by rw [if_neg e1, if_pos (by omega)]⟩
    · exact ⟨m, hm, by rw [lits_other _ _ _ e]⟩
  refine ⟨fun q => (hp q).nodup_iff.2 (h.nd q), fun q l hl => h.ok q l ((hmem q l).1 hl), ?_, h.un, fun j e he => by rw [words_swap]; exact h.lo j e he, ?_, ?_, ?_, ?_, ?_, h.lt, h.hd, h.wf,
    h.rs.arena fun q hq => ⟨by rw [hhas]; exact hq, hmem q⟩⟩
  · intro j e he hh
    rw [hhas] at hh
    obtain ⟨e1, e2, e3, e4⟩ := h.ev j e he hh
    refine ⟨by rw [hlen]; exact e1, ?_, (hmem _ _).2 e3, fun hb => by rw [hlen]; exact e4 hb⟩
    by_cases er : e.ref = r
    · rw [er] at e2 ⊢
      rw [lits_self, swapL_getD h0 h1, swapL_getD h0 h1]
      simp only [Nat.zero_ne_one, if_false, if_true]
      exact e2.symm
    · rw [lits_other _ _ _ er]; exact e2
  · intro q hq hl m hm
    rw [hhas] at hq; rw [hlen] at hl
    obtain ⟨m', hm', e⟩ := hget q m hm
    rw [e]; exact h.wt q hq hl m' hm'
  · intro q hq hpd hl m hm
    rw [hhas] at hq; rw [hlen] at hl
    obtain ⟨m', hm', e⟩ := hget q m hm
    rw [e]; intro hv hpl
    obtain ⟨z, hz, h3⟩ := h.dn q hq hpd hl m' hm' hv hpl
    exact ⟨z, (hmem q z).2 hz, h3⟩
  · intro q hq hpd hl m hm
    rw [hhas] at hq; rw [hlen] at hl
    obtain ⟨m', hm', e⟩ := hget q m hm
    rw [e]; intro hv hpl
    obtain ⟨h3, h4⟩ := h.pn q hq hpd hl m' hm' hv hpl
    exact ⟨h3, fun y hy z hz => h4 y ((hmem q y).1 hy) z ((hmem q z).1 hz)⟩
  · intro q hq hpd hl
    rw [hhas] at hq; rw [hlen] at hl
    obtain ⟨z, hz, h3⟩ := h.sh q hq hpd hl
    exact ⟨z, (hmem q z).2 hz, h3⟩
  · intro q hq hpd hl
    rw [hhas] at hq; rw [hlen] at hl
    exact h.ps q hq hpd hl

/-- A watch's blocker turns. -/
theorem setBl (h : WI A T lf pend head) {j : Nat} {K R : List Wx} {e e' : Wx} (hj : lf j = K ++ e :: R) (hj' : lf' j = K ++ e' :: R) (ho : ∀ i, i ≠ j → lf' i = lf i) (hr : e'.ref = e.ref)
    (hev : A.has e'.ref = true → EV A j e') : WI A T lf' pend head := by
  have hrefs : ∀ i, (lf' i).map Wx.ref = (lf i).map Wx.ref := by
    intro i
    by_cases ei : i = j
    · subst ei; rw [hj, hj']; simp [hr]
    · rw [ho i ei]
  refine ⟨h.nd, h.ok, ?_, fun i => by rw [hrefs]; exact h.un i, ?_, ?_, h.dn, h.pn, h.sh, h.ps, h.lt, h.hd, h.wf, h.rs⟩
  · intro i x hx hh
    by_cases ei : i = j
    · subst ei
      rw [hj'] at hx
      rcases List.mem_append.1 hx with hx | hx
      · exact h.ev i x (by rw [hj]; simp [hx]) hh
      · rcases List.mem_cons.1 hx with rfl | hx
        · exact hev hh
        · exact h.ev i x (by rw [hj]; simp [hx]) hh
    · rw [ho i ei] at hx; exact h.ev i x hx hh
  · intro i x hx
    have : x.ref ∈ (lf' i).map Wx.ref := List.mem_map.2 ⟨x, hx, rfl⟩
    rw [hrefs] at this
    obtain ⟨y, hy, e⟩ := List.mem_map.1 this
    rw [← e]; exact h.lo i y hy
  · intro q hq hl m hm
    obtain ⟨x, hx, e⟩ := h.wt q hq hl m hm
    have : q ∈ (lf (ix ((A.lits q).getD m 0))).map Wx.ref := List.mem_map.2 ⟨x, hx, e⟩
    rw [← hrefs] at this
    obtain ⟨y, hy, e⟩ := List.mem_map.1 this
    exact ⟨y, hy, e⟩

/-- A watch of a clause that is no more goes. -/
theorem drop (h : WI A T lf pend head) {j : Nat} {K R : List Wx} {e : Wx} (hj : lf j = K ++ e :: R) (hj' : lf' j = K ++ R) (ho : ∀ i, i ≠ j → lf' i = lf i) (hr : A.has e.ref = false) : WI A T lf' pend head := by
  have hsub : ∀ i, (lf' i).Sublist (lf i) := by
    intro i
    by_cases ei : i = j
    · subst ei; rw [hj, hj']; exact List.Sublist.append (List.Sublist.refl _) (List.sublist_cons_self ..)
    · rw [ho i ei]; exact List.Sublist.refl _
  refine ⟨h.nd, h.ok, fun i x hx hh => h.ev i x ((hsub i).subset hx) hh, fun i => (h.un i).sublist ((hsub i).map _), fun i x hx => h.lo i x ((hsub i).subset hx), ?_, h.dn, h.pn, h.sh, h.ps, h.lt, h.hd, h.wf, h.rs⟩
  intro q hq hl m hm
  obtain ⟨x, hx, e1⟩ := h.wt q hq hl m hm
  refine ⟨x, ?_, e1⟩
  by_cases ei : ix ((A.lits q).getD m 0) = j
  · rw [ei] at hx ⊢
    rw [hj] at hx
    rw [hj']
    rcases List.mem_append.1 hx with hx | hx
    · exact List.mem_append_left _ hx
    · rcases List.mem_cons.1 hx with rfl | hx
      · rw [e1, hq] at hr; cases hr
      · exact List.mem_append_right _ hx
  · rw [ho _ ei]; exact hx

theorem nz (h : WI A T lf pend head) {r : Int} {l : Int} (hl : l ∈ A.lits r) : l ≠ 0 := TS.ok_ne (h.ok r l hl)
theorem ix_ne (h : WI A T lf pend head) {r : Int} {i k : Nat} (hi : i < A.len r) (hk : k < A.len r) (hne : i ≠ k) : ix ((A.lits r).getD i 0) ≠ ix ((A.lits r).getD k 0) := fun e =>
  hne (getD_inj (h.nd r) hi hk (ix_inj' (h.nz (getD_mem hi)) (h.nz (getD_mem hk)) e))

theorem low (A : AS) {r : Int} (h : A.has r = true) : r < A.words.length := by
  unfold AS.has at h
  obtain ⟨c, hc⟩ := Option.isSome_iff_exists.1 h
  have := liveAt_ge _ _ _ _ hc
  have hs : 3 ≤ c.size := by unfold Cz.size; omega
  have : A.words.length = (wordsOf A.cs).length := rfl
  omega

/-- A watch goes to another list. -/
theorem move (h : WI A T lf pend head) {j k : Nat} {K R : List Wx} {e : Wx} {bl : Int} (hh : A.has e.ref = true) (hk2 : 2 ≤ k) (hk : k < A.len e.ref) (hv : 0 ≤ T.value ((A.lits e.ref).getD k 0))
    (hj : j = ix ((A.lits e.ref).getD 1 0)) (hbl : bl ∈ A.lits e.ref) (h1 : lf j = K ++ e :: R) (h1' : lf' j = K ++ R) (h2' : lf' (ix ((A.lits e.ref).getD k 0)) = lf (ix ((A.lits e.ref).getD k 0)) ++ [⟨e.ref, bl, false⟩])
    (ho : ∀ i, i ≠ j → i ≠ ix ((A.lits e.ref).getD k 0) → lf' i = lf i) : WI (A.swap e.ref 1 k) T lf' pend head := by
  have hl1 : 1 < A.len e.ref := by omega
  have hl0 : 0 < A.len e.ref := by omega
  have hp := lits_perm A hl1 hk
  have hlen : ∀ q, (A.swap e.ref 1 k).len q = A.len q := fun q => (hp q).length_eq
  have hhas : ∀ q, (A.swap e.ref 1 k).has q = A.has q := fun q => AS.has_swap ..
  have hmem : ∀ q x, x ∈ (A.swap e.ref 1 k).lits q ↔ x ∈ A.lits q := fun q x => (hp q).mem_iff
  have g0 : ((A.swap e.ref 1 k).lits e.ref).getD 0 0 = (A.lits e.ref).getD 0 0 := by
    rw [lits_self, swapL_getD hl1 hk, if_neg (by omega), if_neg (by omega)]
  have g1 : ((A.swap e.ref 1 k).lits e.ref).getD 1 0 = (A.lits e.ref).getD k 0 := by
    rw [lits_self, swapL_getD hl1 hk, if_neg (by omega), if_pos rfl]
  generalize hj2 : ix ((A.lits e.ref).getD k 0) = j2 at *
  have hjj : j ≠ j2 := by rw [hj, ← hj2]; exact h.ix_ne hl1 hk (by omega)
  have hj0 : ix ((A.lits e.ref).getD 0 0) ≠ j := by rw [hj]; exact h.ix_ne hl0 hl1 (by omega)
  have hj02 : ix ((A.lits e.ref).getD 0 0) ≠ j2 := by rw [← hj2]; exact h.ix_ne hl0 hk (by omega)
  have hun := h.un j
  have hKR : ∀ x ∈ K ++ R, x.ref ≠ e.ref := by
    intro x hx ex
    rw [h1, List.map_append, List.map_cons, List.nodup_append] at hun
    obtain ⟨_, n2, n3⟩ := hun
    rw [List.nodup_cons] at n2
    rcases List.mem_append.1 hx with hx | hx
    · exact n3 _ (List.mem_map.2 ⟨x, hx, rfl⟩) _ (List.mem_cons_self ..) ex
    · exact n2.1 (List.mem_map.2 ⟨x, hx, ex⟩)
  -- where the entries of lf' come from
  have hfrom : ∀ i x, x ∈ lf' i → (i = j2 ∧ x = ⟨e.ref, bl, false⟩) ∨ (x ∈ lf i ∧ (i = j → x.ref ≠ e.ref)) := by
    intro i x hx
    by_cases e1 : i = j
    · subst e1
      rw [h1'] at hx
      refine .inr ⟨?_, fun _ => hKR x hx⟩
      rw [h1]; rcases List.mem_append.1 hx with hx | hx <;> simp [hx]
    · by_cases e2 : i = j2
      · subst e2
        rw [h2'] at hx
        rcases List.mem_append.1 hx with hx | hx
        · exact .inr ⟨hx, fun h => absurd h e1⟩
        · simp at hx; exact .inl ⟨rfl, hx⟩
      · rw [ho i e1 e2] at hx; exact .inr ⟨hx, fun h => absurd h e1⟩
  have hto : ∀ i x, x ∈ lf i → (i = j → x.ref ≠ e.ref) → x ∈ lf' i := by
    intro i x hx hn
    by_cases e1 : i = j
    · subst e1
      rw [h1] at hx; rw [h1']
      rcases List.mem_append.1 hx with hx | hx
      · exact List.mem_append_left _ hx
      · rcases List.mem_cons.1 hx with rfl | hx
        · exact absurd rfl (hn rfl)
        · exact List.mem_append_right _ hx
    · by_cases e2 : i = j2
      · subst e2; rw [h2']; exact List.mem_append_left _ hx
      · rw [ho i e1 e2]; exact hx
  refine ⟨fun q => (hp q).nodup_iff.2 (h.nd q), fun q l hl => h.ok q l ((hmem q l).1 hl), ?_, ?_, ?_, ?_, ?_, ?_, ?_, ?_, h.lt, h.hd, h.wf,
    h.rs.arena fun q hq => ⟨by rw [hhas]; exact hq, hmem q⟩⟩
  · intro i x hx hhx
    rw [hhas] at hhx
    rcases hfrom i x hx with ⟨rfl, rfl⟩ | ⟨hx, hn⟩
    · refine ⟨by rw [hlen]; show 2 ≤ A.len e.ref; omega, .inr ?_, (hmem _ _).2 hbl, fun hb => by cases hb⟩
      show ix (((A.swap e.ref 1 k).lits e.ref).getD 1 0) = _
      rw [g1, hj2]
    · obtain ⟨e1, e2, e3, e4⟩ := h.ev i x hx hhx
      refine ⟨by rw [hlen]; exact e1, ?_, (hmem _ _).2 e3, fun hb => by rw [hlen]; exact e4 hb⟩
      by_cases er : x.ref = e.ref
      · rw [er] at e2 ⊢
        rw [g0]
        rcases e2 with e2 | e2
        · exact .inl e2
        · rw [← hj] at e2
          exact absurd er (hn e2.symm)
      · rw [lits_other _ _ _ er]; exact e2
  · intro i
    by_cases e1 : i = j
    · subst e1
      rw [h1']
      rw [h1] at hun
      exact hun.sublist ((List.Sublist.append (List.Sublist.refl _) (List.sublist_cons_self ..)).map _)
    · by_cases e2 : i = j2
      · subst e2
        rw [h2', List.map_append, List.nodup_append]
        refine ⟨h.un _, by simp, ?_⟩
        intro a ha b hb
        simp at hb
        subst hb
        rintro rfl
        obtain ⟨x, hx, ex⟩ := List.mem_map.1 ha
        have hev := h.ev _ x hx (by rw [ex]; exact hh)
        rcases hev.2.1 with h3 | h3
        · rw [ex] at h3; exact hj02 h3
        · rw [ex, ← hj] at h3; exact hjj h3
      · rw [ho i e1 e2]; exact h.un i
  · intro i x hx
    rw [words_swap]
    rcases hfrom i x hx with ⟨rfl, rfl⟩ | ⟨hx, _⟩
    · exact low A hh
    · exact h.lo i x hx
  · intro q hq hl m hm
    rw [hhas] at hq; rw [hlen] at hl
    by_cases er : q = e.ref
    · subst er
      have hm' : m = 0 ∨ m = 1 := by omega
      rcases hm' with rfl | rfl
      · rw [g0]
        obtain ⟨x, hx, ex⟩ := h.wt _ hq hl 0 (by omega)
        exact ⟨x, hto _ x hx (fun h => absurd h hj0), ex⟩
      · rw [g1, hj2, h2']
        exact ⟨_, List.mem_append_right _ (List.mem_singleton.2 rfl), rfl⟩
    · rw [lits_other _ _ _ er]
      obtain ⟨x, hx, ex⟩ := h.wt _ hq hl m hm
      exact ⟨x, hto _ x hx (fun _ => by rw [ex]; exact er), ex⟩
  · intro q hq hpd hl m hm
    rw [hhas] at hq; rw [hlen] at hl
    intro hv1 hpl
    have key : ((A.swap e.ref 1 k).lits q).getD m 0 = (A.lits q).getD m 0 := by
      by_cases er : q = e.ref
      · subst er
        have hm' : m = 0 ∨ m = 1 := by omega
        rcases hm' with rfl | rfl
        · exact g0
        · rw [g1] at hv1; omega
      · rw [lits_other _ _ _ er]
    rw [key] at hv1 hpl ⊢
    obtain ⟨z, hz, h3⟩ := h.dn q hq hpd hl m hm hv1 hpl
    exact ⟨z, (hmem q z).2 hz, h3⟩
  · intro q hq hpd hl m hm
    rw [hhas] at hq; rw [hlen] at hl
    intro hv1 hpl
    have key : ((A.swap e.ref 1 k).lits q).getD m 0 = (A.lits q).getD m 0 := by
      by_cases er : q = e.ref
      · subst er
        have hm' : m = 0 ∨ m = 1 := by omega
        rcases hm' with rfl | rfl
        · exact g0
        · rw [g1] at hv1; omega
      · rw [lits_other _ _ _ er]
    rw [key] at hv1 hpl ⊢
    obtain ⟨h3, h4⟩ := h.pn q hq hpd hl m hm hv1 hpl
    exact ⟨h3, fun y hy z hz => h4 y ((hmem q y).1 hy) z ((hmem q z).1 hz)⟩
  · intro q hq hpd hl
    rw [hhas] at hq; rw [hlen] at hl
    obtain ⟨z, hz, h3⟩ := h.sh q hq hpd hl
    exact ⟨z, (hmem q z).2 hz, h3⟩
  · intro q hq hpd hl
    rw [hhas] at hq; rw [hlen] at hl
    exact h.ps q hq hpd hl

/-- When all is done nothing is a unit. -/
theorem closed (h : WI A T lf [] T.l.length) : Closed A.cl T.l := by
  rintro c ⟨r, hr, rfl⟩
  have hw := h.wf
  by_cases h2 : 2 ≤ A.len r
  · have l0 : 0 < (A.lits r).length := by unfold AS.len at h2; omega
    have l1 : 1 < (A.lits r).length := by unfold AS.len at h2; omega
    have key : ∀ m, m < 2 → T.value ((A.lits r).getD m 0) < 0 → ∃ z ∈ A.lits r, z ∈ T.l := by
      intro m hm hv
      have hmem := (TS.neg_iff hw).1 hv
      obtain ⟨i, hi, e⟩ := List.mem_iff_getElem.1 hmem
      have hp := (TS.place_of hw (List.getElem?_eq_getElem hi)).2.1
      rw [e, Int.neg_neg] at hp
      obtain ⟨z, hz, hp1, _⟩ := h.dn r hr (by simp) h2 m hm hv (by rw [hp]; omega)
      exact ⟨z, hz, (TS.pos_iff hw).1 hp1⟩
    by_cases v0 : T.value ((A.lits r).getD 0 0) < 0
    · exact .inl (key 0 (by omega) v0)
    · by_cases v1 : T.value ((A.lits r).getD 1 0) < 0
      · exact .inl (key 1 (by omega) v1)
      · refine .inr ⟨_, getD_mem l0, _, getD_mem l1, ?_, fun hm => v0 ((TS.neg_iff hw).2 hm), fun hm => v1 ((TS.neg_iff hw).2 hm)⟩
        intro e
        have := getD_inj (h.nd r) l0 l1 e
        omega
  · obtain ⟨z, hz, h1, _⟩ := h.sh r hr (by simp) (by omega)
    exact .inl ⟨z, hz, (TS.pos_iff hw).1 h1⟩
end
end WI
end Go.Proofs.Ytpjiemffkkfbkaa

/- The propagator keeps its invariant; what a propagation says. -/
namespace Go.Proofs.Ytpjiemffkkfbkaa
open SS

/-- The lists of watches, but for one. -/
def lv (W : WS) (k : Nat) (X : List Wx) (j : Nat) : List Wx := if j = k then X else W.lists.getD j []
def lists (W : WS) (j : Nat) : List Wx := W.lists.getD j []

theorem lv_self (W : WS) (k : Nat) : lv W k (lists W k) = lists W := by
  funext j; unfold lv lists; split
  · rename_i e; subst e; rfl
  · rfl

/-- A clause of which all literals are false. -/
def Hit (S : SS) (r : Int) : Prop := S.A.has r = true ∧ ∀ y ∈ S.A.lits r, S.T.value y < 0

theorem Sat.step {S S' : SS} (h : Step S S') {r : Int} (hs : Sat S.A S.T r) : Sat S'.A S'.T r := by
  obtain ⟨z, hz, hv⟩ := hs
  exact ⟨z, (h.perm r).mem_iff.2 hz, by rw [h.puts.val (by omega)]; exact hv⟩

theorem unit_spec {S : SS} {l r : Int} (hok : S.T.ok l = true) :
    (S.T.value l < 0 ∧ S.unit l r = (S, .clashes)) ∨ (0 < S.T.value l ∧ S.unit l r = (S, .stays)) ∨
    (S.T.value l = 0 ∧ S.T.free l = true ∧ S.unit l r = ({ S with T := S.T.put l r }, .stays) ∧ 0 < (S.T.put l r).value l) := by
  rcases Int.lt_trichotomy (S.T.value l) 0 with h | h | h
  · refine .inl ⟨h, ?_⟩
    unfold SS.unit; simp only; rw [if_neg (show ¬ S.T.value l = 0 by omega), if_pos h]
  · have hf := TS.free_of' hok h
    have hv : (S.T.put l r).value l = 1 := by rw [TS.put_value_iff hf, if_pos rfl]
    refine .inr (.inr ⟨h, hf, ?_, by omega⟩)
    unfold SS.unit SS.put; simp only; rw [if_pos h, if_pos hf]
    simp only
    rw [if_neg (show ¬ (S.T.put l r).value l < 0 by omega)]
  · refine .inr (.inl ⟨h, ?_⟩)
    unfold SS.unit; simp only; rw [if_neg (show ¬ S.T.value l = 0 by omega), if_neg (show ¬ S.T.value l < 0 by omega)]

/-- What a look at one watch says. -/
structure VisitWI (S : SS) (at_ n i : Nat) (e : Wx) (R : SS × Out) : Prop where
  ex : ∃ e', e'.ref = e.ref ∧ lists R.1.W at_ = (lists S.W at_).set i e' ∧ R.1.W.pend = S.W.pend ∧ R.1.W.head = S.W.head ∧
    (R.2 = .stays → WI R.1.A R.1.T (lv R.1.W at_ ((lists S.W at_).take n ++ e' :: (lists S.W at_).drop (i + 1))) S.W.pend S.W.head ∧ (R.1.A.has e.ref = true → Sat R.1.A R.1.T e.ref)) ∧
    (R.2 = .goes → WI R.1.A R.1.T (lv R.1.W at_ ((lists S.W at_).take n ++ (lists S.W at_).drop (i + 1))) S.W.pend S.W.head) ∧
    (R.2 = .clashes → WI R.1.A R.1.T (lv R.1.W at_ ((lists S.W at_).take n ++ e' :: (lists S.W at_).drop (i + 1))) S.W.pend S.W.head ∧ Hit R.1 e.ref)

theorem getD_set_self (L : List Wx) (i : Nat) (h : i < L.length) : L.set i (L.getD i default) = L := by
  rw [List.getD_eq_getElem?_getD, List.getElem?_eq_getElem h]
  simp

theorem lists_setW (W : WS) (k i : Nat) (x : Wx) (h : i < (lists W k).length) : lists (setW W k i x) k = (lists W k).set i x := by
  have hk : k < W.lists.length := by
    rcases Nat.lt_or_ge k W.lists.length with h1 | h1
    · exact h1
    · unfold lists at h; rw [List.getD_eq_getElem?_getD, List.getElem?_eq_none h1] at h; simp at h
  unfold lists SS.setW
  simp only [List.getD_eq_getElem?_getD, List.getElem?_set, if_true, if_pos hk, Option.getD_some]
theorem lists_setW_ne (W : WS) (k i : Nat) (x : Wx) {j : Nat} (h : j ≠ k) : lists (setW W k i x) j = lists W j := by
  unfold lists SS.setW
  simp only [List.getD_eq_getElem?_getD, List.getElem?_set, if_neg (show ¬ k = j from fun e => h e.symm)]
theorem lists_addW (W : WS) (l : Int) (x : Wx) (h : ix l < W.lists.length) : lists (addW W l x) (ix l) = lists W (ix l) ++ [x] := by
  unfold lists SS.addW
  simp only [List.getD_eq_getElem?_getD, List.getElem?_set, if_true, if_pos h, Option.getD_some]
theorem lists_addW_ne (W : WS) (l : Int) (x : Wx) {j : Nat} (h : j ≠ ix l) : lists (addW W l x) j = lists W j := by
  unfold lists SS.addW
  simp only [List.getD_eq_getElem?_getD, List.getElem?_set, if_neg (show ¬ ix l = j from fun e => h e.symm)]
theorem ix_lt' {l : Int} {n : Nat} (h : litIn l n = true) : ix l < 2 * n := by
  rw [litIn_iff] at h; unfold ix; split <;> omega

theorem lits_two {L : List Int} (h : L.length = 2) {y : Int} (hy : y ∈ L) : y = L.getD 0 0 ∨ y = L.getD 1 0 := by
  match L, h with
  | [a, b], _ => simpa using hy

theorem visit3_wi {S : SS} (hs : Safe S) {at_ n i : Nat} {f : Int} {x e : Wx} (hi : i < (lists S.W at_).length) (hwi : WI S.A S.T (lv S.W at_ ((lists S.W at_).take n ++ e :: (lists S.W at_).drop (i + 1))) S.W.pend S.W.head)
    (he : e = (lists S.W at_).getD i default) (hx : x = e) (hat : at_ = ix f) (_hf0 : f ≠ 0) (hff : S.T.value f < 0) (hh : S.A.has e.ref = true) (hnb : e.bin = false) (h1 : (S.A.lits e.ref).getD 1 0 = f) :
    VisitWI S at_ n i e (S.visit3 at_ i x) := by
  subst hx
  have hev := hwi.ev at_ x (by unfold lv; rw [if_pos rfl]; simp) hh
  have hlen2 := hev.1
  have e0 : S.A.lit x.ref 0 = (S.A.lits x.ref).getD 0 0 := AS.lit_getD S.A x.ref 0
  have m0 : (S.A.lits x.ref).getD 0 0 ∈ S.A.lits x.ref := getD_mem (by unfold AS.len at hlen2; omega)
  have hsame : (lists S.W at_).set i x = lists S.W at_ := by rw [he]; exact getD_set_self _ _ hi
  unfold SS.visit3
  simp only [e0]
  split
  · rename_i hv
    refine ⟨{ x with bl := (S.A.lits x.ref).getD 0 0 }, rfl, lists_setW _ _ _ _ hi, rfl, rfl, fun _ => ⟨?_, fun _ => ⟨_, m0, hv⟩⟩, (by intro h; cases h), (by intro h; cases h)⟩
    refine hwi.setBl (j := at_) (e := x) (e' := { x with bl := (S.A.lits x.ref).getD 0 0 }) (K := (lists S.W at_).take n) (R := (lists S.W at_).drop (i + 1)) (by unfold lv; rw [if_pos rfl]) (by unfold lv; rw [if_pos rfl]) ?_ rfl ?_
    · intro j hj; unfold lv; rw [if_neg hj, if_neg hj]; exact lists_setW_ne _ _ _ _ hj
    · intro _
      refine ⟨hev.1, hev.2.1, m0, fun hb => ?_⟩
      rw [show x.bin = false from hnb] at hb; cases hb
  · rename_i hv
    split
    · rename_i j hj
      obtain ⟨hj1, hj2, hj3⟩ := other_spec _ _ _ _ _ hj
      have hjl : j < S.A.len x.ref := by omega
      have e1 : S.A.lit x.ref j = (S.A.lits x.ref).getD j 0 := AS.lit_getD S.A x.ref j
      rw [e1]
      have hmj : (S.A.lits x.ref).getD j 0 ∈ S.A.lits x.ref := getD_mem hjl
      have hne : at_ ≠ ix ((S.A.lits x.ref).getD j 0) := by
        rw [hat, ← h1]; exact hwi.ix_ne (by omega) hjl (by omega)
      have hlt : ix ((S.A.lits x.ref).getD j 0) < S.W.lists.length := by rw [hs.lists]; exact ix_lt' (hs.lits _ _ hmj)
      refine ⟨x, rfl, ?_, rfl, rfl, (by intro h; cases h), fun _ => ?_, (by intro h; cases h)⟩
      · rw [hsame]; exact lists_addW_ne _ _ _ hne
      · refine hwi.move (j := at_) (k := j) (K := (lists S.W at_).take n) (R := (lists S.W at_).drop (i + 1)) (bl := (S.A.lits x.ref).getD 0 0) hh hj1 hjl hj3 (by rw [h1]; exact hat) m0 ?_ ?_ ?_ ?_
        · unfold lv; rw [if_pos rfl]
        · unfold lv; rw [if_pos rfl]
        · unfold lv; rw [if_neg (Ne.symm hne), if_neg (Ne.symm hne)]; exact lists_addW _ _ _ hlt
        · intro q h3 h4; unfold lv; rw [if_neg h3, if_neg h3]; exact lists_addW_ne _ _ _ h4
    · rename_i hj
      have hnone := other_none _ _ _ _ hj
      have hall : ∀ y ∈ S.A.lits x.ref, y ≠ (S.A.lits x.ref).getD 0 0 → S.T.value y < 0 := by
        intro y hy hne
        obtain ⟨k, hk, e⟩ := List.mem_iff_getElem.1 hy
        have ek : (S.A.lits x.ref).getD k 0 = y := by rw [List.getD_eq_getElem?_getD, List.getElem?_eq_getElem hk]; exact e
        by_cases k0 : k = 0
        · subst k0; exact absurd ek.symm hne
        · by_cases k1 : k = 1
          · subst k1; rw [← ek, h1]; exact hff
          · rw [← ek]
            have : k < S.A.len x.ref := hk
            exact hnone k (by omega) (by omega)
      rcases unit_spec (S := S) (r := x.ref) (hs.lits _ _ m0) with ⟨hv, e⟩ | ⟨hv, e⟩ | ⟨_, hfr, e, hv⟩
      · rw [e]
        refine ⟨x, rfl, hsame.symm, rfl, rfl, (by intro h; cases h), (by intro h; cases h), fun _ => ⟨hwi, hh, fun y hy => ?_⟩⟩
        by_cases ey : y = (S.A.lits x.ref).getD 0 0
        · rw [ey]; exact hv
        · exact hall y hy ey
      · rw [e]
        exact ⟨x, rfl, hsame.symm, rfl, rfl, fun _ => ⟨hwi, fun _ => ⟨_, m0, hv⟩⟩, (by intro h; cases h), (by intro h; cases h)⟩
      · rw [e]
        exact ⟨x, rfl, hsame.symm, rfl, rfl, fun _ => ⟨hwi.put hfr hh m0 hall, fun _ => ⟨_, m0, hv⟩⟩, (by intro h; cases h), (by intro h; cases h)⟩

theorem visit_wi {S : SS} (hs : Safe S) {at_ n i : Nat} {f : Int} {e : Wx} (hi : i < (lists S.W at_).length) (he : e = (lists S.W at_).getD i default) (_hn : n ≤ i)
    (hwi : WI S.A S.T (lv S.W at_ ((lists S.W at_).take n ++ (lists S.W at_).drop i)) S.W.pend S.W.head) (hat : at_ = ix f) (hf0 : f ≠ 0) (hff : S.T.value f < 0) :
    VisitWI S at_ n i e (S.visit at_ i f) := by
  have hd : (lists S.W at_).drop i = e :: (lists S.W at_).drop (i + 1) := by
    rw [List.drop_eq_getElem_cons hi, he, List.getD_eq_getElem?_getD, List.getElem?_eq_getElem hi]; rfl
  rw [hd] at hwi
  have hx : wx S.W at_ i = e := by rw [he]; rfl
  have hsame : (lists S.W at_).set i e = lists S.W at_ := by rw [he]; exact getD_set_self _ _ hi
  unfold SS.visit
  simp only [hx]
  split
  · rename_i hh
    refine ⟨e, rfl, hsame.symm, rfl, rfl, (by intro h; cases h), fun _ => ?_, (by intro h; cases h)⟩
    refine hwi.drop (j := at_) (e := e) (K := (lists S.W at_).take n) (R := (lists S.W at_).drop (i + 1)) (by unfold lv; rw [if_pos rfl]) (by unfold lv; rw [if_pos rfl]) ?_ (by simpa using hh)
    intro j hj; unfold lv; rw [if_neg hj, if_neg hj]
  · rename_i hh
    have hh : S.A.has e.ref = true := by simpa using hh
    have hev := hwi.ev at_ e (by unfold lv; rw [if_pos rfl]; simp) hh
    split
    · rename_i hv
      exact ⟨e, rfl, hsame.symm, rfl, rfl, fun _ => ⟨hwi, fun _ => ⟨_, hev.2.2.1, hv⟩⟩, (by intro h; cases h), (by intro h; cases h)⟩
    · rename_i hv
      split
      · rename_i hb
        obtain ⟨l2, hbl⟩ := hev.2.2.2 hb
        have hall : ∀ y ∈ S.A.lits e.ref, y ≠ e.bl → S.T.value y < 0 := by
          intro y hy hne
          have hy' := lits_two l2 hy
          have hb' := lits_two l2 hev.2.2.1
          have hyf : ix y = at_ := by
            rcases hev.2.1 with h | h
            · rcases hy' with e1 | e1
              · rw [e1]; exact h
              · rcases hb' with e2 | e2
                · exfalso; rw [e2] at hbl; exact hbl h
                · exact absurd (e1.trans e2.symm) hne
            · rcases hy' with e1 | e1
              · rcases hb' with e2 | e2
                · exact absurd (e1.trans e2.symm) hne
                · exfalso; rw [e2] at hbl; exact hbl h
              · rw [e1]; exact h
          rw [ix_inj' (hwi.nz hy) hf0 (hyf.trans hat)]; exact hff
        rcases unit_spec (S := { S with W := { S.W with visits := w64 (S.W.visits + 1) } }) (l := e.bl) (r := e.ref) (hs.lits _ _ hev.2.2.1) with ⟨hv, e1⟩ | ⟨hv, e1⟩ | ⟨_, hfr, e1, hv⟩
        · rw [e1]
          refine ⟨e, rfl, hsame.symm, rfl, rfl, (by intro h; cases h), (by intro h; cases h), fun _ => ⟨hwi, hh, fun y hy => ?_⟩⟩
          by_cases ey : y = e.bl
          · rw [ey]; exact hv
          · exact hall y hy ey
        · rw [e1]
          exact ⟨e, rfl, hsame.symm, rfl, rfl, fun _ => ⟨hwi, fun _ => ⟨_, hev.2.2.1, hv⟩⟩, (by intro h; cases h), (by intro h; cases h)⟩
        · rw [e1]
          exact ⟨e, rfl, hsame.symm, rfl, rfl, fun _ => ⟨hwi.put hfr hh hev.2.2.1 hall, fun _ => ⟨_, hev.2.2.1, hv⟩⟩, (by intro h; cases h), (by intro h; cases h)⟩
      · rename_i hb
        have hb : e.bin = false := by simpa using hb
        -- the first two in order
        have hl0 : 0 < S.A.len e.ref := by have := hev.1; omega
        have hl1 : 1 < S.A.len e.ref := by have := hev.1; omega
        have tw : (SS.turn { S with W := { S.W with visits := w64 (S.W.visits + 1) } } e f).W = { S.W with visits := w64 (S.W.visits + 1) } := turn_W ..
        have tT : (SS.turn { S with W := { S.W with visits := w64 (S.W.visits + 1) } } e f).T = S.T := by unfold SS.turn; split <;> rfl
        have tstep : Step { S with W := { S.W with visits := w64 (S.W.visits + 1) } } (SS.turn { S with W := { S.W with visits := w64 (S.W.visits + 1) } } e f) := (turn_ok (hs.visits (w64 (S.W.visits + 1))) e f at_ hev.1).step
        have tsafe : Safe (SS.turn { S with W := { S.W with visits := w64 (S.W.visits + 1) } } e f) := (turn_ok (hs.visits (w64 (S.W.visits + 1))) e f at_ hev.1).safe
        have tA : (SS.turn { S with W := { S.W with visits := w64 (S.W.visits + 1) } } e f).A = if (S.A.lits e.ref).getD 0 0 = f then S.A.swap e.ref 0 1 else S.A := by
          unfold SS.turn
          show (if S.A.lit e.ref 0 = f then _ else _ : SS).A = _
          have e0 : S.A.lit e.ref 0 = (S.A.lits e.ref).getD 0 0 := AS.lit_getD S.A e.ref 0
          rw [e0]
          split <;> rfl
        have tl : ((SS.turn { S with W := { S.W with visits := w64 (S.W.visits + 1) } } e f).A.lits e.ref).getD 1 0 = f := by
          rw [tA]
          split
          · rename_i h; rw [WI.lits_self, swapL_getD hl0 hl1, if_pos rfl]; exact h
          · rename_i h
            rcases hev.2.1 with h3 | h3
            · exact absurd (ix_inj' (hwi.nz (getD_mem hl0)) hf0 (h3.trans hat)) h
            · exact ix_inj' (hwi.nz (getD_mem hl1)) hf0 (h3.trans hat)
        have twi : WI (SS.turn { S with W := { S.W with visits := w64 (S.W.visits + 1) } } e f).A S.T (lv S.W at_ ((lists S.W at_).take n ++ e :: (lists S.W at_).drop (i + 1))) S.W.pend S.W.head := by
          rw [tA]; split
          · exact hwi.swap01 hev.1
          · exact hwi
        generalize hS2 : SS.turn { S with W := { S.W with visits := w64 (S.W.visits + 1) } } e f = S2 at *
        have hL : lists S2.W at_ = lists S.W at_ := by rw [tw]; rfl
        have hlv : ∀ X, lv S2.W at_ X = lv S.W at_ X := by intro X; rw [tw]; rfl
        have hp : S2.W.pend = S.W.pend := by rw [tw]
        have hhd : S2.W.head = S.W.head := by rw [tw]
        have r := visit3_wi (S := S2) tsafe (n := n) (i := i) (x := e) (e := e) (at_ := at_) (f := f) (by rw [hL]; exact hi) (by rw [hL, hlv, hp, hhd, tT]; exact twi) (by rw [hL]; exact he) rfl hat hf0 (by rw [tT]; exact hff) (by rw [tstep.has]; exact hh) hb tl
        obtain ⟨e', h1, h2, h3, h4, h5, h6, h7⟩ := r
        rw [hL] at h2 h5 h6 h7
        rw [hp] at h3 h5 h6 h7
        rw [hhd] at h4 h5 h6 h7
        exact ⟨e', h1, h2, h3, h4, h5, h6, h7⟩
end Go.Proofs.Ytpjiemffkkfbkaa

/- What a propagation says. -/
namespace Go.Proofs.Ytpjiemffkkfbkaa
open SS

/-- The head goes on behind a literal whose clauses all hold. -/
theorem WI.next {A : AS} {T : TS} {lf : Nat → List Wx} {head : Nat} {f : Int} (h : WI A T lf [] head) (hf : T.l[head]? = some (-f)) (hk : ∀ e ∈ lf (ix f), A.has e.ref = true → Sat A T e.ref) : WI A T lf [] (head + 1) := by
  have hlt := (List.getElem?_eq_some_iff.1 hf).1
  have hlev := h.lt head _ hf (Nat.le_refl _)
  have hp := TS.place_of h.wf hf
  rw [Int.neg_neg] at hp
  refine ⟨h.nd, h.ok, h.ev, h.un, h.lo, h.wt, ?_, fun r _ hr => by simp at hr, h.sh, fun r _ hr => by simp at hr, fun i x hx hi => h.lt i x hx (by omega), by omega, h.wf, h.rs⟩
  intro r hr hpd h2 m hm hv hpl
  by_cases hlo : T.place ((A.lits r).getD m 0) < head
  · exact h.dn r hr hpd h2 m hm hv hlo
  · have hmem := (TS.neg_iff h.wf).1 hv
    obtain ⟨i, hi, e⟩ := List.mem_iff_getElem.1 hmem
    have hq := (TS.place_of h.wf (List.getElem?_eq_getElem hi)).2.1
    rw [e, Int.neg_neg] at hq
    have hih : i = head := by omega
    subst hih
    rw [List.getElem?_eq_getElem hi] at hf
    have e2 : (A.lits r).getD m 0 = f := by
      have := Option.some.inj hf; rw [e] at this; omega
    obtain ⟨x, hx, ex⟩ := h.wt r hr h2 m hm
    rw [e2] at hx
    obtain ⟨z, hz, hz2⟩ := hk x hx (by rw [ex]; exact hr)
    rw [ex] at hz
    refine ⟨z, hz, hz2, ?_⟩
    rw [e2]
    have h3 := TS.levelOf_le h.wf z
    have h4 : T.levelOf f = T.st.length := by
      rw [hp.2.2.2, ← hp.2.2.1]; exact hlev
    omega

structure FellWI (S : SS) (f : Int) (R : SS × Option Int) : Prop where
  pend : R.1.W.pend = S.W.pend
  head : R.1.W.head = S.W.head
  wi : WI R.1.A R.1.T (lists R.1.W) S.W.pend S.W.head
  no : R.2 = none → ∀ e ∈ lists R.1.W (ix f), R.1.A.has e.ref = true → Sat R.1.A R.1.T e.ref
  yes : ∀ r, R.2 = some r → Hit R.1 r

theorem fellGo_wi (k : Nat) (f : Int) (hat : k = ix f) (hf0 : f ≠ 0) : ∀ (c i n : Nat) (S : SS), Safe S → S.T.value f < 0 → n ≤ i → i + c = (lists S.W k).length →
    WI S.A S.T (lv S.W k ((lists S.W k).take n ++ (lists S.W k).drop i)) S.W.pend S.W.head → (∀ e ∈ (lists S.W k).take n, S.A.has e.ref = true → Sat S.A S.T e.ref) →
    FellWI S f (fellGo k f c i n S) := by
  intro c
  induction c with
  | zero =>
    intro i n S hs hff hn hi hwi hk
    have hd : (lists S.W k).drop i = [] := List.drop_eq_nil_of_le (by omega)
    rw [hd, List.append_nil] at hwi
    unfold SS.fellGo
    have e1 : lists ({ S.W with lists := S.W.lists.set k ((S.W.lists.getD k []).take n) } : WS) = lv S.W k ((lists S.W k).take n) := by
      funext j
      unfold lv lists
      by_cases e : j = k
      · subst e
        rw [if_pos rfl]
        simp only [List.getD_eq_getElem?_getD, List.getElem?_set, if_true]
        split
        · rfl
        · rename_i hn2; rw [List.getElem?_eq_none (by omega)]; simp
      · rw [if_neg e]
        simp only [List.getD_eq_getElem?_getD, List.getElem?_set, if_neg (show ¬ k = j from fun h => e h.symm)]
    refine ⟨rfl, rfl, ?_, fun _ => ?_, (by intro r h; cases h)⟩
    · rw [e1]; exact hwi
    · rw [e1]; intro e he; unfold lv at he; rw [if_pos hat.symm] at he; exact hk e he
  | succ c ih =>
    intro i n S hs hff hn hi hwi hk
    have hil : i < (lists S.W k).length := by omega
    have hvo := visit_ok hs (k := k) (i := i) hil hat hf0 hff
    have hv := visit_wi hs (n := n) hil rfl hn hwi hat hf0 hff
    unfold SS.fellGo
    cases hr : S.visit k i f with
    | mk S1 o =>
      rw [hr] at hv hvo
      obtain ⟨e', h1, h2, h3, h4, h5, h6, h7⟩ := hv
      simp only at hvo h2 h3 h4 h5 h6 h7
      have hff1 : S1.T.value f < 0 := by rw [hvo.step.puts.val (by omega)]; exact hff
      have hkk : ∀ e ∈ (lists S.W k).take n, S1.A.has e.ref = true → Sat S1.A S1.T e.ref := fun e he hh => (hk e he (by rw [← hvo.step.has]; exact hh)).step hvo.step
      have t1 : (lists S1.W k).take n = (lists S.W k).take n := by rw [h2, List.take_set_of_le hn]
      have d1 : (lists S1.W k).drop (i + 1) = (lists S.W k).drop (i + 1) := by rw [h2, List.drop_set_of_lt (by omega)]
      have l1 : (lists S1.W k).length = (lists S.W k).length := by rw [h2, List.length_set]
      have g1 : (lists S1.W k).drop i = e' :: (lists S.W k).drop (i + 1) := by
        rw [List.drop_eq_getElem_cons (by omega), d1]
        congr 1
        simp only [h2, List.getElem_set_self]
      cases o with
      | stays =>
        simp only
        obtain ⟨h5a, h5b⟩ := h5 rfl
        have hwx : wx S1.W k i = e' := by
          unfold SS.wx
          show (lists S1.W k).getD i default = e'
          rw [h2, List.getD_eq_getElem?_getD, List.getElem?_set, if_pos rfl, if_pos hil]; rfl
        rw [hwx]
        have hL2 : lists (setW S1.W k n e') k = (lists S1.W k).set n e' := lists_setW _ _ _ _ (by omega)
        have st : Step S1 { S1 with W := setW S1.W k n e' } := Step.watch S1 (by simp [SS.setW])
        have sf : Safe { S1 with W := setW S1.W k n e' } := hvo.safe.same st fun j x hx => by
          rcases mem_setW hx with rfl | hx
          · refine ⟨k, ?_⟩
            rw [← hwx]; exact wx_mem (by show i < (lists S1.W k).length; omega)
          · exact ⟨j, hx⟩
        have t2 : ((lists S1.W k).set n e').take (n + 1) = (lists S.W k).take n ++ [e'] := by
          rw [List.take_succ_eq_append_getElem (by rw [List.length_set]; omega), List.take_set_of_le (Nat.le_refl _), t1, List.getElem_set_self]
        have d2 : ((lists S1.W k).set n e').drop (i + 1) = (lists S.W k).drop (i + 1) := by
          rw [List.drop_set_of_lt (by omega), d1]
        have r := ih (i + 1) (n + 1) { S1 with W := setW S1.W k n e' } sf hff1 (by omega) (by rw [hL2, List.length_set]; omega) ?_ ?_
        · have e3 : ({ S1 with W := setW S1.W k n e' } : SS).W.pend = S.W.pend := h3
          have e4 : ({ S1 with W := setW S1.W k n e' } : SS).W.head = S.W.head := h4
          have r1 := r.pend
          have r2 := r.head
          have r3 := r.wi
          rw [e3] at r1 r3
          rw [e4] at r2 r3
          exact ⟨r1, r2, r3, r.no, r.yes⟩
        · rw [hL2, t2, d2]
          have e3 : ({ S1 with W := setW S1.W k n e' } : SS).W.pend = S.W.pend := h3
          have e4 : ({ S1 with W := setW S1.W k n e' } : SS).W.head = S.W.head := h4
          rw [e3, e4]
          refine h5a.congr fun j => ?_
          show lv (setW S1.W k n e') k _ j = _
          unfold lv
          by_cases e : j = k
          · rw [if_pos e, if_pos e, List.append_assoc]; rfl
          · rw [if_neg e, if_neg e]; exact lists_setW_ne _ _ _ _ e
        · rw [hL2, t2]
          intro e he hh
          rcases List.mem_append.1 he with he | he
          · exact hkk e he hh
          · simp only [List.mem_singleton] at he
            subst he
            rw [h1]; rw [h1] at hh
            exact h5b hh
      | goes =>
        simp only
        have r := ih (i + 1) n S1 hvo.safe hff1 (by omega) (by omega) (by rw [t1, d1, h3, h4]; exact h6 rfl) (by rw [t1]; exact hkk)
        have r1 := r.pend
        have r2 := r.head
        have r3 := r.wi
        rw [h3] at r1 r3
        rw [h4] at r2 r3
        exact ⟨r1, r2, r3, r.no, r.yes⟩
      | clashes =>
        simp only
        obtain ⟨h7a, h7b⟩ := h7 rfl
        have e1 : lists ({ S1.W with lists := S1.W.lists.set k ((S1.W.lists.getD k []).take n ++ (S1.W.lists.getD k []).drop i) } : WS) = lv S1.W k ((lists S.W k).take n ++ e' :: (lists S.W k).drop (i + 1)) := by
          funext j
          unfold lv
          by_cases e : j = k
          · subst e
            rw [if_pos rfl]
            have hkl : j < S1.W.lists.length := by
              rcases Nat.lt_or_ge j S1.W.lists.length with h | h
              · exact h
              · exfalso
                have : (lists S1.W j).length = 0 := by unfold lists; rw [List.getD_eq_getElem?_getD, List.getElem?_eq_none h]; rfl
                omega
            rw [← t1, ← g1]
            unfold lists
            simp only [List.getD_eq_getElem?_getD, List.getElem?_set, if_true, if_pos hkl, Option.getD_some]
          · rw [if_neg e]
            unfold lists
            simp only [List.getD_eq_getElem?_getD, List.getElem?_set, if_neg (show ¬ k = j from fun h => e h.symm)]
        have hwx : (wx S1.W k i).ref = ((lists S.W k).getD i default).ref := by
          rw [← h1]
          unfold SS.wx
          show ((lists S1.W k).getD i default).ref = e'.ref
          rw [h2, List.getD_eq_getElem?_getD, List.getElem?_set, if_pos rfl, if_pos hil]; rfl
        refine ⟨h3, h4, by rw [e1]; exact h7a, (by intro h; cases h), ?_⟩
        intro r hr2
        have : r = (wx S1.W k i).ref := (Option.some.inj hr2).symm
        rw [this, hwx]
        exact h7b

theorem fell_wi {S : SS} (hs : Safe S) {f : Int} (hf0 : f ≠ 0) (hff : S.T.value f < 0) (hwi : WI S.A S.T (lists S.W) S.W.pend S.W.head) : FellWI S f (S.fell f) := by
  refine fellGo_wi (ix f) f rfl hf0 (S.W.lists.getD (ix f) []).length 0 0 S hs hff (Nat.le_refl _) (by show 0 + _ = (S.W.lists.getD (ix f) []).length; omega) ?_ (by simp)
  rw [List.take_zero, List.nil_append, List.drop_zero, lv_self]; exact hwi

/-! the pending clauses -/
theorem scan_none (val : Int → Int) : ∀ (L : List Int) (f : Int), L.Nodup → scan val L f = none → (∃ z ∈ L, 0 < val z) ∨ (f ≠ 0 ∧ ∃ z ∈ L, val z = 0) ∨ ∃ y ∈ L, ∃ z ∈ L, y ≠ z ∧ val y = 0 ∧ val z = 0 := by
  intro L
  induction L with
  | nil => intro f _ h; cases h
  | cons l L ih =>
    intro f hn h
    rw [List.nodup_cons] at hn
    unfold SS.scan at h
    split at h
    · rename_i hc
      rcases hc with hc | ⟨h1, h2⟩
      · exact .inl ⟨l, by simp, hc⟩
      · exact .inr (.inl ⟨h2, l, by simp, h1⟩)
    · rename_i hc
      rcases ih _ hn.2 h with ⟨z, hz, h1⟩ | ⟨h1, z, hz, h2⟩ | ⟨y, hy, z, hz, h1⟩
      · exact .inl ⟨z, by simp [hz], h1⟩
      · split at h1
        · rename_i h0
          exact .inr (.inr ⟨l, by simp, z, by simp [hz], fun e => hn.1 (e ▸ hz), h0, h2⟩)
        · exact .inr (.inl ⟨h1, z, by simp [hz], h2⟩)
      · exact .inr (.inr ⟨y, by simp [hy], z, by simp [hz], h1⟩)

theorem scan_some (val : Int → Int) : ∀ (L : List Int) (f g : Int), (∀ l ∈ L, l ≠ 0) → scan val L f = some g →
    (g = f ∧ ∀ l ∈ L, val l < 0) ∨ (f = 0 ∧ g ∈ L ∧ val g = 0 ∧ ∀ l ∈ L, l ≠ g → val l < 0) := by
  intro L
  induction L with
  | nil => intro f g _ h; exact .inl ⟨(Option.some.inj h).symm, by simp⟩
  | cons l L ih =>
    intro f g h0 h
    unfold SS.scan at h
    split at h
    · cases h
    · rename_i hc
      have hl0 := h0 l (by simp)
      have hL0 : ∀ l ∈ L, l ≠ 0 := fun l hl => h0 l (by simp [hl])
      by_cases hv : val l = 0
      · rw [if_pos hv] at h
        have hf : f = 0 := by
          by_cases e : f = 0
          · exact e
          · exact absurd (.inr ⟨hv, e⟩) hc
        rcases ih l g hL0 h with ⟨h1, h2⟩ | ⟨h1, _⟩
        · subst h1
          refine .inr ⟨hf, by simp, hv, ?_⟩
          intro y hy hne
          rcases List.mem_cons.1 hy with rfl | hy
          · exact absurd rfl hne
          · exact h2 y hy
        · exact absurd h1 hl0
      · rw [if_neg hv] at h
        have hneg : val l < 0 := by
          rcases Int.lt_trichotomy (val l) 0 with h1 | h1 | h1
          · exact h1
          · exact absurd h1 hv
          · exact absurd (.inl h1) hc
        rcases ih f g hL0 h with ⟨h1, h2⟩ | ⟨h1, h2, h3, h4⟩
        · exact .inl ⟨h1, fun y hy => by rcases List.mem_cons.1 hy with rfl | hy; exact hneg; exact h2 y hy⟩
        · exact .inr ⟨h1, by simp [h2], h3, fun y hy hne => by rcases List.mem_cons.1 hy with rfl | hy; exact hneg; exact h4 y hy hne⟩

/-- A clause is pending no more: it holds, or two of its literals are free. -/
theorem WI.pop {A : AS} {T : TS} {lf : Nat → List Wx} {r : Int} {P : List Int} {head : Nat} (h : WI A T lf (r :: P) head)
    (hr : A.has r = true → (∃ z ∈ A.lits r, 0 < T.value z) ∨ ∃ y ∈ A.lits r, ∃ z ∈ A.lits r, y ≠ z ∧ T.value y = 0 ∧ T.value z = 0) : WI A T lf P head := by
  refine ⟨h.nd, h.ok, h.ev, h.un, h.lo, h.wt, ?_, fun q hq hp => h.pn q hq (List.mem_cons_of_mem _ hp), ?_, fun q hq hp => h.ps q hq (List.mem_cons_of_mem _ hp), h.lt, h.hd, h.wf, h.rs⟩
  · intro q hq hp h2 m hm hv hpl
    by_cases e : q = r
    · subst e
      obtain ⟨h3, h4⟩ := h.pn q hq (List.mem_cons_self ..) h2 m hm hv hpl
      rcases hr hq with ⟨z, hz, h5⟩ | ⟨y, hy, z, hz, hne, h5, h6⟩
      · exact ⟨z, hz, h5, by rw [h3]; exact TS.levelOf_le h.wf z⟩
      · exact absurd (h4 y hy z hz (by omega) (by omega)) hne
    · exact h.dn q hq (fun hm => by rcases List.mem_cons.1 hm with e2 | e2; exact e e2; exact hp e2) h2 m hm hv hpl
  · intro q hq hp h2
    by_cases e : q = r
    · subst e
      have h3 := h.ps q hq (List.mem_cons_self ..) h2
      rcases hr hq with ⟨z, hz, h5⟩ | ⟨y, hy, z, hz, hne, h5, h6⟩
      · refine ⟨z, hz, h5, ?_⟩
        have h6 := TS.levelOf_le h.wf z
        have h7 := TS.level_nonneg h.wf (x := z) (by omega)
        rw [h3] at h6; simp at h6; omega
      · exfalso
        unfold AS.len at h2
        have : (A.lits q).length ≤ 1 := by omega
        match hL : A.lits q, this with
        | [], _ => rw [hL] at hy; simp at hy
        | [a], _ => rw [hL] at hy hz; simp at hy hz; exact hne (hy.trans hz.symm)
    · exact h.sh q hq (fun hm => by rcases List.mem_cons.1 hm with e2 | e2; exact e e2; exact hp e2) h2

structure PendWI (S : SS) (R : SS × Option Int) : Prop where
  head : R.1.W.head = S.W.head
  lst : R.1.W.lists = S.W.lists
  no : R.2 = none → R.1.W.pend = [] ∧ WI R.1.A R.1.T (lists R.1.W) [] S.W.head
  yes : ∀ r, R.2 = some r → Hit R.1 r ∧ WI R.1.A R.1.T (lists R.1.W) R.1.W.pend S.W.head

theorem pendGo_wi : ∀ (P : List Int) (S : SS), Safe S → WI S.A S.T (lists S.W) P S.W.head → PendWI S (pendGo P S) := by
  intro P
  induction P with
  | nil => intro S hs h; exact ⟨rfl, rfl, fun _ => ⟨rfl, h⟩, (by intro r h; cases h)⟩
  | cons r P ih =>
    intro S hs h
    unfold SS.pendGo
    simp only
    have hs1 : Safe { S with W := { S.W with pend := r :: P, visits := w64 (S.W.visits + 1) } } := ⟨hs.lists, hs.lits, hs.wok⟩
    generalize hS1 : ({ S with W := { S.W with pend := r :: P, visits := w64 (S.W.visits + 1) } } : SS) = S1 at *
    have eA : S1.A = S.A := by rw [← hS1]
    have eT : S1.T = S.T := by rw [← hS1]
    have eL : S1.W.lists = S.W.lists := by rw [← hS1]
    have eH : S1.W.head = S.W.head := by rw [← hS1]
    have eP : S1.W.pend = r :: P := by rw [← hS1]
    have eLs : lists S1.W = lists S.W := by unfold lists; rw [eL]
    have h1 : WI S1.A S1.T (lists S1.W) (r :: P) S1.W.head := by
      rw [eA, eT, eH, eLs]; exact h
    have back : ∀ R, PendWI S1 R → PendWI S R := by
      intro R hR
      refine ⟨hR.head.trans eH, hR.lst.trans eL, fun hn => ?_, fun q hq => ?_⟩
      · rw [← eH]; exact hR.no hn
      · rw [← eH]; exact hR.yes q hq
    split
    · rename_i hh
      rw [← eA] at hh
      have hl0 : ∀ l ∈ S1.A.lits r, l ≠ 0 := fun l hl => h1.nz hl
      unfold SS.look
      split
      · rename_i S2 heq
        split at heq
        · cases heq
        · rename_i g hg
          split at heq
          · rename_i g0
            subst g0
            have e2 : S1 = S2 := (Prod.mk.inj heq).1
            subst e2
            refine back _ ⟨rfl, rfl, (by intro h; cases h), ?_⟩
            intro q hq
            have : q = r := (Option.some.inj hq).symm
            subst this
            refine ⟨⟨hh, ?_⟩, by rw [eP]; exact h1⟩
            rcases scan_some _ _ _ _ hl0 hg with ⟨_, h3⟩ | ⟨_, h3, _⟩
            · exact h3
            · exact absurd rfl (hl0 0 h3)
          · rename_i g0
            exfalso
            rcases scan_some _ _ _ _ hl0 hg with ⟨h3, _⟩ | ⟨_, h3, h4, _⟩
            · exact g0 h3
            · have := TS.free_of' (h1.ok r g h3) h4
              rw [this] at heq
              cases (Prod.mk.inj heq).2
      · rename_i S2 heq
        split at heq
        · rename_i hg
          have e2 : S1 = S2 := (Prod.mk.inj heq).1
          subst e2
          refine back _ (ih S1 hs1 (h1.pop fun _ => ?_))
          rcases scan_none _ _ _ (h1.nd r) hg with h3 | ⟨h3, _⟩ | h3
          · exact .inl h3
          · exact absurd rfl h3
          · exact .inr h3
        · rename_i g hg
          split at heq
          · cases (Prod.mk.inj heq).2
          · rename_i g0
            rcases scan_some _ _ _ _ hl0 hg with ⟨h3, _⟩ | ⟨_, h3, h4, h5⟩
            · exact absurd h3 g0
            · have hf := TS.free_of' (h1.ok r g h3) h4
              have e2 := (Prod.mk.inj heq).1
              have e3 : S1.put g r = { S1 with T := S1.T.put g r } := by unfold SS.put; rw [if_pos hf]
              have hs2 : Safe (S1.put g r) := by
                refine hs1.same (Step.put S1 g r) fun j x hx => ⟨j, ?_⟩
                rw [e3] at hx; exact hx
              rw [e3] at e2 hs2
              subst e2
              have h6 : WI S1.A (S1.T.put g r) (lists S1.W) (r :: P) S1.W.head := h1.put hf hh h3 h5
              have h7 := h6.pop (fun _ => .inl ⟨g, h3, by rw [TS.put_value_iff hf, if_pos rfl]; omega⟩)
              have := ih { S1 with T := S1.T.put g r } hs2 h7
              refine back _ ⟨this.head, this.lst, this.no, this.yes⟩
    · rename_i hh
      refine back _ (ih S1 hs1 (h1.pop fun h3 => ?_))
      rw [eA] at h3; exact absurd h3 hh

structure HeadWI (S : SS) (R : SS × Option Int) : Prop where
  no : R.2 = none → R.1.W.pend = [] ∧ R.1.W.head = R.1.T.l.length ∧ WI R.1.A R.1.T (lists R.1.W) [] R.1.T.l.length
  yes : ∀ r, R.2 = some r → Hit R.1 r ∧ R.1.W.pend = [] ∧ WI R.1.A R.1.T (lists R.1.W) [] R.1.W.head

theorem headGo_wi : ∀ (k : Nat) (S : SS), Safe S → S.W.pend = [] → WI S.A S.T (lists S.W) [] S.W.head → S.T.vars.length + 1 ≤ S.W.head + k → HeadWI S (headGo k S) := by
  intro k
  induction k with
  | zero =>
    intro S hs hp h hk
    exfalso
    have := h.hd
    have := h.wf.len
    omega
  | succ k ih =>
    intro S hs hp h hk
    unfold SS.headGo
    split
    · rename_i hl
      obtain ⟨h1, h2, h3⟩ := at_false h.wf hl
      have hat : S.T.l[S.W.head]? = some (S.T.at_ S.W.head) := by
        unfold TS.at_; rw [if_pos (by omega)]
        rw [List.getD_eq_getElem?_getD]; simp [hl]
      have hf := fell_ok hs (f := -(S.T.at_ S.W.head)) (by omega) h2
      have hw := fell_wi hs (f := -(S.T.at_ S.W.head)) (by omega) h2 (by rw [hp]; exact h)
      have hhd := fell_head S (-(S.T.at_ S.W.head))
      split
      · rename_i S1 r heq
        rw [heq] at hf hw
        refine ⟨(by intro h; cases h), fun q hq => ?_⟩
        have := Option.some.inj hq
        subst this
        have hw1 := hw.wi
        rw [hp, ← hw.head] at hw1
        exact ⟨hw.yes r rfl, hw.pend.trans hp, hw1⟩
      · rename_i S1 heq
        rw [heq] at hf hw
        have hw1 := hw.wi
        rw [hp, ← hw.head] at hw1
        have h6 : S1.T.l[S1.W.head]? = some (-(-(S.T.at_ S.W.head))) := by
          rw [Int.neg_neg]
          obtain ⟨s, hs2⟩ := hf.step.puts.l
          have := hw.head
          simp only at this hs2
          rw [this, hs2, List.getElem?_append_left hl]; exact hat
        have h7 := hw1.next h6 (hw.no rfl)
        have h8 := ih { S1 with W := { S1.W with head := S1.W.head + 1 } } ⟨hf.safe.lists, hf.safe.lits, hf.safe.wok⟩ (hw.pend.trans hp) h7 (by
          have := hf.step.puts.vars
          have := hw.head
          simp only at *
          omega)
        exact ⟨h8.no, h8.yes⟩
    · rename_i hl
      have := h.hd
      have e : S.W.head = S.T.l.length := by omega
      refine ⟨fun _ => ⟨hp, e, by rw [← e]; exact h⟩, (by intro r h; cases h)⟩

/-- What a propagation says. -/
structure PropWI (S : SS) (R : SS × Option Int) : Prop where
  ok : FellOk S R.1 0
  no : R.2 = none → R.1.W.pend = [] ∧ R.1.W.head = R.1.T.l.length ∧ WI R.1.A R.1.T (lists R.1.W) [] R.1.T.l.length
  yes : ∀ r, R.2 = some r → Hit R.1 r ∧ WI R.1.A R.1.T (lists R.1.W) R.1.W.pend R.1.W.head ∧ (S.W.pend = [] → R.1.W.pend = [])

theorem propagate_wi {S : SS} (hs : Safe S) (h : WI S.A S.T (lists S.W) S.W.pend S.W.head) : PropWI S S.propagate := by
  have hok := propagate_ok h.wf hs
  have hpk := pendGo_ok S.W.pend S hs
  have hpw := pendGo_wi S.W.pend S hs h
  unfold SS.propagate at hok ⊢
  split
  · rename_i S1 r heq
    rw [heq] at hok hpw hpk
    refine ⟨hok, (by intro h; cases h), fun q hq => ?_⟩
    have := Option.some.inj hq
    subst this
    obtain ⟨h1, h2⟩ := hpw.yes r rfl
    rw [← hpw.head] at h2
    refine ⟨h1, h2, fun h3 => ?_⟩
    rw [h3] at heq
    cases (Prod.mk.inj heq).2
  · rename_i S1 heq
    rw [heq] at hok hpw hpk
    obtain ⟨h1, h2⟩ := hpw.no rfl
    rw [← hpw.head] at h2
    have h3 := headGo_wi (S1.T.vars.length + 1) S1 hpk.safe h1 h2 (by omega)
    exact ⟨hok, h3.no, fun q hq => ⟨(h3.yes q hq).1, by rw [(h3.yes q hq).2.1]; exact (h3.yes q hq).2.2, fun _ => (h3.yes q hq).2.1⟩⟩

/-- Nothing clashes: the trail has just what follows. -/
theorem PropWI.follows {S : SS} {R : SS × Option Int} (h : PropWI S R) (_hw : S.T.WF) (hst : ∀ s ∈ S.T.st, s < (S.T.l.length : Int)) (hn : R.2 = none) :
    (∀ x, x ∈ R.1.T.l ↔ Der S.A.cl S.T.l x) ∧ ¬ Clash S.A.cl S.T.l := by
  obtain ⟨_, _, h3⟩ := h.no hn
  have hwf := h3.wf
  have hst2 := h.ok.step
  obtain ⟨s, hs⟩ := hst2.puts.l
  have hcl : ∀ c, R.1.A.cl c → ∃ d, S.A.cl d ∧ ∀ x, x ∈ d ↔ x ∈ c := by
    rintro c ⟨r, hr, rfl⟩
    exact ⟨S.A.lits r, ⟨r, by rw [← hst2.has]; exact hr, rfl⟩, fun x => ((hst2.perm r).mem_iff).symm⟩
  have hcl2 : ∀ c, S.A.cl c → ∃ d, R.1.A.cl d ∧ ∀ x, x ∈ d ↔ x ∈ c := by
    rintro c ⟨r, hr, rfl⟩
    exact ⟨R.1.A.lits r, ⟨r, by rw [hst2.has]; exact hr, rfl⟩, fun x => (hst2.perm r).mem_iff⟩
  have hc := h3.closed
  have hnb : ∀ x ∈ R.1.T.l, -x ∉ R.1.T.l := fun x hx => TS.not_both hwf hx
  refine ⟨fun x => ⟨fun hx => ?_, fun hx => ?_⟩, fun hx => ?_⟩
  · obtain ⟨i, hi, rfl⟩ := List.mem_iff_getElem.1 hx
    have := h3.rs.der S.T.l.length (by rw [hst2.puts.st]; exact hst) i _ (List.getElem?_eq_getElem hi)
    have ht : R.1.T.l.take S.T.l.length = S.T.l := by rw [hs, List.take_left]
    rw [ht] at this
    exact (this.mono hcl fun y hy => .given hy)
  · exact hc.der hnb (k := R.1.T.l) (fun y hy => hy) (hx.mono hcl2 fun y hy => .given (by rw [hs]; exact List.mem_append_left _ hy))
  · exact hc.noClash hnb (k := R.1.T.l) (fun y hy => hy) (hx.mono hcl2 fun y hy => .given (by rw [hs]; exact List.mem_append_left _ hy))

/-- It clashes: so do what was there, and the clauses. -/
theorem PropWI.clashes {S : SS} {R : SS × Option Int} (h : PropWI S R) (hst : ∀ s ∈ S.T.st, s < (S.T.l.length : Int)) {r : Int} (hn : R.2 = some r) : Clash S.A.cl S.T.l := by
  obtain ⟨⟨h1, h2⟩, h3, _⟩ := h.yes r hn
  have hst2 := h.ok.step
  obtain ⟨s, hs⟩ := hst2.puts.l
  have hcl : ∀ c, R.1.A.cl c → ∃ d, S.A.cl d ∧ ∀ x, x ∈ d ↔ x ∈ c := by
    rintro c ⟨r, hr, rfl⟩
    exact ⟨S.A.lits r, ⟨r, by rw [← hst2.has]; exact hr, rfl⟩, fun x => ((hst2.perm r).mem_iff).symm⟩
  refine Clash.mono hcl (k := S.T.l) (fun y hy => .given hy) (.inr ⟨R.1.A.lits r, ⟨r, h1, rfl⟩, fun y hy => ?_⟩)
  have hm := (TS.neg_iff h3.wf).1 (h2 y hy)
  obtain ⟨i, hi, e⟩ := List.mem_iff_getElem.1 hm
  have := h3.rs.der S.T.l.length (by rw [hst2.puts.st]; exact hst) i _ (List.getElem?_eq_getElem hi)
  have ht : R.1.T.l.take S.T.l.length = S.T.l := by rw [hs, List.take_left]
  rw [ht, e] at this
  exact this
end Go.Proofs.Ytpjiemffkkfbkaa

/- A propagator begun: clauses are added and attached while nothing is on the trail; decisions. -/
namespace Go.Proofs.Ytpjiemffkkfbkaa
open SS

theorem value_nil {T : TS} (hw : T.WF) (h : T.l = []) (x : Int) : T.value x = 0 := by
  rcases Int.lt_trichotomy (T.value x) 0 with h1 | h1 | h1
  · have := (TS.neg_iff hw).1 h1; rw [h] at this; simp at this
  · exact h1
  · have := (TS.pos_iff hw).1 h1; rw [h] at this; simp at this

theorem wi_new (n : Nat) (h : n ≤ 100000) : WI (AS.new 0) (TS.empty n) (lists (⟨List.replicate (2 * n) [], [], 0, 0⟩ : WS)) [] 0 := by
  have hl : ∀ j, lists (⟨List.replicate (2 * n) [], [], 0, 0⟩ : WS) j = [] := by
    intro j; unfold lists; rw [List.getD_eq_getElem?_getD, List.getElem?_replicate]; split <;> rfl
  have hh : ∀ r, (AS.new 0).has r = false := fun r => rfl
  have hlit : ∀ r, (AS.new 0).lits r = [] := fun r => rfl
  refine ⟨fun r => by rw [hlit]; exact List.nodup_nil, fun r l hl2 => by rw [hlit] at hl2; simp at hl2, fun j e he => by rw [hl] at he; simp at he, fun j => by rw [hl]; exact List.nodup_nil, fun j e he => by rw [hl] at he; simp at he,
    fun r hr => (by rw [hh] at hr; cases hr), fun r hr => (by rw [hh] at hr; cases hr), fun r hr => (by rw [hh] at hr; cases hr), fun r hr => (by rw [hh] at hr; cases hr), fun r hr => (by rw [hh] at hr; cases hr), fun i x hx => by simp [TS.empty] at hx, Nat.zero_le _, TS.WF.empty h, fun i x hx => by simp [TS.empty] at hx⟩

theorem safe_new (n : Nat) : Safe (SS.new n) := by
  refine ⟨by simp [SS.new, TS.empty], fun r l hl => ?_, fun j x hx => ?_⟩
  · have : (AS.new 0).lits r = [] := rfl
    have hl' : l ∈ (AS.new 0).lits r := hl
    rw [this] at hl'; simp at hl'
  · have hx' : x ∈ (List.replicate (2 * n) ([] : List Wx)).getD j [] := hx
    rw [List.getD_eq_getElem?_getD, List.getElem?_replicate] at hx'
    split at hx' <;> simp at hx'

/-- A system with a clause more, attached. -/
def SS.plus (S : SS) (c : List Int) : SS := ({ S with A := S.A.add c false 0 } : SS).attach S.A.words.length

theorem has_plus (A : AS) (c : List Int) (b : Bool) (g : Int) : (A.add c b g).has A.words.length = true := by rw [AS.has_add]; simp
theorem lits_plus (A : AS) (c : List Int) (b : Bool) (g : Int) : (A.add c b g).lits A.words.length = c := by rw [AS.lits_add, if_pos rfl]
theorem not_has (A : AS) : A.has A.words.length = false := by
  cases h : A.has A.words.length with
  | false => rfl
  | true => have := WI.low A h; omega

/-- The clause as it stands at last. -/
structure Plus (S S' : SS) (c : List Int) : Prop where
  T : S'.T = S.T
  has : ∀ q, S'.A.has q = (decide (q = S.A.words.length) || S.A.has q)
  own : (S'.A.lits S.A.words.length).Perm c
  oth : ∀ q : Int, q ≠ S.A.words.length → S'.A.lits q = S.A.lits q
  words : S'.A.words.length = S.A.words.length + 3 + c.length
  lim : S'.A.limit = S.A.limit
  llen : S'.W.lists.length = S.W.lists.length
  pend : S'.W.pend = S.W.pend ++ [(S.A.words.length : Int)]
  head : S'.W.head = S.W.head
  vis : S'.W.visits = S.W.visits
  refs : liveRefs 0 S'.A.cs = liveRefs 0 S.A.cs ++ [(S.A.words.length : Int)]
  short : c.length < 2 → S'.W.lists = S.W.lists
  long : 2 ≤ c.length → ∃ x y, (S'.A.lits S.A.words.length).getD 0 0 = x ∧ (S'.A.lits S.A.words.length).getD 1 0 = y ∧
    S'.W.lists = (addW (addW S.W x ⟨S.A.words.length, y, decide (c.length = 2)⟩) y ⟨S.A.words.length, x, decide (c.length = 2)⟩).lists

theorem len2_beq (n : Nat) : ((n : Int) == 2) = decide (n = 2) := by
  rw [Bool.eq_iff_iff]; simp; omega

theorem refs_add (A : AS) (c : List Int) : liveRefs 0 (A.add c false 0).cs = liveRefs 0 A.cs ++ [(A.words.length : Int)] := by
  unfold AS.add AS.words
  simp only
  rw [liveRefs_append _ _ _ rfl]
  simp

theorem plus_spec (S : SS) (c : List Int) : Plus S (S.plus c) c := by
  have hlits : ∀ q, (S.A.add c false 0).lits q = if q = S.A.words.length then c else S.A.lits q := fun q => AS.lits_add ..
  have hhas : ∀ q, (S.A.add c false 0).has q = (decide (q = S.A.words.length) || S.A.has q) := fun q => AS.has_add ..
  have hw : (S.A.add c false 0).words.length = S.A.words.length + 3 + c.length := by
    rw [AS.words_add, List.length_append, Cz.words_length]; simp [Cz.size]; omega
  have hlen : (S.A.add c false 0).len S.A.words.length = c.length := by unfold AS.len; rw [lits_plus]
  unfold SS.plus SS.attach
  simp only
  split
  · rename_i h2
    have h2' : 2 ≤ c.length := by rw [← hlen]; exact h2
    generalize hr : (S.A.words.length : Int) = r at *
    have b0 : best S.T ((S.A.add c false 0).lits r) 0 < (S.A.add c false 0).len r := best_lt _ _ _ (by unfold AS.len at h2; omega)
    generalize hb0 : best S.T ((S.A.add c false 0).lits r) 0 = k0 at *
    have hl1 : ((S.A.add c false 0).swap r 0 k0).len r = (S.A.add c false 0).len r := len_swap ..
    have b1 : best S.T (((S.A.add c false 0).swap r 0 k0).lits r) 1 < ((S.A.add c false 0).swap r 0 k0).len r := best_lt _ _ _ (by unfold AS.len at *; omega)
    generalize hb1 : best S.T (((S.A.add c false 0).swap r 0 k0).lits r) 1 = k1 at *
    have hp0 : ((((S.A.add c false 0).swap r 0 k0).swap r 1 k1).lits r).Perm c := by
      refine ((WI.lits_perm _ (by omega) b1 r).trans (WI.lits_perm _ (by omega) b0 r)).trans ?_
      rw [hlits, if_pos rfl]
    have hne : ∀ q, q ≠ r → (((S.A.add c false 0).swap r 0 k0).swap r 1 k1).lits q = S.A.lits q := by
      intro q hq
      rw [WI.lits_other _ _ _ hq, WI.lits_other _ _ _ hq, hlits, if_neg hq]
    unfold SS.attach2 SS.bring
    simp only [hb0, hb1]
    refine ⟨rfl, fun q => by rw [AS.has_swap, AS.has_swap, hhas, hr], ?_, ?_, by rw [WI.words_swap, WI.words_swap]; exact hw, rfl, by simp [SS.addW], by rw [hr]; rfl, rfl, rfl, ?_, fun h => by omega, fun _ => ⟨_, _, rfl, rfl, ?_⟩⟩
    · rw [hr]; exact hp0
    · rw [hr]; exact hne
    · have e1 : ∀ (A : AS) (r : Int) (i k : Nat), liveRefs 0 (A.swap r i k).cs = liveRefs 0 A.cs := fun A r i k => liveRefs_upd (fun c => { c with lits := AS.swapL c.lits i k }) (fun c => by simp [Cz.size, AS.swapL_length]) (fun _ => rfl) _ _ _
      rw [e1, e1, hr, ← hr, refs_add]
    · have f0 := AS.lit_getD (((S.A.add c false 0).swap r 0 k0).swap r 1 k1) r 0
      have f1 := AS.lit_getD (((S.A.add c false 0).swap r 0 k0).swap r 1 k1) r 1
      have g0 : (((S.A.add c false 0).swap r 0 k0).swap r 1 k1).lit r 0 = ((((S.A.add c false 0).swap r 0 k0).swap r 1 k1).lits r).getD 0 0 := f0
      have g1 : (((S.A.add c false 0).swap r 0 k0).swap r 1 k1).lit r 1 = ((((S.A.add c false 0).swap r 0 k0).swap r 1 k1).lits r).getD 1 0 := f1
      rw [g0, g1, hlen, len2_beq, hr]
      rfl
  · rename_i h2
    have h2' : ¬ 2 ≤ c.length := by rw [← hlen]; exact h2
    refine ⟨rfl, hhas, ?_, fun q hq => ?_, hw, rfl, rfl, rfl, rfl, rfl, refs_add _ _, fun _ => rfl, fun h => absurd h h2'⟩
    · show ((S.A.add c false 0).lits _).Perm c
      rw [lits_plus]
    · show (S.A.add c false 0).lits q = _
      rw [hlits, if_neg hq]

theorem plus_wi {S : SS} (h : WI S.A S.T (lists S.W) S.W.pend S.W.head) (hs : Safe S) (hl : S.T.l = []) {c : List Int} (hn : c.Nodup) (hc : ∀ l ∈ c, S.T.ok l = true) :
    WI (S.plus c).A (S.plus c).T (lists (S.plus c).W) (S.plus c).W.pend (S.plus c).W.head ∧ Safe (S.plus c) := by
  have P := plus_spec S c
  generalize S.plus c = S' at *
  have hv : ∀ x, S.T.value x = 0 := value_nil h.wf hl
  have hst : S.T.st = [] := by
    have := h.wf.lev; rw [hl] at this; simpa using this
  have hlen : S'.A.len S.A.words.length = c.length := P.own.length_eq
  have hmem : ∀ x, x ∈ S'.A.lits S.A.words.length ↔ x ∈ c := fun x => P.own.mem_iff
  have hnd : ∀ q, (S'.A.lits q).Nodup := by
    intro q
    by_cases e : q = S.A.words.length
    · rw [e]; exact P.own.nodup_iff.2 hn
    · rw [P.oth q e]; exact h.nd q
  have hok : ∀ q, ∀ l ∈ S'.A.lits q, S.T.ok l = true := by
    intro q l hl2
    by_cases e : q = S.A.words.length
    · rw [e, hmem] at hl2; exact hc l hl2
    · rw [P.oth q e] at hl2; exact h.ok q l hl2
  -- the lists
  have hfrom : ∀ j, ∀ e ∈ lists S'.W j, e ∈ lists S.W j ∨ (2 ≤ c.length ∧ e.ref = S.A.words.length ∧ EV S'.A j e) := by
    intro j e he
    by_cases h2 : 2 ≤ c.length
    · obtain ⟨x, y, hx, hy, hW⟩ := P.long h2
      have l0 : 0 < (S'.A.lits S.A.words.length).length := by have := P.own.length_eq; omega
      have l1 : 1 < (S'.A.lits S.A.words.length).length := by have := P.own.length_eq; omega
      have hne : ix x ≠ ix y := by
        intro e2
        have mx : x ∈ S'.A.lits S.A.words.length := by rw [← hx]; exact getD_mem l0
        have my : y ∈ S'.A.lits S.A.words.length := by rw [← hy]; exact getD_mem l1
        have e3 := ix_inj' (TS.ok_ne (hok _ _ mx)) (TS.ok_ne (hok _ _ my)) e2
        rw [← hx, ← hy] at e3
        have := getD_inj (hnd _) l0 l1 e3
        omega
      have he' : e ∈ (addW (addW S.W x ⟨S.A.words.length, y, decide (c.length = 2)⟩) y ⟨S.A.words.length, x, decide (c.length = 2)⟩).lists.getD j [] := by rw [← hW]; exact he
      rcases SS.mem_addW he' with rfl | he2
      · by_cases ej : j = ix y
        · refine .inr ⟨h2, rfl, by show 2 ≤ S'.A.len (S.A.words.length : Int); omega, .inr ?_, ?_, fun hb => ⟨by show S'.A.len (S.A.words.length : Int) = 2; rw [hlen]; simpa using hb, by rw [ej]; exact hne⟩⟩
          · show ix ((S'.A.lits _).getD 1 0) = j; rw [hy, ej]
          · show x ∈ S'.A.lits _; rw [← hx]; exact getD_mem l0
        · have he4 : (⟨S.A.words.length, x, decide (c.length = 2)⟩ : Wx) ∈ lists (addW (addW S.W x ⟨S.A.words.length, y, decide (c.length = 2)⟩) y ⟨S.A.words.length, x, decide (c.length = 2)⟩) j := he'
          rw [lists_addW_ne _ _ _ ej] at he4
          rcases SS.mem_addW he4 with e5 | he5
          · by_cases ej2 : j = ix x
            · have : x = y := congrArg Wx.bl e5
              exact absurd (by rw [this]) hne
            · rw [lists_addW_ne _ _ _ ej2] at he4; exact .inl he4
          · exact .inl he5
      · rcases SS.mem_addW he2 with rfl | he3
        · by_cases ej : j = ix x
          · refine .inr ⟨h2, rfl, by show 2 ≤ S'.A.len (S.A.words.length : Int); omega, .inl ?_, ?_, fun hb => ⟨by show S'.A.len (S.A.words.length : Int) = 2; rw [hlen]; simpa using hb, by rw [ej]; exact Ne.symm hne⟩⟩
            · show ix ((S'.A.lits _).getD 0 0) = j; rw [hx, ej]
            · show y ∈ S'.A.lits _; rw [← hy]; exact getD_mem l1
          · have he4 : (⟨S.A.words.length, y, decide (c.length = 2)⟩ : Wx) ∈ lists (addW S.W x ⟨S.A.words.length, y, decide (c.length = 2)⟩) j := he2
            rw [lists_addW_ne _ _ _ ej] at he4; exact .inl he4
        · exact .inl he3
    · have := P.short (by omega)
      unfold lists at he ⊢
      rw [this] at he; exact .inl he
  have hto : ∀ j, ∃ s, lists S'.W j = lists S.W j ++ s ∧ (s.map Wx.ref).Nodup ∧ ∀ e ∈ s, e.ref = S.A.words.length := by
    intro j
    by_cases h2 : 2 ≤ c.length
    · obtain ⟨x, y, hx, hy, hW⟩ := P.long h2
      have l0 : 0 < (S'.A.lits S.A.words.length).length := by have := P.own.length_eq; omega
      have l1 : 1 < (S'.A.lits S.A.words.length).length := by have := P.own.length_eq; omega
      have mx : x ∈ S'.A.lits S.A.words.length := by rw [← hx]; exact getD_mem l0
      have my : y ∈ S'.A.lits S.A.words.length := by rw [← hy]; exact getD_mem l1
      have hne : ix x ≠ ix y := by
        intro e2
        have e3 := ix_inj' (TS.ok_ne (hok _ _ mx)) (TS.ok_ne (hok _ _ my)) e2
        rw [← hx, ← hy] at e3
        have := getD_inj (hnd _) l0 l1 e3
        omega
      have hxl : ix x < S.W.lists.length := by rw [hs.lists]; exact ix_lt' (hok _ _ mx)
      have hyl : ix y < S.W.lists.length := by rw [hs.lists]; exact ix_lt' (hok _ _ my)
      have hW' : lists S'.W j = lists (addW (addW S.W x ⟨S.A.words.length, y, decide (c.length = 2)⟩) y ⟨S.A.words.length, x, decide (c.length = 2)⟩) j := by unfold lists; rw [hW]
      rw [hW']
      by_cases ey : j = ix y
      · subst ey
        rw [lists_addW _ _ _ (by simp [SS.addW]; exact hyl), lists_addW_ne _ _ _ (Ne.symm hne)]
        exact ⟨_, rfl, by simp, by simp⟩
      · rw [lists_addW_ne _ _ _ ey]
        by_cases ex : j = ix x
        · subst ex
          rw [lists_addW _ _ _ hxl]
          exact ⟨_, rfl, by simp, by simp⟩
        · rw [lists_addW_ne _ _ _ ex]
          exact ⟨[], by simp, by simp, by simp⟩
    · refine ⟨[], ?_, by simp, by simp⟩
      unfold lists; rw [P.short (by omega)]; simp
  have hold : ∀ j, ∀ e ∈ lists S.W j, e.ref ≠ S.A.words.length := fun j e he => by have := h.lo j e he; omega
  have hrefold : ∀ q, S'.A.has q = true → q ≠ S.A.words.length → S.A.has q = true := by
    intro q hq hne; rw [P.has] at hq; simpa [hne] using hq
  refine ⟨⟨hnd, fun q l hl2 => by rw [P.T]; exact hok q l hl2, ?_, ?_, ?_, ?_, ?_, ?_, ?_, ?_, ?_, ?_, by rw [P.T]; exact h.wf, ?_⟩, ⟨by rw [P.llen, P.T]; exact hs.lists, fun q l hl2 => by rw [P.T]; exact hok q l hl2, ?_⟩⟩
  · intro j e he hh
    rcases hfrom j e he with he | ⟨_, _, he⟩
    · have hne := hold j e he
      have := h.ev j e he (hrefold _ hh hne)
      unfold EV AS.len at this ⊢
      rw [P.oth _ hne]; exact this
    · exact he
  · intro j
    obtain ⟨s, hs1, hs2, hs3⟩ := hto j
    rw [hs1, List.map_append, List.nodup_append]
    refine ⟨h.un j, hs2, ?_⟩
    intro a ha b hb
    obtain ⟨e, he, rfl⟩ := List.mem_map.1 ha
    obtain ⟨e2, he2, rfl⟩ := List.mem_map.1 hb
    rw [hs3 e2 he2]; exact hold j e he
  · intro j e he
    rw [P.words]
    rcases hfrom j e he with he | ⟨_, he, _⟩
    · have := h.lo j e he; omega
    · rw [he]; omega
  · intro q hq h2 m hm
    by_cases e : q = S.A.words.length
    · subst e
      rw [hlen] at h2
      obtain ⟨x, y, hx, hy, hW⟩ := P.long h2
      have l0 : 0 < (S'.A.lits S.A.words.length).length := by have := P.own.length_eq; omega
      have l1 : 1 < (S'.A.lits S.A.words.length).length := by have := P.own.length_eq; omega
      have mx : x ∈ S'.A.lits S.A.words.length := by rw [← hx]; exact getD_mem l0
      have my : y ∈ S'.A.lits S.A.words.length := by rw [← hy]; exact getD_mem l1
      have hxl : ix x < S.W.lists.length := by rw [hs.lists]; exact ix_lt' (hok _ _ mx)
      have hyl : ix y < S.W.lists.length := by rw [hs.lists]; exact ix_lt' (hok _ _ my)
      have hW' : ∀ j, lists S'.W j = lists (addW (addW S.W x ⟨S.A.words.length, y, decide (c.length = 2)⟩) y ⟨S.A.words.length, x, decide (c.length = 2)⟩) j := by intro j; unfold lists; rw [hW]
      have hm' : m = 0 ∨ m = 1 := by omega
      rcases hm' with rfl | rfl
      · rw [hx, hW']
        by_cases exy : ix x = ix y
        · rw [exy, lists_addW _ _ _ (by simp [SS.addW]; exact hyl)]
          exact ⟨_, List.mem_append_right _ (List.mem_singleton.2 rfl), rfl⟩
        · rw [lists_addW_ne _ _ _ exy, lists_addW _ _ _ hxl]
          exact ⟨_, List.mem_append_right _ (List.mem_singleton.2 rfl), rfl⟩
      · rw [hy, hW', lists_addW _ _ _ (by simp [SS.addW]; exact hyl)]
        exact ⟨_, List.mem_append_right _ (List.mem_singleton.2 rfl), rfl⟩
    · unfold AS.len at h2
      rw [P.oth q e] at h2 ⊢
      obtain ⟨x, hx, ex⟩ := h.wt q (hrefold q hq e) h2 m hm
      obtain ⟨s, hs1, _, _⟩ := hto (ix ((S.A.lits q).getD m 0))
      exact ⟨x, by rw [hs1]; exact List.mem_append_left _ hx, ex⟩
  · intro q _ _ _ m _ hv2
    rw [P.T, hv] at hv2; omega
  · intro q _ _ _ m _ hv2
    rw [P.T, hv] at hv2; omega
  · intro q hq hp h2
    rw [P.pend] at hp
    have e : q ≠ S.A.words.length := fun e => hp (by rw [e]; exact List.mem_append_right _ (List.mem_singleton.2 rfl))
    unfold AS.len at h2
    rw [P.oth q e] at h2 ⊢
    obtain ⟨z, _, hz, _⟩ := h.sh q (hrefold q hq e) (fun hm => hp (List.mem_append_left _ hm)) h2
    rw [hv] at hz; omega
  · intro _ _ _ _; rw [P.T]; exact hst
  · intro i x hx; rw [P.T, hl] at hx; simp at hx
  · rw [P.head, P.T]; exact h.hd
  · intro i x hx; rw [P.T, hl] at hx; simp at hx
  · intro j e he
    rw [P.T]
    rcases hfrom j e he with he | ⟨h2, hr, he⟩
    · have hne := hold j e he
      obtain ⟨h3, h4⟩ := hs.wok j e he
      refine ⟨h3, fun hh => ?_⟩
      unfold AS.len at h4 ⊢
      rw [P.oth _ hne]; exact h4 (hrefold _ hh hne)
    · exact ⟨hok _ _ he.2.2.1, fun _ => by rw [hr, hlen]; exact h2⟩

/-- A decision, when all was looked at. -/
theorem wi_decide {A : AS} {T : TS} {lf : Nat → List Wx} (h : WI A T lf [] T.l.length) {l : Int} (hf : T.free l = true) : WI A (T.decide_ l) lf [] T.l.length := by
  have hw := h.wf.decided hf
  have hg : ∀ x, T.on x = true → (T.decide_ l).get x = T.get x ∧ (T.decide_ l).on x = true := by
    intro x hx
    have hne : vi x ≠ vi l := by
      intro e
      simp only [TS.on, Bool.and_eq_true, bne_iff_ne, TS.free, beq_iff_eq] at hx hf
      apply hx.2
      have : T.get x = T.get l := by unfold TS.get; rw [e]
      rw [this]; exact hf.2
    have hget : (T.decide_ l).get x = T.get x := by
      show (T.vars.set (vi l) _).getD (vi x) Cell.zero = _
      simp only [TS.free, Bool.and_eq_true] at hf
      rw [TS.get_set (vi_lt hf.1), if_neg hne]; rfl
    refine ⟨hget, ?_⟩
    have hok : (T.decide_ l).ok x = T.ok x := by simp [TS.ok, TS.decide_, TS.put]
    unfold TS.on; rw [hok, hget]; exact hx
  have hok : ∀ x, (T.decide_ l).ok x = T.ok x := fun x => by simp [TS.ok, TS.decide_, TS.put]
  have hval : ∀ x, (T.decide_ l).value x = (T.put l (-1)).value x := by
    intro x
    have e1 : (T.decide_ l).ok x = (T.put l (-1)).ok x := by rw [hok, TS.put_ok]
    have e2 : ((T.decide_ l).get x).v = ((T.put l (-1)).get x).v := by
      show ((T.vars.set (vi l) _).getD (vi x) Cell.zero).v = ((T.vars.set (vi l) _).getD (vi x) Cell.zero).v
      simp only [TS.free, Bool.and_eq_true] at hf
      rw [TS.get_set (vi_lt hf.1), TS.get_set (vi_lt hf.1)]; split <;> rfl
    unfold TS.value TS.on; rw [e1, e2]
  have hold : ∀ x, T.value x ≠ 0 → (T.decide_ l).levelOf x = T.levelOf x ∧ (T.decide_ l).place x = T.place x := by
    intro x hx
    have hon := TS.on_of_value hx
    obtain ⟨h1, h2⟩ := hg x hon
    unfold TS.levelOf TS.place; rw [if_pos hon, if_pos hon, if_pos h2, if_pos h2, h1]; exact ⟨rfl, rfl⟩
  have hx : (T.decide_ l).l[T.l.length]? = some l := by show (T.l ++ [l])[_]? = _; simp
  have hnew := TS.place_of hw hx
  refine ⟨h.nd, fun r y hy => by rw [hok]; exact h.ok r y hy, h.ev, h.un, h.lo, h.wt, ?_, fun r _ hr => by simp at hr, ?_, fun r _ hr => by simp at hr, ?_, ?_, hw, h.rs.decided h.wf hf⟩
  · intro r hr hp h2 m hm hv hpl
    rw [hval] at hv
    rcases TS.put_neg hf hv with hv' | e
    · rw [(hold _ (by omega)).2] at hpl
      rw [(hold _ (by omega)).1]
      obtain ⟨z, hz, h3, h4⟩ := h.dn r hr hp h2 m hm hv' hpl
      exact ⟨z, hz, by rw [hval]; exact TS.put_pos hf h3, by rw [(hold _ (by omega)).1]; exact h4⟩
    · rw [e, hnew.2.1] at hpl; omega
  · intro r hr hp h2
    obtain ⟨z, hz, h3, h4⟩ := h.sh r hr hp h2
    exact ⟨z, hz, by rw [hval]; exact TS.put_pos hf h3, by rw [(hold _ (by omega)).1]; exact h4⟩
  · intro i x hx2 hi
    have hx' : (T.l ++ [l])[i]? = some x := hx2
    have e : i = T.l.length := by
      have := (List.getElem?_eq_some_iff.1 hx').1
      simp at this; omega
    subst e
    have ex : x = l := by simpa using hx'.symm
    subst ex
    rw [hnew.2.2.1]
    show (((T.st ++ [(T.l.length : Int)]).filter _).length : Int) = _
    rw [TS.filter_all_len]
    · rfl
    · intro s hs
      rcases List.mem_append.1 hs with hs | hs
      · obtain ⟨k, hk, rfl⟩ := List.mem_iff_getElem.1 hs
        have := h.wf.st k _ (List.getElem?_eq_getElem hk)
        simp; omega
      · simp at hs; subst hs; simp
  · show T.l.length ≤ (T.l ++ [l]).length; simp
end Go.Proofs.Ytpjiemffkkfbkaa

/- Clauses in one form: plain words. -/
namespace Go.Proofs.Ytpjiemffkkfbkaa

/-- Strictly rising by index. -/
def Rising (L : List Int) : Prop := L.Pairwise fun a b => ix a < ix b

theorem Rising.nodup {L : List Int} (h : Rising L) : L.Nodup := by
  rw [List.nodup_iff_pairwise_ne]
  exact h.imp fun hlt e => by subst e; omega

theorem Rising.unique : ∀ {L M : List Int}, Rising L → Rising M → (∀ x, x ∈ L ↔ x ∈ M) → (∀ x ∈ L, x ≠ 0) → L = M := by
  intro L
  induction L with
  | nil =>
    intro M _ _ h _
    cases M with
    | nil => rfl
    | cons b M => exact absurd ((h b).2 (by simp)) (by simp)
  | cons a L ih =>
    intro M hL hM h h0
    cases M with
    | nil => exact absurd ((h a).1 (by simp)) (by simp)
    | cons b M =>
      unfold Rising at hL hM
      rw [List.pairwise_cons] at hL hM
      have hab : a = b := by
        rcases List.mem_cons.1 ((h a).1 (by simp)) with e | ha
        · exact e
        · rcases List.mem_cons.1 ((h b).2 (by simp)) with e | hb
          · exact e.symm
          · have h1 := hM.1 a ha
            have h2 := hL.1 b hb
            omega
      subst hab
      congr 1
      refine ih hL.2 hM.2 (fun x => ?_) (fun x hx => h0 x (by simp [hx]))
      constructor
      · intro hx
        rcases List.mem_cons.1 ((h x).1 (by simp [hx])) with e | hx2
        · subst e; have := hL.1 x hx; omega
        · exact hx2
      · intro hx
        rcases List.mem_cons.1 ((h x).2 (by simp [hx])) with e | hx2
        · subst e; have := hM.1 x hx; omega
        · exact hx2

/-- A literal more in a rising list. -/
def insU (x : Int) : List Int → List Int
  | [] => [x]
  | a :: L => if ix x < ix a then x :: a :: L else if ix x = ix a then a :: L else a :: insU x L

/-- A clause in one form. -/
def normC (c : List Int) : List Int := c.foldr insU []

theorem insU_mem {x : Int} (hx : x ≠ 0) : ∀ {L : List Int}, (∀ y ∈ L, y ≠ 0) → ∀ y, y ∈ insU x L ↔ y = x ∨ y ∈ L := by
  intro L
  induction L with
  | nil => intro _ y; simp [insU]
  | cons a L ih =>
    intro h0 y
    unfold insU
    split
    · simp
    · split
      · rename_i e
        have : x = a := ix_inj' hx (h0 a (by simp)) e
        subst this; simp
      · rw [List.mem_cons, ih (fun y hy => h0 y (by simp [hy])), List.mem_cons]
        constructor
        · rintro (h | h | h)
          · exact .inr (.inl h)
          · exact .inl h
          · exact .inr (.inr h)
        · rintro (h | h | h)
          · exact .inr (.inl h)
          · exact .inl h
          · exact .inr (.inr h)

theorem insU_rising {x : Int} (hx : x ≠ 0) : ∀ {L : List Int}, (∀ y ∈ L, y ≠ 0) → Rising L → Rising (insU x L) := by
  intro L
  induction L with
  | nil => intro _ _; simp [insU, Rising]
  | cons a L ih =>
    intro h0 h
    unfold Rising at h ⊢
    rw [List.pairwise_cons] at h
    unfold insU
    split
    · rename_i hlt
      rw [List.pairwise_cons, List.pairwise_cons]
      refine ⟨fun y hy => ?_, h⟩
      rcases List.mem_cons.1 hy with rfl | hy
      · exact hlt
      · have := h.1 y hy; omega
    · split
      · rw [List.pairwise_cons]; exact h
      · rw [List.pairwise_cons]
        refine ⟨fun y hy => ?_, ih (fun y hy => h0 y (by simp [hy])) h.2⟩
        rcases (insU_mem hx (fun y hy => h0 y (by simp [hy])) y).1 hy with rfl | hy
        · omega
        · exact h.1 y hy

theorem normC_spec {c : List Int} (h : ∀ x ∈ c, x ≠ 0) : Rising (normC c) ∧ ∀ x, x ∈ normC c ↔ x ∈ c := by
  induction c with
  | nil => exact ⟨List.Pairwise.nil, fun x => Iff.rfl⟩
  | cons a c ih =>
    obtain ⟨h1, h2⟩ := ih fun x hx => h x (by simp [hx])
    have h0 : ∀ y ∈ normC c, y ≠ 0 := fun y hy => h y (by simp [(h2 y).1 hy])
    refine ⟨insU_rising (h a (by simp)) h0 h1, fun x => ?_⟩
    show x ∈ insU a (normC c) ↔ _
    rw [insU_mem (h a (by simp)) h0, h2, List.mem_cons]

theorem insU_length (x : Int) : ∀ L : List Int, (insU x L).length ≤ L.length + 1 := by
  intro L
  induction L with
  | nil => simp [insU]
  | cons a L ih => unfold insU; split; simp; split; simp; simp only [List.length_cons]; omega
theorem normC_length (c : List Int) : (normC c).length ≤ c.length := by
  induction c with
  | nil => simp [normC]
  | cons a c ih => have := insU_length a (normC c); simp only [normC, List.foldr_cons, List.length_cons] at *; omega

/-- Any rising list of the same literals is it. -/
theorem normC_eq {c L : List Int} (h : ∀ x ∈ c, x ≠ 0) (hL : Rising L) (hm : ∀ x, x ∈ L ↔ x ∈ c) : L = normC c := by
  obtain ⟨h1, h2⟩ := normC_spec h
  exact hL.unique h1 (fun x => by rw [hm, h2]) fun x hx => h x ((hm x).1 hx)

/-- Has it a literal and its negation? -/
def taut (c : List Int) : Bool := c.any fun x => c.contains (-x)
theorem taut_iff (c : List Int) : taut c = true ↔ ∃ x ∈ c, -x ∈ c := by simp [taut]

/-- Two neighbours that are each other's negation. -/
def nbr (d : List Int) (i : Nat) : Bool := d.getD i 0 == -(d.getD (i - 1) 0)
def nbrGo (d : List Int) : Nat → Nat → Bool
  | 0, _ => false
  | k + 1, i => if nbr d i then true else nbrGo d k (i + 1)

theorem nbrGo_iff (d : List Int) : ∀ k i, nbrGo d k i = true ↔ ∃ j, i ≤ j ∧ j < i + k ∧ nbr d j = true := by
  intro k
  induction k with
  | zero => intro i; simp [nbrGo]; intro j h1 h2; omega
  | succ k ih =>
    intro i
    unfold nbrGo
    by_cases h : nbr d i = true
    · simp only [h, if_true, true_iff]; exact ⟨i, Nat.le_refl _, by omega, h⟩
    · rw [if_neg h, ih]
      constructor
      · rintro ⟨j, h1, h2, h3⟩; exact ⟨j, by omega, by omega, h3⟩
      · rintro ⟨j, h1, h2, h3⟩
        refine ⟨j, ?_, by omega, h3⟩
        rcases Nat.eq_or_lt_of_le h1 with e | e
        · subst e; exact absurd h3 h
        · exact e

theorem ix_neg_near {x : Int} (hx : x ≠ 0) : ix (-x) = ix x + 1 ∨ ix x = ix (-x) + 1 := by
  unfold ix; split <;> split <;> omega

theorem nbr_taut {c : List Int} (h : ∀ x ∈ c, x ≠ 0) : nbrGo (normC c) ((normC c).length - 1) 1 = taut c := by
  obtain ⟨h1, h2⟩ := normC_spec h
  have h0 : ∀ y ∈ normC c, y ≠ 0 := fun y hy => h y ((h2 y).1 hy)
  rw [Bool.eq_iff_iff, nbrGo_iff, taut_iff]
  generalize normC c = d at *
  constructor
  · rintro ⟨j, hj1, hj2, hj3⟩
    simp only [nbr, beq_iff_eq] at hj3
    have hjl : j < d.length := by omega
    have e1 : d.getD j 0 = d[j] := by rw [List.getD_eq_getElem?_getD, List.getElem?_eq_getElem hjl]; rfl
    have e2 : d.getD (j - 1) 0 = d[j - 1] := by rw [List.getD_eq_getElem?_getD, List.getElem?_eq_getElem (by omega)]; rfl
    refine ⟨d[j - 1], (h2 _).1 (List.getElem_mem _), ?_⟩
    rw [← e2, ← hj3, e1]
    exact (h2 _).1 (List.getElem_mem _)
  · rintro ⟨x, hx, hnx⟩
    rw [← h2] at hx hnx
    obtain ⟨i, hi, ei⟩ := List.mem_iff_getElem.1 hx
    obtain ⟨k, hk, ek⟩ := List.mem_iff_getElem.1 hnx
    have hp := List.pairwise_iff_getElem.1 h1
    have hx0 := h0 x (by rw [← ei]; exact List.getElem_mem _)
    have key : ∀ (a b : Nat) (ha : a < d.length) (hb : b < d.length), ix d[b] = ix d[a] + 1 → b = a + 1 := by
      intro a b ha hb e
      rcases Nat.lt_trichotomy b (a + 1) with h3 | h3 | h3
      · exfalso
        rcases Nat.eq_or_lt_of_le (Nat.le_of_lt_succ h3) with h4 | h4
        · subst h4; omega
        · have := hp b a hb ha h4; omega
      · exact h3
      · exfalso
        have p1 := hp a (a + 1) ha (by omega) (by omega)
        have p2 := hp (a + 1) b (by omega) hb h3
        omega
    have hg : ∀ (a : Nat) (ha : a < d.length), d.getD a 0 = d[a] := fun a ha => by rw [List.getD_eq_getElem?_getD, List.getElem?_eq_getElem ha]; rfl
    rcases ix_neg_near hx0 with e | e
    · have := key i k hi hk (by rw [ei, ek]; exact e)
      subst this
      refine ⟨i + 1, by omega, by omega, ?_⟩
      simp only [nbr, beq_iff_eq, Nat.add_sub_cancel]
      rw [hg _ hk, hg _ hi, ei, ek]
    · have := key k i hk hi (by rw [ei, ek]; exact e)
      subst this
      refine ⟨k + 1, by omega, by omega, ?_⟩
      simp only [nbr, beq_iff_eq, Nat.add_sub_cancel]
      rw [hg _ hk, hg _ hi, ei, ek, Int.neg_neg]

/-- A formula's clauses in one form, and whether one is empty. -/
def normF (L : List (List Int)) : List (List Int) := (L.filter fun c => !taut c).map normC
def emptyF (L : List (List Int)) : Bool := L.any fun c => c.length == 0

theorem normF_snoc (L : List (List Int)) (c : List Int) : normF (L ++ [c]) = normF L ++ (if taut c then [] else [normC c]) := by
  unfold normF; rw [List.filter_append, List.map_append]; congr 1
  by_cases h : taut c = true <;> simp [h]
theorem emptyF_snoc (L : List (List Int)) (c : List Int) : emptyF (L ++ [c]) = (emptyF L || c.length == 0) := by
  unfold emptyF; rw [List.any_append]; simp
theorem taut_nil : taut [] = false := rfl
end Go.Proofs.Ytpjiemffkkfbkaa

/- A system with a formula's clauses, nothing on its trail: plain words. -/
namespace Go.Proofs.Ytpjiemffkkfbkaa
open SS

def plusAll (n : Nat) (CL : List (List Int)) : SS := CL.foldl SS.plus (SS.new n)
theorem plusAll_snoc (n : Nat) (CL : List (List Int)) (c : List Int) : plusAll n (CL ++ [c]) = (plusAll n CL).plus c := by
  unfold plusAll; rw [List.foldl_append]; rfl

/-- What holds of it. -/
structure Built (n : Nat) (CL : List (List Int)) (S : SS) : Prop where
  wi : WI S.A S.T (lists S.W) S.W.pend S.W.head
  safe : Safe S
  T : S.T = TS.empty n
  lim : S.A.limit = 0
  pend : S.W.pend.length = CL.length
  head : S.W.head = 0
  vis : S.W.visits = 0
  cls : ∀ c, S.A.cl c → ∃ d ∈ CL, c.Perm d
  cls2 : ∀ d ∈ CL, ∃ c, S.A.cl c ∧ c.Perm d
  tot : tot S.W.lists ≤ 2 * CL.length
  words : S.A.words.length ≤ 15 * CL.length

theorem built_nil {n : Nat} (h : n ≤ 100000) : Built n [] (plusAll n []) := by
  refine ⟨wi_new n h, safe_new n, rfl, rfl, rfl, rfl, rfl, ?_, (by intro d hd; simp at hd), ?_, ?_⟩
  · rintro c ⟨r, hr, _⟩
    have : (AS.new 0).has r = false := rfl
    have hr' : (AS.new 0).has r = true := hr
    rw [this] at hr'; cases hr'
  · have : ∀ m, Ytpjiemffkkfbkaa.tot (List.replicate m ([] : List Wx)) = 0 := by
      intro m
      induction m with
      | zero => rfl
      | succ m ih => rw [List.replicate_succ]; simp only [Ytpjiemffkkfbkaa.tot, ih]; rfl
    show Ytpjiemffkkfbkaa.tot (List.replicate (2 * n) []) ≤ _
    rw [this]; simp
  · simp [plusAll, SS.new, AS.new, AS.words, wordsOf]

theorem built_snoc {n : Nat} {CL : List (List Int)} {c : List Int} (h : Built n CL (plusAll n CL)) (hn : c.Nodup) (hc : ∀ l ∈ c, litIn l n = true) (h12 : c.length ≤ 12) : Built n (CL ++ [c]) (plusAll n (CL ++ [c])) := by
  rw [plusAll_snoc]
  generalize plusAll n CL = S at *
  have hT : S.T.l = [] := by rw [h.T]; rfl
  have hok : ∀ l ∈ c, S.T.ok l = true := by
    intro l hl
    rw [h.T]
    show litIn l (List.replicate n Cell.zero).length = true
    rw [List.length_replicate]; exact hc l hl
  obtain ⟨h1, h2⟩ := plus_wi h.wi h.safe hT hn hok
  have P := plus_spec S c
  generalize S.plus c = S' at *
  have hhas : ∀ q : Int, q ≠ S.A.words.length → S'.A.has q = S.A.has q := fun q hq => by rw [P.has]; simp [hq]
  refine ⟨h1, h2, P.T.trans h.T, P.lim.trans h.lim, by rw [P.pend]; simp [h.pend], P.head.trans h.head, P.vis.trans h.vis, ?_, ?_, ?_, ?_⟩
  · rintro d ⟨r, hr, rfl⟩
    by_cases e : r = S.A.words.length
    · subst e; exact ⟨c, by simp, P.own⟩
    · rw [P.oth r e]
      obtain ⟨d, hd, hp⟩ := h.cls _ ⟨r, by rw [← hhas r e]; exact hr, rfl⟩
      exact ⟨d, List.mem_append_left _ hd, hp⟩
  · intro d hd
    rcases List.mem_append.1 hd with hd | hd
    · obtain ⟨_, ⟨r, hr, rfl⟩, hp⟩ := h.cls2 d hd
      have e : r ≠ S.A.words.length := by have := WI.low S.A hr; omega
      exact ⟨S'.A.lits r, ⟨r, by rw [hhas r e]; exact hr, rfl⟩, by rw [P.oth r e]; exact hp⟩
    · simp at hd; subst hd
      exact ⟨_, ⟨S.A.words.length, by rw [P.has]; simp, rfl⟩, P.own⟩
  · by_cases h3 : 2 ≤ c.length
    · obtain ⟨x, y, _, _, hW⟩ := P.long h3
      rw [hW]
      have t1 := tot_addW S.W x ⟨S.A.words.length, y, decide (c.length = 2)⟩
      have t2 := tot_addW (addW S.W x ⟨S.A.words.length, y, decide (c.length = 2)⟩) y ⟨S.A.words.length, x, decide (c.length = 2)⟩
      have := h.tot
      rw [List.length_append, List.length_singleton]; omega
    · rw [P.short (by omega)]
      have := h.tot
      rw [List.length_append, List.length_singleton]; omega
  · rw [P.words, List.length_append, List.length_singleton]; have := h.words; omega

theorem built_all {n : Nat} (h : n ≤ 100000) (CL : List (List Int)) (hn : ∀ c ∈ CL, c.Nodup) (hc : ∀ c ∈ CL, ∀ l ∈ c, litIn l n = true) (h12 : ∀ c ∈ CL, c.length ≤ 12) : ∀ i, i ≤ CL.length → Built n (CL.take i) (plusAll n (CL.take i)) := by
  intro i
  induction i with
  | zero => intro _; exact built_nil h
  | succ i ih =>
    intro hi
    have hm : CL[i] ∈ CL := List.getElem_mem (by omega)
    rw [List.take_succ_eq_append_getElem (by omega)]
    exact built_snoc (ih (by omega)) (hn _ hm) (hc _ hm) (h12 _ hm)

/-- The clauses of a formula in one form. -/
theorem normF_ok {n : Nat} {L : List (List Int)} (hL : ∀ c ∈ L, ∀ l ∈ c, litIn l n = true) (h12 : ∀ c ∈ L, c.length ≤ 12) :
    (∀ c ∈ normF L, c.Nodup) ∧ (∀ c ∈ normF L, ∀ l ∈ c, litIn l n = true) ∧ ∀ c ∈ normF L, c.length ≤ 12 := by
  have key : ∀ c ∈ normF L, ∃ d ∈ L, c = normC d := by
    intro c hc
    obtain ⟨d, hd, e⟩ := List.mem_map.1 hc
    exact ⟨d, (List.mem_filter.1 hd).1, e.symm⟩
  have nz : ∀ d ∈ L, ∀ x ∈ d, x ≠ 0 := fun d hd x hx => (litIn_iff.1 (hL d hd x hx)).1
  refine ⟨fun c hc => ?_, fun c hc l hl => ?_, fun c hc => ?_⟩
  · obtain ⟨d, hd, rfl⟩ := key c hc; exact (normC_spec (nz d hd)).1.nodup
  · obtain ⟨d, hd, rfl⟩ := key c hc; exact hL d hd l (((normC_spec (nz d hd)).2 l).1 hl)
  · obtain ⟨d, hd, rfl⟩ := key c hc; have := normC_length d; have := h12 d hd; omega
theorem normF_taut {n : Nat} {L : List (List Int)} (hL : ∀ c ∈ L, ∀ l ∈ c, litIn l n = true) : ∀ c ∈ normF L, ∃ d ∈ L, taut d = false ∧ ∀ x, x ∈ c ↔ x ∈ d := by
  intro c hc
  obtain ⟨d, hd, rfl⟩ := List.mem_map.1 hc
  obtain ⟨h1, h2⟩ := List.mem_filter.1 hd
  exact ⟨d, h1, by simpa using h2, (normC_spec fun x hx => (litIn_iff.1 (hL d h1 x hx)).1).2⟩
theorem normF_mem {n : Nat} {L : List (List Int)} (hL : ∀ c ∈ L, ∀ l ∈ c, litIn l n = true) : ∀ d ∈ L, taut d = false → ∃ c ∈ normF L, ∀ x, x ∈ c ↔ x ∈ d := by
  intro d hd ht
  exact ⟨normC d, List.mem_map.2 ⟨d, List.mem_filter.2 ⟨hd, by simp [ht]⟩, rfl⟩, (normC_spec fun x hx => (litIn_iff.1 (hL d hd x hx)).1).2⟩
end Go.Proofs.Ytpjiemffkkfbkaa

/- Systems with a formula's clauses, whatever was decided: plain words. -/
namespace Go.Proofs.Ytpjiemffkkfbkaa
open SS

/-- What holds of it between calls. -/
structure Good (n : Nat) (CL : List (List Int)) (S : SS) : Prop where
  wi : WI S.A S.T (lists S.W) S.W.pend S.W.head
  safe : Safe S
  nv : S.T.vars.length = n
  cls : ∀ c, S.A.cl c → ∃ d ∈ CL, c.Perm d
  cls2 : ∀ d ∈ CL, ∃ c, S.A.cl c ∧ c.Perm d
  tot : tot S.W.lists ≤ 2 * CL.length
  pend : S.W.pend.length ≤ CL.length

/-- All was looked at, and nothing clashed. -/
def Ready (S : SS) : Prop := S.W.pend = [] ∧ S.W.head = S.T.l.length

theorem Built.good {n : Nat} {CL : List (List Int)} {S : SS} (h : Built n CL S) : Good n CL S :=
  ⟨h.wi, h.safe, by rw [h.T]; simp [TS.empty], h.cls, h.cls2, h.tot, Nat.le_of_eq h.pend⟩

theorem good_built {n : Nat} (h : n ≤ 100000) {CL : List (List Int)} (hn : ∀ c ∈ CL, c.Nodup) (hc : ∀ c ∈ CL, ∀ l ∈ c, litIn l n = true) (h12 : ∀ c ∈ CL, c.length ≤ 12) : Good n CL (plusAll n CL) ∧ (plusAll n CL).T = TS.empty n ∧ (plusAll n CL).W.visits = 0 := by
  have := built_all h CL hn hc h12 CL.length (Nat.le_refl _)
  rw [List.take_length] at this
  exact ⟨this.good, this.T, this.vis⟩

theorem Good.der {n : Nat} {CL : List (List Int)} {S : SS} (h : Good n CL S) {k : List Int} {x : Int} : Der S.A.cl k x ↔ Der (fun c => c ∈ CL) k x :=
  ⟨fun hd => hd.mono (fun c hc => by obtain ⟨d, hd, hp⟩ := h.cls c hc; exact ⟨d, hd, fun x => hp.mem_iff.symm⟩) (fun y hy => .given hy),
   fun hd => hd.mono (fun c hc => by obtain ⟨d, hd, hp⟩ := h.cls2 c hc; exact ⟨d, hd, fun x => hp.mem_iff⟩) (fun y hy => .given hy)⟩
theorem Good.clash {n : Nat} {CL : List (List Int)} {S : SS} (h : Good n CL S) {k : List Int} : Clash S.A.cl k ↔ Clash (fun c => c ∈ CL) k :=
  ⟨fun hd => hd.mono (fun c hc => by obtain ⟨d, hd, hp⟩ := h.cls c hc; exact ⟨d, hd, fun x => hp.mem_iff.symm⟩) (fun y hy => .given hy),
   fun hd => hd.mono (fun c hc => by obtain ⟨d, hd, hp⟩ := h.cls2 c hc; exact ⟨d, hd, fun x => hp.mem_iff⟩) (fun y hy => .given hy)⟩

/-! pending clauses grow no more -/
theorem pendGo_len : ∀ (P : List Int) (S : SS), (pendGo P S).1.W.pend.length ≤ P.length := by
  intro P
  induction P with
  | nil => intro S; exact Nat.le_refl _
  | cons r P ih =>
    intro S
    unfold SS.pendGo
    simp only
    split
    · split
      · rename_i S2 heq
        have hw := look_W { S with W := { S.W with pend := r :: P, visits := w64 (S.W.visits + 1) } } r
        rw [heq] at hw
        show S2.W.pend.length ≤ _
        simp only at hw
        rw [hw]; exact Nat.le_refl _
      · have := ih ‹_›; simp only [List.length_cons]; omega
    · exact Nat.le_succ_of_le (ih _)

theorem Good.propagate {n : Nat} {CL : List (List Int)} {S : SS} (h : Good n CL S) : Good n CL S.propagate.1 ∧ PropWI S S.propagate := by
  have hp := propagate_wi h.safe h.wi
  have hs := hp.ok.step
  refine ⟨⟨?_, hp.ok.safe, hs.puts.vars.trans h.nv, ?_, ?_, ?_, ?_⟩, hp⟩
  · cases hR : S.propagate.2 with
    | none =>
      obtain ⟨h1, h2, h3⟩ := hp.no hR
      rw [h1, h2]; exact h3
    | some r => exact (hp.yes r hR).2.1
  · rintro c ⟨r, hr, rfl⟩
    obtain ⟨d, hd, hq⟩ := h.cls (S.A.lits r) ⟨r, by rw [← hs.has]; exact hr, rfl⟩
    exact ⟨d, hd, (hs.perm r).trans hq⟩
  · intro d hd
    obtain ⟨_, ⟨r, hr, rfl⟩, hq⟩ := h.cls2 d hd
    exact ⟨S.propagate.1.A.lits r, ⟨r, by rw [hs.has]; exact hr, rfl⟩, (hs.perm r).trans hq⟩
  · have := hp.ok.tot; have := h.tot; omega
  · cases hR : S.propagate.2 with
    | none => rw [(hp.no hR).1]; simp
    | some r =>
      refine Nat.le_trans ?_ h.pend
      have h1 := pendGo_len S.W.pend S
      unfold SS.propagate at hR ⊢
      split
      · rename_i S1 r2 heq; rw [heq] at h1; exact h1
      · rename_i S1 heq
        have hpk := pendGo_ok S.W.pend S h.safe
        have hpw := pendGo_wi S.W.pend S h.safe h.wi
        rw [heq] at hpk hpw hR
        obtain ⟨h2, h3⟩ := hpw.no rfl
        rw [← hpw.head] at h3
        have h4 := headGo_wi (S1.T.vars.length + 1) S1 hpk.safe h2 h3 (by omega)
        rw [(h4.yes r hR).2.1]; simp

theorem Good.ready {n : Nat} {CL : List (List Int)} {S : SS} (h : Good n CL S) (hR : S.propagate.2 = none) : Ready S.propagate.1 := by
  obtain ⟨h1, h2, _⟩ := h.propagate.2.no hR
  exact ⟨h1, h2⟩

theorem st_lt {T : TS} (hw : T.WF) : ∀ s ∈ T.st, s < (T.l.length : Int) := by
  intro s hs
  obtain ⟨k, hk, rfl⟩ := List.mem_iff_getElem.1 hs
  exact (hw.st k _ (List.getElem?_eq_getElem hk)).2

/-- What a propagation says, by the formula's own clauses. -/
theorem Good.follows {n : Nat} {CL : List (List Int)} {S : SS} (h : Good n CL S) (hR : S.propagate.2 = none) : (∀ x, x ∈ S.propagate.1.T.l ↔ Der (fun c => c ∈ CL) S.T.l x) ∧ ¬ Clash (fun c => c ∈ CL) S.T.l := by
  obtain ⟨h1, h2⟩ := h.propagate.2.follows h.wi.wf (st_lt h.wi.wf) hR
  exact ⟨fun x => by rw [h1, h.der], fun hc => h2 (h.clash.2 hc)⟩
theorem Good.clashes {n : Nat} {CL : List (List Int)} {S : SS} (h : Good n CL S) {r : Int} (hR : S.propagate.2 = some r) : Clash (fun c => c ∈ CL) S.T.l := h.clash.1 (h.propagate.2.clashes (st_lt h.wi.wf) hR)

theorem SS.Safe.decide {S : SS} (h : Safe S) (l : Int) : Safe { S with T := S.T.decide_ l } := by
  have hv : (S.T.decide_ l).vars.length = S.T.vars.length := by simp [TS.decide_, TS.put]
  have hok : ∀ x, (S.T.decide_ l).ok x = S.T.ok x := fun x => by unfold TS.ok; rw [hv]
  exact ⟨by show S.W.lists.length = 2 * (S.T.decide_ l).vars.length; rw [hv]; exact h.lists, fun r x hx => by show (S.T.decide_ l).ok x = true; rw [hok]; exact h.lits r x hx, fun j x hx => ⟨by show (S.T.decide_ l).ok _ = true; rw [hok]; exact (h.wok j x hx).1, (h.wok j x hx).2⟩⟩

theorem Good.decide {n : Nat} {CL : List (List Int)} {S : SS} (h : Good n CL S) (hr : Ready S) {l : Int} (hf : S.T.free l = true) : Good n CL { S with T := S.T.decide_ l } := by
  obtain ⟨h1, h2⟩ := hr
  have hw := h.wi
  rw [h1, h2] at hw
  refine ⟨?_, h.safe.decide l, by simpa [TS.decide_, TS.put] using h.nv, h.cls, h.cls2, h.tot, h.pend⟩
  show WI S.A (S.T.decide_ l) (lists S.W) S.W.pend S.W.head
  rw [h1, h2]; exact wi_decide hw hf

/-! how many clauses were looked at -/
theorem w64_add {v : Int} (h0 : 0 ≤ v) (h1 : v < 4611686018427387904) : w64 (v + 1) = v + 1 := by unfold w64; omega

theorem unit_vis (S : SS) (l r : Int) : (S.unit l r).1.W.visits = S.W.visits := by rw [unit_W]
theorem visit_vis (S : SS) (k i : Nat) (f : Int) : (S.visit k i f).1.W.visits = w64 (S.W.visits + 1) := by
  unfold SS.visit
  simp only
  split
  · rfl
  · split
    · rfl
    · split
      · rw [unit_W]
      · unfold SS.visit3
        simp only
        split
        · show (SS.turn _ _ _).W.visits = _
          rw [turn_W]
        · split
          · show (SS.turn _ _ _).W.visits = _
            rw [turn_W]
          · rw [unit_W, turn_W]

theorem fellGo_vis (k : Nat) (f : Int) : ∀ (c i n : Nat) (S : SS), 0 ≤ S.W.visits → S.W.visits + c < 4611686018427387904 → S.W.visits ≤ (fellGo k f c i n S).1.W.visits ∧ (fellGo k f c i n S).1.W.visits ≤ S.W.visits + c := by
  intro c
  induction c with
  | zero => intro i n S h0 h1; unfold SS.fellGo; exact ⟨Int.le_refl _, by show S.W.visits ≤ _; omega⟩
  | succ c ih =>
    intro i n S h0 h1
    have hv := visit_vis S k i f
    rw [w64_add h0 (by omega)] at hv
    unfold SS.fellGo
    cases hr : S.visit k i f with
    | mk S1 o =>
      rw [hr] at hv
      simp only at hv
      cases o with
      | stays =>
        simp only
        have := ih (i + 1) (n + 1) { S1 with W := setW S1.W k n (wx S1.W k i) } (by show 0 ≤ S1.W.visits; omega) (by show S1.W.visits + _ < _; omega)
        have e : ({ S1 with W := setW S1.W k n (wx S1.W k i) } : SS).W.visits = S1.W.visits := rfl
        rw [e] at this
        omega
      | goes =>
        simp only
        have := ih (i + 1) n S1 (by omega) (by omega)
        omega
      | clashes =>
        simp only
        show S.W.visits ≤ S1.W.visits ∧ S1.W.visits ≤ _
        omega

theorem pendGo_vis : ∀ (P : List Int) (S : SS), 0 ≤ S.W.visits → S.W.visits + P.length < 4611686018427387904 → S.W.visits ≤ (pendGo P S).1.W.visits ∧ (pendGo P S).1.W.visits ≤ S.W.visits + P.length := by
  intro P
  induction P with
  | nil => intro S h0 h1; unfold SS.pendGo; exact ⟨Int.le_refl _, by show S.W.visits ≤ _; omega⟩
  | cons r P ih =>
    intro S h0 h1
    have hv := w64_add (v := S.W.visits) h0 (by omega)
    unfold SS.pendGo
    simp only [hv]
    have e1 : ({ S with W := { S.W with pend := r :: P, visits := S.W.visits + 1 } } : SS).W.visits = S.W.visits + 1 := rfl
    have hw := look_W { S with W := { S.W with pend := r :: P, visits := S.W.visits + 1 } } r
    simp only [List.length_cons] at h1 ⊢
    split
    · split
      · rename_i S2 heq
        rw [heq] at hw
        simp only at hw
        show S.W.visits ≤ S2.W.visits ∧ S2.W.visits ≤ _
        rw [hw]
        show S.W.visits ≤ S.W.visits + 1 ∧ S.W.visits + 1 ≤ _
        omega
      · rename_i S2 heq
        rw [heq] at hw
        simp only at hw
        have e2 : S2.W.visits = S.W.visits + 1 := by rw [hw]
        have := ih S2 (by omega) (by omega)
        omega
    · generalize hS1 : ({ S with W := { S.W with pend := r :: P, visits := S.W.visits + 1 } } : SS) = S1 at *
      have := ih S1 (by rw [e1]; omega) (by rw [e1]; omega)
      omega

theorem headGo_vis (m : Nat) : ∀ (k : Nat) (S : SS), S.T.WF → Safe S → tot S.W.lists ≤ m → 0 ≤ S.W.visits → S.W.visits + (k * m : Nat) < 4611686018427387904 → S.W.visits ≤ (headGo k S).1.W.visits ∧ (headGo k S).1.W.visits ≤ S.W.visits + (k * m : Nat) := by
  intro k
  induction k with
  | zero => intro S _ _ _ h0 h1; unfold SS.headGo; exact ⟨Int.le_refl _, by show S.W.visits ≤ _; omega⟩
  | succ k ih =>
    intro S hw hs hm h0 h1
    have hmul : (k + 1) * m = k * m + m := Nat.succ_mul k m
    rw [hmul] at h1 ⊢
    unfold SS.headGo
    split
    · rename_i hl
      obtain ⟨a1, a2, a3⟩ := at_false hw hl
      have hf := fell_ok hs (f := -(S.T.at_ S.W.head)) (by omega) a2
      have hlen := tot_get S.W.lists (ix (-(S.T.at_ S.W.head)))
      have hv := fellGo_vis (ix (-(S.T.at_ S.W.head))) (-(S.T.at_ S.W.head)) (S.W.lists.getD (ix (-(S.T.at_ S.W.head))) []).length 0 0 S h0 (by omega)
      have hv2 : S.W.visits ≤ (S.fell (-(S.T.at_ S.W.head))).1.W.visits ∧ (S.fell (-(S.T.at_ S.W.head))).1.W.visits ≤ S.W.visits + m := ⟨hv.1, by have := hv.2; unfold SS.fell; omega⟩
      split
      · rename_i S1 r heq
        rw [heq] at hv2
        simp only at hv2 ⊢
        omega
      · rename_i S1 heq
        rw [heq] at hv2 hf
        simp only at hv2
        have ht := hf.tot
        simp only at ht
        have := ih { S1 with W := { S1.W with head := S1.W.head + 1 } } (hf.step.puts.wf hw) ⟨hf.safe.lists, hf.safe.lits, hf.safe.wok⟩ (by show Ytpjiemffkkfbkaa.tot S1.W.lists ≤ m; omega) (by show 0 ≤ S1.W.visits; omega) (by show S1.W.visits + _ < _; omega)
        have e : ({ S1 with W := { S1.W with head := S1.W.head + 1 } } : SS).W.visits = S1.W.visits := rfl
        rw [e] at this
        omega
    · simp only; omega

theorem Good.visits {n : Nat} {CL : List (List Int)} {S : SS} (h : Good n CL S) (h0 : 0 ≤ S.W.visits) (hb : S.W.visits + (CL.length + (n + 1) * (2 * CL.length) : Nat) < 4611686018427387904) :
    S.W.visits ≤ S.propagate.1.W.visits ∧ S.propagate.1.W.visits ≤ S.W.visits + (CL.length + (n + 1) * (2 * CL.length) : Nat) := by
  have hpl := h.pend
  have hp := pendGo_vis S.W.pend S h0 (by omega)
  have hpk := pendGo_ok S.W.pend S h.safe
  unfold SS.propagate
  split
  · rename_i S1 r heq
    rw [heq] at hp
    simp only at hp ⊢
    omega
  · rename_i S1 heq
    rw [heq] at hp hpk
    simp only at hp
    have hnv : S1.T.vars.length = n := hpk.step.puts.vars.trans h.nv
    have ht := hpk.tot
    simp only at ht
    have hh := headGo_vis (2 * CL.length) (S1.T.vars.length + 1) S1 (hpk.step.puts.wf h.wi.wf) hpk.safe (by have := h.tot; omega) (by omega) (by rw [hnv]; omega)
    rw [hnv] at hh ⊢
    omega
end Go.Proofs.Ytpjiemffkkfbkaa

