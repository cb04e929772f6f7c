/- The walks of the propagator's unit and look. -/
import Derived.Test.YtpjiemffkkfbkaaW1
namespace Go.Proofs.Ytpjiemffkkfbkaa
open Go.RowKit

theorem TS.free_of {T : TS} {l : Int} (h : T.ok l = true) (hv : T.value l = 0) : T.free l = true := by
  unfold TS.value TS.on at hv
  unfold TS.free
  rw [h] at hv ⊢
  simp only [Bool.true_and] at hv ⊢
  by_cases e : (T.get l).v = 0
  · simp [e]
  · have : ((T.get l).v != 0) = true := by simpa using e
    rw [if_pos this] at hv
    exfalso
    split at hv <;> omega

theorem TS.value_free {T : TS} {l : Int} (h : T.free l = true) : T.value l = 0 := by
  simp only [TS.free, Bool.and_eq_true, beq_iff_eq] at h
  unfold TS.value TS.on
  rw [h.2]; simp

theorem TS.value_put {T : TS} {l r : Int} (h : T.free l = true) : (T.put l r).value l = 1 := by
  have hf := h
  simp only [TS.free, Bool.and_eq_true, beq_iff_eq] at h
  have hg : (T.put l r).get l = ⟨sgn l, T.st.length, r, T.l.length, decide (0 < l)⟩ := by
    show (T.vars.set (vi l) _).getD (vi l) Cell.zero = _
    rw [TS.get_set (vi_lt h.1), if_pos rfl]
  have hok : (T.put l r).ok l = true := by
    have : (T.put l r).ok l = T.ok l := by simp [TS.ok, TS.put]
    rw [this]; exact h.1
  unfold TS.value TS.on
  rw [hok, hg]
  simp only [sgn]
  split <;> simp_all

section
variable {o : Own} {ab tb wb lb : Nat} {lvs : List Value} {S : SS}

theorem ret_num (a : SS.Out) {b : Int} (h : a.num = b) : Ending.returned (.int .i64 b) = .returned (.int .i64 a.num) := by rw [h]

theorem SS.put_T {S : SS} {l r : Int} (hf : S.T.free l = true) : (S.put l r).T = S.T.put l r := by unfold SS.put; rw [if_pos hf]

theorem unit_any (l r : Int) (w : World) (h : Sys w o ab tb wb lb lvs S) (hok : S.T.ok l = true) :
    Calls Try.prog 91 #[.pointer (some ⟨wb, 0, none⟩), .int .i64 l, .int .i64 r] w fun e w' => e = .returned (.int .i64 (S.unit l r).2.num) ∧ SysPost o w ab tb wb lb lvs (S.unit l r).1 w' := by
  obtain ⟨pv, hw⟩ := h.wt
  obtain ⟨vb, lv, sv, ht⟩ := h.tr
  have c1 := hw.c1
  have H := Lib.hid h
  have HT := Lib.hid ht
  clear h ht hw
  by_cases hv : S.T.value l = 0
  · have hf := TS.free_of hok hv
    have hu : S.unit l r = (S.put l r, .stays) := by
      simp only [SS.unit, if_pos hv]
      rw [SS.put_T hf, TS.value_put hf]; rfl
    rw [hu]
    have HV1 : Hid ((S.put l r).T.value l = 1) := by show _ = _; rw [SS.put_T hf, TS.value_put hf]
    clear hu
    go_enter Try.func91, Try.ntmps91
    go_wp2_with (first
      | (go_at_call 39; first | ((with_reducible refine (value_any _ _ HT.out).mono ?_); rintro e w' ⟨rfl, q, rfl⟩; rw [hv]) | ((with_reducible refine (value_any _ _ HT2.out).mono ?_); rintro e w' ⟨rfl, q2, rfl⟩; rw [HV1.out]))
      | (go_at_call 62
         refine (put_yes _ _ _ (HT.out.sm ⟨q, rfl⟩) hf (H.out.cl.sm ⟨q, rfl⟩)).mono ?_
         rintro e w2 ⟨rfl, HP⟩
         obtain ⟨o2, hs2, hf2⟩ := (H.out.sm ⟨q, rfl⟩).put hf HP
         obtain ⟨pv2, hw2⟩ := hs2.wt
         obtain ⟨vb2, lv2, sv2, ht2⟩ := hs2.tr
         have c1' := hw2.c1
         have HT2 := Lib.hid ht2
         have HS2 := Lib.hid hs2
         have HF2 := Lib.hid hf2
         clear hw2 ht2 hs2 hf2 HP))
    go_ret
    exact ⟨rfl, SysPost.after ⟨q, rfl⟩ ⟨o2, HS2.out.sm ⟨q2, rfl⟩, HF2.out.trans (Fr.sm ⟨q2, rfl⟩)⟩⟩
  · have hu : S.unit l r = (S, if S.T.value l < 0 then .clashes else .stays) := by simp only [SS.unit, if_neg hv]
    rw [hu]
    have HU := Lib.hid hu
    clear hu
    by_cases hn : S.T.value l < 0
    · rw [if_pos hn]
      generalize hvv : S.T.value l = v at *
      have HVV := Lib.hid hvv
      clear hvv
      go_enter Try.func91, Try.ntmps91
      go_wp2_with fail
      refine (value_any _ _ HT.out).mono ?_
      rintro e w' ⟨rfl, q, rfl⟩
      rw [HVV.out]
      go_wp2_with fail
      refine (value_any _ _ (HT.out.sm ⟨q, rfl⟩)).mono ?_
      rintro e w' ⟨rfl, q2, rfl⟩
      rw [HVV.out]
      go_wp2
      go_ret
      exact ⟨rfl, o, H.out.sm ⟨_, rfl⟩, Fr.sm ⟨_, rfl⟩⟩
    · rw [if_neg hn]
      generalize hvv : S.T.value l = v at *
      have HVV := Lib.hid hvv
      clear hvv
      go_enter Try.func91, Try.ntmps91
      go_wp2_with fail
      refine (value_any _ _ HT.out).mono ?_
      rintro e w' ⟨rfl, q, rfl⟩
      rw [HVV.out]
      go_wp2_with fail
      refine (value_any _ _ (HT.out.sm ⟨q, rfl⟩)).mono ?_
      rintro e w' ⟨rfl, q2, rfl⟩
      rw [HVV.out]
      go_wp2
      go_ret
      exact ⟨rfl, o, H.out.sm ⟨_, rfl⟩, Fr.sm ⟨_, rfl⟩⟩

/-- What the loop of look keeps. -/
structure LookRel (w0 : World) (val : Int → Int) (L : List Int) (k : Nat) (free i : Value) (wr : World) : Prop where
  sm : Sm w0 wr
  st : ∃ (f : Int) (i' : Nat), free = .int .i64 f ∧ i = .int .i64 i' ∧ i' + k = L.length ∧ SS.scan val (L.drop i') f = SS.scan val L 0 ∧ (f = 0 ∨ f ∈ L)

theorem SS.scan_mem (val : Int → Int) : ∀ (L : List Int) (f g : Int), SS.scan val L f = some g → g = f ∨ g ∈ L := by
  intro L
  induction L with
  | nil => intro f g h; simp only [SS.scan, Option.some.injEq] at h; exact .inl h.symm
  | cons a L ih =>
    intro f g h
    simp only [SS.scan] at h
    split at h
    · cases h
    · rcases ih _ _ h with h | h
      · split at h
        · exact .inr (by simp [h])
        · exact .inl h
      · exact .inr (by simp [h])

set_option maxHeartbeats 1000000 in
set_option maxRecDepth 100000 in
theorem look_any (r : Int) (w : World) (h : Sys w o ab tb wb lb lvs S) (hok : ∀ l ∈ S.A.lits r, S.T.ok l = true) :
    Calls Try.prog 58 #[.pointer (some ⟨wb, 0, none⟩), .int .i64 r] w fun e w' => e = .returned (.bool (S.look r).2) ∧ SysPost o w ab tb wb lb lvs (S.look r).1 w' := by
  obtain ⟨pv, hw⟩ := h.wt
  obtain ⟨vb, lv, sv, ht⟩ := h.tr
  obtain ⟨wv, mb, ha⟩ := h.ar
  have c0 := hw.c0
  have c1 := hw.c1
  have hle := ha.lenle r
  have hlen : (S.A.lits r).length = S.A.len r := rfl
  have HLEN := Lib.hid hlen
  have H := Lib.hid h
  have HT := Lib.hid ht
  have HA := Lib.hid ha
  have HOK := Lib.hid hok
  clear h ht hw ha hlen hok
  go_enter Try.func58, Try.ntmps58
  go_wp2_with (go_at_call 73; refine (alen_any _ _ HA.out).mono ?_; rintro e w' ⟨rfl, q, rfl⟩)
  go_loopg [5, 6, 7, 8, 15] (S.A.len r) (fun k f _ _ _ i wr => LookRel w S.T.value (S.A.lits r) k f i wr)
  case atStart => exact ⟨⟨q, rfl⟩, 0, 0, rfl, rfl, by rw [HLEN.out]; omega, rfl, .inl rfl⟩
  case round =>
    obtain ⟨⟨q0, rfl⟩, f, i, rfl, rfl, hik, hsc, hfm⟩ := hrel
    rw [HLEN.out] at hik
    have HSC := Lib.hid hsc
    have HFM := Lib.hid hfm
    clear hsc hfm
    by_cases hk : gk = 0
    · subst hk
      have hil : (S.A.len r : Int) ≤ (i : Int) := by omega
      have hsf : SS.scan S.T.value (S.A.lits r) 0 = some f := by
        have := HSC.out
        rw [List.drop_eq_nil_of_le (by rw [HLEN.out]; omega)] at this
        exact this.symm
      by_cases hf0 : f = 0
      · subst hf0
        have hl : S.look r = (S, false) := by unfold SS.look; rw [hsf]; rfl
        have HLK := Lib.hid hl
        clear hl hsf
        go_wp2
        go_ret
        rw [HLK.out]
        exact ⟨rfl, o, H.out.sm ⟨_, rfl⟩, Fr.sm ⟨_, rfl⟩⟩
      · have hl : S.look r = (S.put f r, S.T.free f) := by unfold SS.look; rw [hsf]; simp only; rw [if_neg hf0]
        have hfb : ((f : Int) != 0) = true := by simpa using hf0
        have HLK := Lib.hid hl
        clear hl hsf
        by_cases hfr : S.T.free f = true
        · have HFR := Lib.hid hfr
          clear hfr
          go_wp2_with (go_at_call 62; refine (put_yes _ _ _ (HT.out.sm ⟨q0, rfl⟩) HFR.out (H.out.cl.sm ⟨q0, rfl⟩)).mono ?_; rintro e w2 ⟨rfl, HP⟩)
          go_ret
          rw [HLK.out, HFR.out]
          exact ⟨rfl, SysPost.after ⟨q0, rfl⟩ ((H.out.sm ⟨q0, rfl⟩).put HFR.out HP)⟩
        · have hfr2 : S.T.free f = false := by simpa using hfr
          have HFR := Lib.hid hfr2
          clear hfr hfr2
          go_wp2_with (go_at_call 62; refine (put_no _ _ _ (HT.out.sm ⟨q0, rfl⟩) HFR.out).mono ?_; rintro e w2 ⟨rfl, q2, rfl⟩)
          go_ret
          rw [HLK.out, HFR.out]
          have e : S.put f r = S := by unfold SS.put; rw [if_neg (by rw [HFR.out]; decide)]
          rw [e]
          exact ⟨rfl, o, H.out.sm ⟨_, rfl⟩, Fr.sm ⟨_, rfl⟩⟩
    · obtain ⟨k', rfl⟩ : ∃ k', gk = k' + 1 := ⟨gk - 1, by omega⟩
      have hil : (i : Int) < (S.A.len r : Int) := by omega
      have hlv : S.A.lit r i = (S.A.lits r).getD i 0 := lit_nat _ _ _ (by omega)
      have hdrop : (S.A.lits r).drop i = S.A.lit r i :: (S.A.lits r).drop (i + 1) := by
        rw [List.drop_eq_getElem_cons (by rw [HLEN.out]; omega), hlv]
        congr 1
        rw [List.getD_eq_getElem?_getD, List.getElem?_eq_getElem (by rw [HLEN.out]; omega)]; rfl
      have hmem : S.A.lit r i ∈ S.A.lits r := by
        rw [hlv, List.getD_eq_getElem?_getD, List.getElem?_eq_getElem (by rw [HLEN.out]; omega)]; exact List.getElem_mem _
      have hsc2 := HSC.out
      rw [hdrop] at hsc2
      simp only [SS.scan] at hsc2
      have HSC2 := Lib.hid hsc2
      have HMEM := Lib.hid hmem
      clear hsc2 hlv hdrop hmem HSC
      generalize hx : S.A.lit r i = x at *
      have HX := Lib.hid hx
      clear hx
      generalize hv : S.T.value x = v at *
      have HV := Lib.hid hv
      clear hv
      have hi1 : (i : Int) ≤ 1000000000 := by omega
      by_cases hstop : 0 < v ∨ (v = 0 ∧ f ≠ 0)
      · have hl : S.look r = (S, true) := by
          have := HSC2.out
          rw [if_pos hstop] at this
          unfold SS.look; rw [← this]
        have HLK := Lib.hid hl
        clear hl
        rcases hstop with h0 | ⟨rfl, hf0⟩
        · go_wp2_with (first
            | (go_at_call 75; refine (lit_any _ _ _ (HA.out.sm ⟨q0, rfl⟩)).mono ?_; rintro e w' ⟨rfl, q1, rfl⟩; rw [HX.out])
            | (go_at_call 39; refine (value_any _ _ (HT.out.sm ⟨q0 + q1, rfl⟩)).mono ?_; rintro e w' ⟨rfl, q2, rfl⟩; rw [HV.out]))
          go_ret
          rw [HLK.out]
          exact ⟨rfl, o, H.out.sm ⟨_, rfl⟩, Fr.sm ⟨_, rfl⟩⟩
        · have hfb : ((f : Int) != 0) = true := by simpa using hf0
          go_wp2_with (first
            | (go_at_call 75; refine (lit_any _ _ _ (HA.out.sm ⟨q0, rfl⟩)).mono ?_; rintro e w' ⟨rfl, q1, rfl⟩; rw [HX.out])
            | (go_at_call 39; refine (value_any _ _ (HT.out.sm ⟨q0 + q1, rfl⟩)).mono ?_; rintro e w' ⟨rfl, q2, rfl⟩; rw [HV.out]))
          go_ret
          rw [HLK.out]
          exact ⟨rfl, o, H.out.sm ⟨_, rfl⟩, Fr.sm ⟨_, rfl⟩⟩
      · have hsc3 := HSC2.out
        rw [if_neg hstop] at hsc3
        have HSC3 := Lib.hid hsc3
        clear hsc3
        by_cases hv0 : v = 0
        · have hf0 : f = 0 := by omega
          subst hv0
          subst hf0
          clear hstop
          go_wp2_with (first
            | (go_at_call 75; refine (lit_any _ _ _ (HA.out.sm ⟨q0, rfl⟩)).mono ?_; rintro e w' ⟨rfl, q1, rfl⟩; rw [HX.out])
            | (go_at_call 39; refine (value_any _ _ (HT.out.sm ⟨q0 + q1, rfl⟩)).mono ?_; rintro e w' ⟨rfl, q2, rfl⟩; rw [HV.out]))
          go_roundg k'
          case measure => omega
          case rel =>
            exact ⟨⟨_, rfl⟩, x, i + 1, rfl, rfl, by rw [HLEN.out]; omega, by have := HSC3.out; simpa using this, .inr HMEM.out⟩
        · have hvn : v < 0 := by omega
          have hvb : ((v : Int) == 0) = false := by simpa using hv0
          clear hstop hv0
          go_wp2_with (first
            | (go_at_call 75; refine (lit_any _ _ _ (HA.out.sm ⟨q0, rfl⟩)).mono ?_; rintro e w' ⟨rfl, q1, rfl⟩; rw [HX.out])
            | (go_at_call 39; refine (value_any _ _ (HT.out.sm ⟨q0 + q1, rfl⟩)).mono ?_; rintro e w' ⟨rfl, q2, rfl⟩; rw [HV.out]))
          go_roundg k'
          case measure => omega
          case rel =>
            exact ⟨⟨_, rfl⟩, f, i + 1, rfl, rfl, by rw [HLEN.out]; omega, by have := HSC3.out; rw [if_neg (show ¬ v = 0 by omega)] at this; exact this, HFM.out⟩
end
end Go.Proofs.Ytpjiemffkkfbkaa
