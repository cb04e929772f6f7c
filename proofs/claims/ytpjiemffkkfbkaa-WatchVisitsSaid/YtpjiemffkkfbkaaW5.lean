/- The walk of the propagator's visit. -/
import Derived.Test.YtpjiemffkkfbkaaW4
import Derived.Deep.CutRange
namespace Go.Proofs.Ytpjiemffkkfbkaa
open Go.RowKit

theorem has_is {w : World} {o : Own} {ab : Nat} {A : AS} {wv : Value} {mb : Nat} {r : Int} {b : Bool} (hb : A.has r = b) (h : ArAt w o ab A wv mb) :
    Calls Try.prog 57 #[.pointer (some ⟨ab, 0, none⟩), .int .i64 r] w fun e w' => e = .returned (.bool b) ∧ Sm w w' := by
  rw [← hb]; exact Calls.ofEq (has_any r w h)
theorem value_is {w : World} {o : Own} {tb : Nat} {T : TS} {vb : Nat} {lv sv : Value} {l v : Int} (hv : T.value l = v) (h : TrAt w o tb T vb lv sv) :
    Calls Try.prog 39 #[.pointer (some ⟨tb, 0, none⟩), .int .i64 l] w fun e w' => e = .returned (.int .i64 v) ∧ Sm w w' := by
  rw [← hv]; exact value_any l w h

theorem lit_is {w : World} {o : Own} {ab : Nat} {A : AS} {wv : Value} {mb : Nat} {r i l : Int} (hl : A.lit r i = l) (h : ArAt w o ab A wv mb) :
    Calls Try.prog 75 #[.pointer (some ⟨ab, 0, none⟩), .int .i64 r, .int .i64 i] w fun e w' => e = .returned (.int .i64 l) ∧ Sm w w' := by
  rw [← hl]; exact lit_any r i w h

/-- What the loop of visit keeps. -/
structure OtherRel (w0 : World) (val : Int → Int) (L : List Int) (k : Nat) (i : Value) (wr : World) : Prop where
  sm : Sm w0 wr
  st : ∃ i' : Nat, i = .int .i64 i' ∧ i' + k = L.length ∧ 2 ≤ i' ∧ SS.other val L k i' = SS.other val L (L.length - 2) 2

section
variable {o : Own} {ab tb wb lb : Nat} {lvs : List Value} {S : SS}

set_option maxHeartbeats 1000000 in
set_option maxRecDepth 100000 in
theorem visit_any (at_ i n cap lg : Nat) (f : Int) (w : World) (h : Sys w o ab tb wb lb lvs S) (hv : lvs[at_]? = some (.slice (some ⟨lg, 0, none⟩) n cap)) (hi : i < (S.W.lists.getD at_ []).length)
    (hat : at_ = ix f) (hff : S.T.value f < 0) (hf0 : f ≠ 0) (hb : S.T.ok (SS.wx S.W at_ i).bl = true) (h2 : S.A.has (SS.wx S.W at_ i).ref = true → 2 ≤ S.A.len (SS.wx S.W at_ i).ref) (hA : ∀ l ∈ S.A.lits (SS.wx S.W at_ i).ref, S.T.ok l = true)
    (hn : S.W.lists.length = 2 * S.T.vars.length) (hlen : ∀ j, (S.W.lists.getD j []).length ≤ 1000000000) :
    Calls Try.prog 81 #[.pointer (some ⟨wb, 0, none⟩), .pointer (some ⟨lg, i * 3, none⟩), .int .i64 f] w fun e w' => e = .returned (.int .i64 (S.visit at_ i f).2.num) ∧ VisitPost o w ab tb wb lb lvs at_ (S.visit at_ i f).1 w' := by
  have c0 := h.c0
  have c1 := h.c1
  have c5 := h.c5
  have f5 := h.f 5
  have H := Lib.hid h
  have HV := Lib.hid hv
  obtain ⟨S1, hS1⟩ : ∃ S1 : SS, S1 = { S with W := { S.W with visits := w64 (S.W.visits + 1) } } := ⟨_, rfl⟩
  obtain ⟨x, hx⟩ : ∃ x, x = SS.wx S.W at_ i := ⟨_, rfl⟩
  have hx1 : SS.wx S1.W at_ i = x := by rw [hx, hS1]; rfl
  have hi1 : i < (S1.W.lists.getD at_ []).length := by rw [hS1]; exact hi
  have hT1 : S1.T = S.T := by rw [hS1]
  have hA1 : S1.A = S.A := by rw [hS1]
  have hvis : S.visit at_ i f = if !S1.A.has x.ref then (S1, .goes) else if 0 < S1.T.value x.bl then (S1, .stays) else if x.bin then S1.unit x.bl x.ref else (S1.turn x f).visit3 at_ i x := by
    unfold SS.visit; rw [hS1, hx]
  have hn1 : S1.W.lists.length = 2 * S1.T.vars.length := by rw [hS1]; exact hn
  have hlen1 : ∀ j, (S1.W.lists.getD j []).length ≤ 1000000000 := by rw [hS1]; exact hlen
  rw [← hx, ← hT1] at hb
  rw [← hx, ← hA1] at h2 hA
  rw [← hT1] at hA hff
  have hw64 : (S.W.visits + 1 + 9223372036854775808) % 18446744073709551616 - 9223372036854775808 = w64 (S.W.visits + 1) := rfl
  have HS1 := Lib.hid hS1
  have HVIS := Lib.hid hvis
  have HN1 := Lib.hid hn1
  have HL1 := Lib.hid hlen1
  have HFF := Lib.hid hff
  have HB := Lib.hid hb
  have H2 := Lib.hid h2
  have HA := Lib.hid hA
  have HX := Lib.hid hx1
  have HI := Lib.hid hi1
  have HAT := Lib.hid hat
  clear h hv hS1 hx hx1 hi hi1 hT1 hA1 hvis hn hn1 hlen hlen1 hff hb h2 hA hat
  go_enter Try.func81, Try.ntmps81
  go_wp2
  have hs1 : Sys (w.setCell ⟨wb, 5, none⟩ (.int .i64 (wrap64 (S.W.visits + 1)))) o ab tb wb lb lvs S1 ∧ Fr sysS o o w (w.setCell ⟨wb, 5, none⟩ (.int .i64 (wrap64 (S.W.visits + 1)))) := by
    have e : wrap64 (S.W.visits + 1) = w64 (S.W.visits + 1) := by unfold wrap64 w64; rfl
    rw [HS1.out, e]; exact H.out.setVisits (w64 (S.W.visits + 1))
  obtain ⟨hs1, hf1⟩ := hs1
  generalize hw1 : w.setCell ⟨wb, 5, none⟩ (.int .i64 (wrap64 (S.W.visits + 1))) = w1 at *
  have HF1 := Lib.hid hf1
  have hvw : S.W.visits = S.W.visits := rfl
  clear hw1 H c0 c1 c5 f5 HS1 hw64 hf1 hvw
  have c0 := hs1.c0
  have c1 := hs1.c1
  obtain ⟨cr, cb, cn, cf, _, _, _⟩ := hs1.watchAt HV.out HI.out
  rw [HX.out] at cr cb cn
  obtain ⟨wv, mb, ha⟩ := hs1.ar
  obtain ⟨vb, lv, sv, ht⟩ := hs1.tr
  have HS1 := Lib.hid hs1
  have HA1 := Lib.hid ha
  have HT1 := Lib.hid ht
  clear hs1 ha ht
  cases x with | mk xr xb xn =>
  simp only at cr cb cn
  by_cases hh : S1.A.has xr = true
  case neg =>
    have hhf : S1.A.has xr = false := by simpa using hh
    have hr : S.visit at_ i f = (S1, .goes) := by rw [HVIS.out]; simp [hhf]
    have HR := Lib.hid hr
    clear hr hh
    go_quiet ((go_at_call 57; exact quietS (has_is hhf (HA1.out.sm ⟨_, rfl⟩))))
    go_wp2
    go_ret
    rw [HR.out]
    exact ⟨rfl, SysPost.visit ⟨o, HS1.out.sm ⟨_, rfl⟩, HF1.out.trans (Fr.sm ⟨_, rfl⟩)⟩⟩
  case pos =>
    have hv1 := HVIS.out
    simp only [hh, Bool.not_true, Bool.false_eq_true, if_false] at hv1
    have h2 := H2.out hh
    simp only at h2
    have HV1 := Lib.hid hv1
    have H2L := Lib.hid h2
    clear hv1 h2 HVIS H2
    generalize hval : S1.T.value xb = v at *
    have HVAL := Lib.hid hval
    clear hval
    go_quiet ((go_at_call 57; exact quietS (has_is hh (HA1.out.sm ⟨_, rfl⟩))))
    go_wp2
    by_cases hv0 : 0 < v
    case pos =>
      have hr : S.visit at_ i f = (S1, .stays) := by rw [HV1.out, if_pos hv0]
      have HR := Lib.hid hr
      clear hr
      go_quiet ((go_at_call 39; exact quietA (value_is HVAL.out (HT1.out.sm ⟨_, rfl⟩))))
      rw [World.drewN_drewN]
      go_wp2
      go_ret
      rw [HR.out]
      exact ⟨rfl, SysPost.visit ⟨o, HS1.out.sm ⟨_, rfl⟩, HF1.out.trans (Fr.sm ⟨_, rfl⟩)⟩⟩
    case neg =>
      have hv2 := HV1.out
      rw [if_neg hv0] at hv2
      have HV2 := Lib.hid hv2
      clear hv2 HV1
      have hv3 : v ≤ 0 := by omega
      go_quiet ((go_at_call 39; exact quietA (value_is HVAL.out (HT1.out.sm ⟨_, rfl⟩))))
      rw [World.drewN_drewN]
      cases xn with
      | true =>
        have hr : S.visit at_ i f = S1.unit xb xr := by rw [HV2.out]; rfl
        have HR := Lib.hid hr
        clear hr HV2
        go_wp2
        go_region_with (go_at_call 91; refine (unit_any _ _ _ (HS1.out.sm (Sm.trans ⟨_, rfl⟩ (Sm.drew _))) HB.out).mono ?_; rintro e w2 ⟨rfl, HP⟩)
        all_goals
          go_wp2
          go_ret
          rw [HR.out]
          exact ⟨rfl, SysPost.visit ((HP.after (Sm.trans ⟨_, rfl⟩ (Sm.drew _))).trans HF1.out)⟩
      | false =>
        have hv4 := HV2.out
        simp only [Bool.false_eq_true, if_false] at hv4
        have HV4 := Lib.hid hv4
        clear hv4 HV2
        go_wp2
        go_quiet ((go_at_call 75; exact quietA (lit_any _ _ _ (HA1.out.sm ⟨_, rfl⟩))))
        rw [World.drewN_drewN]
        obtain ⟨S2, hS2⟩ : ∃ S2 : SS, S2 = S1.turn ⟨xr, xb, false⟩ f := ⟨_, rfl⟩
        have hlen0 : 0 < S1.A.len xr := by have := H2L.out; omega
        have hlen1 : 1 < S1.A.len xr := by have := H2L.out; omega
        have HLE0 := Lib.hid hlen0
        have HLE1 := Lib.hid hlen1
        have HS2 := Lib.hid hS2
        clear hS2 hlen0 hlen1
        go_upto_if 64 with fail
        go_cut [] from 54 to 73 (fun wx => ∃ o2, Sys wx o2 ab tb wb lb lvs S2 ∧ Fr sysS o o2 w1 wx)
        case first =>
          by_cases ht : S1.A.lit xr 0 = f
          · go_wp2
            go_region_with (go_at_call 86; refine (swap_yes xr 0 1 _ (HA1.out.sm (Sm.trans ⟨_, rfl⟩ (Sm.drew _))) (HS1.out.cl.sm (Sm.trans ⟨_, rfl⟩ (Sm.drew _))) HLE0.out HLE1.out (lit_ne HA.out HLE0.out) (lit_ne HA.out HLE1.out)).mono ?_; rintro e w2 ⟨rfl, HP⟩)
            all_goals
              go_wp2_with fail
              go_meet
              case rel =>
                have e2 : S2 = { S1 with A := S1.A.swap xr 0 1 } := by rw [HS2.out]; unfold SS.turn; rw [if_pos ht]
                rw [e2]
                obtain ⟨o2, h2, hf2⟩ := ((HS1.out.sm (Sm.trans ⟨_, rfl⟩ (Sm.drew _))).arena HP).after (Sm.trans ⟨_, rfl⟩ (Sm.drew _))
                exact ⟨o2, h2, hf2⟩
          · have hte : (S1.A.lit xr 0 == f) = false := by simpa using ht
            go_wp2
            go_meet
            case rel =>
              have e2 : S2 = S1 := by rw [HS2.out]; unfold SS.turn; rw [if_neg ht]
              rw [e2]
              exact ⟨o, HS1.out.sm ⟨_, rfl⟩, Fr.sm ⟨_, rfl⟩⟩
        case rest =>
          obtain ⟨o2, hs2, hf2⟩ := hcut
          generalize hwy : wc = wy at *
          clear hwy
          have hT2 : S2.T = S1.T := by rw [HS2.out]; unfold SS.turn; split <;> rfl
          have hW2 : S2.W = S1.W := by rw [HS2.out]; unfold SS.turn; split <;> rfl
          have hl2 : S2.A.len xr = S1.A.len xr := by rw [HS2.out]; unfold SS.turn; split; exact SS.len_swap _ _ _ _ _; rfl
          have hle2 : 2 ≤ S2.A.len xr := by rw [hl2]; exact H2L.out
          have hok2 : ∀ l ∈ S2.A.lits xr, S2.T.ok l = true := by
            intro l hl
            rw [hT2]
            refine HA.out l ?_
            rw [HS2.out] at hl
            unfold SS.turn at hl
            split at hl
            · exact SS.lits_swap_mem HLE0.out HLE1.out hl
            · exact hl
          have hn2 : S2.W.lists.length = 2 * S2.T.vars.length := by rw [hW2, hT2]; exact HN1.out
          have hlen2 : ∀ j, (S2.W.lists.getD j []).length ≤ 1000000000 := by rw [hW2]; exact HL1.out
          have hi2 : i < (S2.W.lists.getD at_ []).length := by rw [hW2]; exact HI.out
          have hx2 : SS.wx S2.W at_ i = ⟨xr, xb, false⟩ := by rw [hW2]; exact HX.out
          have hff2 : S2.T.value f < 0 := by rw [hT2]; exact HFF.out
          have hv2 : S.visit at_ i f = S2.visit3 at_ i ⟨xr, xb, false⟩ := by rw [HV4.out, HS2.out]
          have HF2 : Hid (Fr sysS o o2 w wy) := HF1.out.trans hf2
          clear HV4 HS2 HLE0 HLE1 H2L HA HN1 HL1 HI HX HFF HF1 HS1 HA1 HT1 HB HVAL c0 c1 cr cb cn cf hT2 hW2 hl2 hf2 hv3 hv0
          have c0 := hs2.c0
          have c1 := hs2.c1
          obtain ⟨cr, cb, cn, cf, _, _, _⟩ := hs2.watchAt HV.out hi2
          rw [hx2] at cr cb cn
          simp only at cr cb cn
          obtain ⟨wv, mb, ha⟩ := hs2.ar
          obtain ⟨vb, lv, sv, ht⟩ := hs2.tr
          have HS2 := Lib.hid hs2
          have HA2 := Lib.hid ha
          have HT2 := Lib.hid ht
          have HL2 := Lib.hid hle2
          have HOK2 := Lib.hid hok2
          have HN2 := Lib.hid hn2
          have HLN2 := Lib.hid hlen2
          have HI2 := Lib.hid hi2
          have HX2 := Lib.hid hx2
          have HFF2 := Lib.hid hff2
          have HV2 := Lib.hid hv2
          clear hs2 ha ht hle2 hok2 hn2 hlen2 hi2 hx2 hff2 hv2
          go_wp2
          generalize hfi : S2.A.lit xr 0 = a at *
          have HFI := Lib.hid hfi
          clear hfi
          go_quiet ((go_at_call 75; exact quietS (lit_is HFI.out (HA2.out.sm ⟨_, rfl⟩))))
          generalize hvf : S2.T.value a = va at *
          have HVF := Lib.hid hvf
          clear hvf
          by_cases hp : 0 < va
          · have hr : S.visit at_ i f = ({ S2 with W := SS.setW S2.W at_ i { SS.wx S2.W at_ i with bl := a } }, .stays) := by
              rw [HV2.out, HX2.out]; unfold SS.visit3; simp only [HFI.out, HVF.out, if_pos hp]
            have HR := Lib.hid hr
            have cb2 : (wy.cell? ⟨lg, i * 3 + 1, none⟩).isSome = true := by rw [cb]; rfl
            have cf1 := cf (i * 3 + 1)
            clear hr HV2
            go_wp2_with (go_at_call 39; refine (value_is HVF.out (HT2.out.sm ⟨_, rfl⟩)).mono ?_; rintro e w' ⟨rfl, q, rfl⟩)
            go_ret
            rw [HR.out]
            exact ⟨rfl, SysPost.visit (((((HS2.out.sm ⟨_, rfl⟩).setBl HV.out HI2.out a).after ⟨_, rfl⟩).trans HF2.out))⟩
          · have hra : ∀ j : Nat, SS.other S2.T.value (S2.A.lits xr) (S2.A.len xr - 2) 2 = some j → S.visit at_ i f = ({ S2 with A := S2.A.swap xr 1 j, W := SS.addW S2.W (S2.A.lit xr j) ⟨xr, a, false⟩ }, .goes) := by
              intro j hj; rw [HV2.out]; unfold SS.visit3; simp only [HFI.out, HVF.out, if_neg hp, hj]
            have hrb : SS.other S2.T.value (S2.A.lits xr) (S2.A.len xr - 2) 2 = none → S.visit at_ i f = S2.unit a xr := by
              intro hj; rw [HV2.out]; unfold SS.visit3; simp only [HFI.out, HVF.out, if_neg hp, hj]
            have HRA := Lib.hid hra
            have HRB := Lib.hid hrb
            clear hra hrb HV2
            have hp2 : va ≤ 0 := by omega
            have hle := HA2.out.lenle xr
            have hlenl : (S2.A.lits xr).length = S2.A.len xr := rfl
            have HLEN := Lib.hid hlenl
            have h2l := HL2.out
            clear hlenl
            go_wp2_with (go_at_call 39; refine (value_is HVF.out (HT2.out.sm ⟨_, rfl⟩)).mono ?_; rintro e w' ⟨rfl, q, rfl⟩)
            generalize hqq : nq + q = q1 at *
            clear hqq
            go_loopg [8, 9] (S2.A.len xr - 2) (fun k j _ wr => OtherRel wy S2.T.value (S2.A.lits xr) k j wr)
            case atStart => exact ⟨⟨_, rfl⟩, 2, rfl, by rw [HLEN.out]; omega, by omega, by rw [HLEN.out]⟩
            case round =>
              obtain ⟨⟨q0, rfl⟩, j, rfl, hjk, hj2, hoth⟩ := hrel
              rw [HLEN.out] at hjk hoth
              have HO := Lib.hid hoth
              clear hoth
              have hj1 : (j : Int) ≤ 1000000000 := by omega
              by_cases hk : gk = 0
              · subst hk
                have hil : (S2.A.len xr : Int) ≤ (j : Int) := by omega
                have hr : S.visit at_ i f = S2.unit a xr := HRB.out (by rw [← HO.out]; rfl)
                have HR := Lib.hid hr
                clear hr HRA HRB
                have HOKA : Hid (S2.T.ok a = true) := by show _ = _; rw [← HFI.out]; exact lit_ok (i := 0) HOK2.out (by have := HL2.out; omega)
                go_wp2
                go_quiet ((go_at_call 73; exact quietA (alen_any _ _ (HA2.out.sm ⟨_, rfl⟩))))
                rw [World.drewN_drewN]
                go_wp2_with (go_at_call 91; refine (unit_any _ _ _ (HS2.out.sm ⟨_, rfl⟩) HOKA.out).mono ?_; rintro e w2 ⟨rfl, HP⟩)
                go_ret
                rw [HR.out]
                exact ⟨rfl, SysPost.visit ((HP.after ⟨_, rfl⟩).trans HF2.out)⟩
              · have hil : (j : Int) < (S2.A.len xr : Int) := by omega
                obtain ⟨k', rfl⟩ : ∃ k', gk = k' + 1 := ⟨gk - 1, by omega⟩
                have hjl : j < S2.A.len xr := by omega
                have hlj : (S2.A.lits xr).getD j 0 = S2.A.lit xr j := (lit_nat _ _ _ hjl).symm
                have hoj : S2.T.ok (S2.A.lit xr j) = true := lit_ok HOK2.out hjl
                have hstep : (if 0 ≤ S2.T.value ((S2.A.lits xr).getD j 0) then some j else SS.other S2.T.value (S2.A.lits xr) k' (j + 1)) = SS.other S2.T.value (S2.A.lits xr) (S2.A.len xr - 2) 2 := HO.out
                rw [hlj] at hstep
                generalize hc : S2.A.lit xr j = c at *
                generalize hvc : S2.T.value c = vc at *
                have HST := Lib.hid hstep
                have HC := Lib.hid hc
                have HVC := Lib.hid hvc
                have HOJ := Lib.hid hoj
                have HJL := Lib.hid hjl
                clear hstep hc hvc hlj hoj hjl HO
                go_wp2
                go_quiet ((go_at_call 73; exact quietA (alen_any _ _ (HA2.out.sm ⟨_, rfl⟩))))
                rw [World.drewN_drewN]
                go_wp2
                go_quiet ((go_at_call 75; exact quietA (lit_is HC.out (HA2.out.sm ⟨_, rfl⟩))))
                rw [World.drewN_drewN]
                by_cases hcv : 0 ≤ vc
                · have hoth : SS.other S2.T.value (S2.A.lits xr) (S2.A.len xr - 2) 2 = some j := by
                    have := HST.out; rw [if_pos hcv] at this; exact this.symm
                  have hr := HRA.out j hoth
                  rw [HC.out] at hr
                  have HR := Lib.hid hr
                  clear hr hoth HRA HRB HST
                  have HLE1 : Hid (1 < S2.A.len xr) := by show _ < _; have := HL2.out; omega
                  go_wp2_with (go_at_call 39; refine (value_is HVC.out (HT2.out.sm ⟨_, rfl⟩)).mono ?_; rintro e w' ⟨rfl, q, rfl⟩)
                  generalize hqq : q0 + nq + nq + q = qq at *
                  go_cut [] from 124 to 133 (fun wx => ∃ o3, Sys wx o3 ab tb wb lb lvs { S2 with A := S2.A.swap xr 1 j } ∧ Fr sysS o2 o3 wy wx)
                  case first =>
                    go_region_with (go_at_call 86; refine (swap_yes xr 1 j _ (HA2.out.sm (Sm.trans ⟨_, rfl⟩ (Sm.drew _))) (HS2.out.cl.sm (Sm.trans ⟨_, rfl⟩ (Sm.drew _))) HLE1.out HJL.out (lit_ne (i := 1) HOK2.out HLE1.out) (lit_ne HOK2.out HJL.out)).mono ?_; rintro e w2 ⟨rfl, HP⟩)
                    all_goals
                      go_wp2_with fail
                      go_meet
                      case rel =>
                        obtain ⟨o3, h3, hf3⟩ := ((HS2.out.sm (Sm.trans ⟨_, rfl⟩ (Sm.drew _))).arena HP).after (Sm.trans ⟨_, rfl⟩ (Sm.drew _))
                        exact ⟨o3, h3, hf3⟩
                  case rest =>
                    obtain ⟨o3, hs3, hf3⟩ := hcut
                    have c0' := hs3.c0
                    obtain ⟨cr', _, _, _, _, _, _⟩ := hs3.watchAt HV.out HI2.out
                    simp only at cr'
                    rw [HX2.out] at cr'
                    simp only at cr'
                    have HS3 := Lib.hid hs3
                    have HF3 := Lib.hid hf3
                    clear hs3 hf3
                    have HNV : Hid (S2.T.vars.length ≤ 100000) := HT2.out.nle
                    have HLX : Hid ((S2.W.lists.getD (ix c) []).length ≤ 1000000000) := HLN2.out _
                    have HIX : Hid (ix c ≠ at_) := by
                      show _ ≠ _
                      intro e
                      have hc0 := HOJ.out
                      unfold TS.ok at hc0
                      rw [litIn_iff] at hc0
                      have := ix_inj hc0.1 hf0 (e.trans HAT.out)
                      subst this
                      have h1 := HVC.out
                      have h2 := HFF2.out
                      omega
                    go_wp2_with (go_at_call 76; refine (add_any c ⟨xr, a, false⟩ _ HS3.out HOJ.out HN2.out HNV.out HLX.out).mono ?_; rintro e w4 ⟨rfl, v4, HP4⟩)
                    go_ret
                    rw [HR.out]
                    exact ⟨rfl, _, List.getElem?_set_ne HIX.out, (HP4.trans HF3.out).trans HF2.out⟩
                · have hcv2 : vc < 0 := by omega
                  go_wp2_with (go_at_call 39; refine (value_is HVC.out (HT2.out.sm ⟨_, rfl⟩)).mono ?_; rintro e w' ⟨rfl, q, rfl⟩)
                  go_roundg k'
                  case measure => omega
                  case rel =>
                    have hs := HST.out
                    rw [if_neg (by omega)] at hs
                    exact ⟨⟨_, rfl⟩, j + 1, rfl, by rw [HLEN.out]; omega, by omega, by rw [HLEN.out]; exact hs⟩
end
end Go.Proofs.Ytpjiemffkkfbkaa
