/- The walk of the propagator's fell. -/
import Derived.Test.YtpjiemffkkfbkaaW6
namespace Go.Proofs.Ytpjiemffkkfbkaa
open Go.RowKit

/-- What the loop of fell keeps. -/
structure FellRel (o : Own) (w : World) (ab tb wb lb k : Nat) (v : Value) (f : Int) (len : Nat) (R : SS × Option Int) (gk : Nat) (n i : Value) (wr : World) : Prop where
  st : ∃ (o' : Own) (lvs' : List Value) (S' : SS) (n' i' : Nat), n = .int .i64 n' ∧ i = .int .i64 i' ∧ Sys wr o' ab tb wb lb lvs' S' ∧ Fr sysS o o' w wr ∧ lvs'[k]? = some v ∧ S'.Safe ∧
    S'.T.value f < 0 ∧ n' ≤ i' ∧ i' + gk = len ∧ (S'.W.lists.getD k []).length = len ∧ tot S'.W.lists ≤ 400000000 + (i' - n') ∧ SS.fellGo k f gk i' n' S' = R

section
variable {o : Own} {ab tb wb lb : Nat} {lvs : List Value} {S : SS}

def fellE (R : SS × Option Int) : Ending := .returned (.tuple #[.int .i64 (R.2.getD 0), .bool R.2.isNone])

set_option maxHeartbeats 1000000 in
set_option maxRecDepth 100000 in
theorem fell_nil (f : Int) (w : World) (h : Sys w o ab tb wb lb lvs S) (hs : S.Safe) (hok : S.T.ok f = true) (hff : S.T.value f < 0) (ht : tot S.W.lists ≤ 400000000) (hlen : (S.W.lists.getD (ix f) []).length = 0) :
    Calls Try.prog 59 #[.pointer (some ⟨wb, 0, none⟩), .int .i64 f] w fun e w' => e = fellE (S.fell f) ∧ SysTurn o w ab tb wb lb (S.fell f).1 w' := by
  have hok2 := hok
  unfold TS.ok at hok2
  have hix := ix_lt hok2
  rw [← hs.lists] at hix
  rw [litIn_iff] at hok2
  obtain ⟨hl0, hl1, hl2⟩ := hok2
  obtain ⟨pv, hw⟩ := h.wt
  obtain ⟨vb, lv, sv, htr⟩ := h.tr
  have hnle := htr.nle
  have c2 := hw.c2
  obtain ⟨v, hv, cv, fv⟩ := hw.lst hix
  have hrow := hw.rows _ _ hv
  obtain ⟨va, vcap, rfl⟩ := hrow.form
  have hixn : ((ix f : Nat) : Int) < (S.W.lists.length : Int) := by omega
  obtain ⟨R, hR⟩ : ∃ R, R = S.fell f := ⟨_, rfl⟩
  rw [← hR]
  have H := Lib.hid h
  have HR := Lib.hid hR
  have HROW := Lib.hid hrow
  have HV := Lib.hid hv
  have HS := Lib.hid hs
  have HOK := Lib.hid hok
  have HFF := Lib.hid hff
  have HT := Lib.hid ht
  clear h hR hrow hv hs hok hff ht hw htr
  generalize hk : ix f = k at *
  have HK := Lib.hid hk
  clear hk
  have hr : R = ({ S with W := { S.W with lists := S.W.lists.set k ((S.W.lists.getD k []).take 0) } }, none) := by
    rw [HR.out]; unfold SS.fell; rw [HK.out, hlen]; rfl
  have HR2 := Lib.hid hr
  clear hr HR
  have hrow0 : Row w o (100 + k) 111 3 (.slice va 0 vcap) ([] : List Wx).length (encW []) := by
    have := HROW.out
    rw [hlen, List.eq_nil_of_length_eq_zero hlen] at this
    exact this
  have HROW0 := Lib.hid hrow0
  rw [hlen] at cv HV
  have hva : (va = none ∧ vcap = 0) ∨ ∃ g, va = some ⟨g, 0, none⟩ := by
    rcases hrow0.1.2 with ⟨e, _⟩ | ⟨g, cap, cur, e, _⟩
    · simp only [Value.slice.injEq] at e; exact .inl ⟨e.1, e.2.2⟩
    · simp only [Value.slice.injEq] at e; exact .inr ⟨g, e.1⟩
  have hfin : ∀ w1, Sm w w1 → SysTurn o w ab tb wb lb R.1 (w1.setCell ⟨lb, k, none⟩ (.slice va 0 vcap)) := by
    intro w1 hw1
    rw [HR2.out]
    refine ⟨lvs.set k (.slice va 0 vcap), SysPost.after hw1 ((H.out.sm hw1).setHead (H.out.hk HV.out) ?_)⟩
    exact Row.keeps (S := fun _ => False) HROW0.out (Fr.sm hw1) id
  have HFIN := Lib.hid hfin
  have hRe : fellE R = .returned (.tuple #[.int .i64 0, .bool true]) := by rw [HR2.out]; rfl
  have HRE := Lib.hid hRe
  clear HROW hlen hrow0 hfin HR2 HROW0 H HS HOK HFF HT HV hRe
  go_enter Try.func59, Try.ntmps59
  go_wp2_with (go_at_call 80; refine (index_any _ _ (by omega)).mono ?_; rintro e w' ⟨rfl, rfl⟩; rw [HK.out])
  go_loopg [8, 9, 21] 0 (fun gk n _ i wr => n = .int .i64 0 ∧ i = .int .i64 0 ∧ wr = w)
  case atStart => exact ⟨rfl, rfl, rfl⟩
  case round =>
    obtain ⟨rfl, rfl, rfl⟩ := hrel
    rcases hva with ⟨rfl, rfl⟩ | ⟨g, rfl⟩
    · go_wp2
      go_region
      all_goals
        go_wp2
        go_ret2
        rw [HRE.out]
        exact ⟨rfl, HFIN.out _ (Sm.drew _)⟩
    · go_wp2
      go_region
      all_goals
        go_wp2
        go_ret2
        rw [HRE.out]
        exact ⟨rfl, HFIN.out _ (Sm.drew _)⟩

set_option maxHeartbeats 1000000 in
set_option maxRecDepth 100000 in
theorem fell_some (f : Int) (w : World) (h : Sys w o ab tb wb lb lvs S) (hs : S.Safe) (hok : S.T.ok f = true) (hff : S.T.value f < 0) (ht : tot S.W.lists ≤ 400000000) (hlen : ¬ (S.W.lists.getD (ix f) []).length = 0) :
    Calls Try.prog 59 #[.pointer (some ⟨wb, 0, none⟩), .int .i64 f] w fun e w' => e = fellE (S.fell f) ∧ SysTurn o w ab tb wb lb (S.fell f).1 w' := by
  have hok2 := hok
  unfold TS.ok at hok2
  have hix := ix_lt hok2
  rw [← hs.lists] at hix
  rw [litIn_iff] at hok2
  obtain ⟨hl0, hl1, hl2⟩ := hok2
  obtain ⟨pv, hw⟩ := h.wt
  obtain ⟨vb, lv, sv, htr⟩ := h.tr
  have hnle := htr.nle
  have c2 := hw.c2
  obtain ⟨v, hv, cv, fv⟩ := hw.lst hix
  have hrow := hw.rows _ _ hv
  obtain ⟨va, vcap, rfl⟩ := hrow.form
  have hixn : ((ix f : Nat) : Int) < (S.W.lists.length : Int) := by omega
  obtain ⟨R, hR⟩ : ∃ R, R = S.fell f := ⟨_, rfl⟩
  rw [← hR]
  have H := Lib.hid h
  have HR := Lib.hid hR
  have HROW := Lib.hid hrow
  have HV := Lib.hid hv
  have HS := Lib.hid hs
  have HOK := Lib.hid hok
  have HFF := Lib.hid hff
  have HT := Lib.hid ht
  clear h hR hrow hv hs hok hff ht hw htr
  generalize hk : ix f = k at *
  have HK := Lib.hid hk
  clear hk
  obtain ⟨lg, cap', e, hcap, _, hlg, _, _⟩ := Row.block HROW.out (by omega)
  simp only [Value.slice.injEq] at e
  obtain ⟨rfl, _, rfl⟩ := e
  generalize hL : (S.W.lists.getD k []).length = len at *
  have HL := Lib.hid hL
  have hlenb : len ≤ 400000000 := by have := tot_get S.W.lists k; have := HT.out; have := HL.out; omega
  clear hL
  go_enter Try.func59, Try.ntmps59
  go_wp2_with (go_at_call 80; refine (index_any _ _ (by omega)).mono ?_; rintro e w' ⟨rfl, rfl⟩; rw [HK.out])
  have cap64 : vcap ≤ maxLen := by
    rcases HROW.out.1.2 with ⟨e, _⟩ | ⟨g, cap, cur, e, _, _, _, h7, _⟩
    · simp at e
    · simp only [Value.slice.injEq] at e; rw [e.2.2]; exact h7
  go_loopg [8, 9, 21] len (fun gk n _ i wr => FellRel o w ab tb wb lb k (.slice (some ⟨lg, 0, none⟩) len vcap) f len R gk n i wr)
  case atStart =>
    refine ⟨o, lvs, S, 0, 0, rfl, rfl, H.out, Fr.refl _ _ _, HV.out, HS.out, HFF.out, Nat.le_refl _, by omega, HL.out, by have := HT.out; omega, ?_⟩
    rw [HR.out]; unfold SS.fell; rw [HK.out, HL.out]
  case round =>
    obtain ⟨o1, lvs1, S1, n, i, rfl, rfl, hs1, hf1, hv1, hsf1, hff1, hni, hik, hl1, ht1, hgo⟩ := hrel
    by_cases hg : gk = 0
    · subst hg
      have hr : R = ({ S1 with W := { S1.W with lists := S1.W.lists.set k ((S1.W.lists.getD k []).take n) } }, none) := hgo.symm
      have hil : (len : Int) ≤ (i : Int) := by omega
      have hnv : n ≤ vcap := by omega
      have hnl : (n : Int) ≤ (len : Int) := by omega
      obtain ⟨pv1, hw1⟩ := hs1.wt
      have c2' := hw1.c2
      obtain ⟨v', hv', cv', fv'⟩ := hw1.lst (hs1.hk hv1)
      rw [hv1] at hv'
      simp only [Option.some.injEq] at hv'
      subst hv'
      have hfin : ∀ w1, Sm wr w1 → SysTurn o w ab tb wb lb R.1 (w1.setCell ⟨lb, k, none⟩ (.slice (some ⟨lg, 0, none⟩) n vcap)) := by
        intro w1 hw1
        rw [hr]
        exact ⟨_, (((hs1.sm hw1).cutList hv1 hl1.symm (by omega)).after hw1).trans hf1⟩
      have hRe : fellE R = .returned (.tuple #[.int .i64 0, .bool true]) := by rw [hr]; rfl
      have hkk := hs1.hk hv1
      have hki : (k : Int) < (S1.W.lists.length : Int) := by omega
      have HFIN := Lib.hid hfin
      have HRE := Lib.hid hRe
      clear hs1 hf1 hsf1 hff1 hgo hl1 ht1 hr hfin hRe hw1 hv1 H HR HROW HV HS HOK HFF HT
      go_wp2
      go_region
      all_goals
        go_wp2
        go_ret2
        rw [HRE.out]
        exact ⟨rfl, HFIN.out _ (Sm.drew _)⟩
    · obtain ⟨g', rfl⟩ : ∃ g', gk = g' + 1 := ⟨gk - 1, by omega⟩
      have hil : (i : Int) < (len : Int) := by omega
      have hik2 : i < (S1.W.lists.getD k []).length := by omega
      have hmem := SS.wx_mem hik2
      obtain ⟨hb, h2⟩ := hsf1.wok k _ hmem
      have hlen1 : ∀ j, (S1.W.lists.getD j []).length ≤ 1000000000 := by
        intro j; have := tot_get S1.W.lists j; omega
      have hvis := SS.visit_ok hsf1 hik2 HK.out.symm hl0 hff1
      have hcall := visit_any k i len vcap lg f wr hs1 hv1 hik2 HK.out.symm hff1 hl0 hb h2 (hsf1.lits _) hsf1.lists hlen1
      have hstep : SS.fellGo k f (g' + 1) i n S1 = R := hgo
      unfold SS.fellGo at hstep
      cases hr : S1.visit k i f with
      | mk S2 out =>
        rw [hr] at hvis hcall hstep
        simp only at hvis hcall hstep
        have hff2 : S2.T.value f < 0 := by rw [hvis.step.puts.val (by omega)]; exact hff1
        have HVIS := Lib.hid hvis
        have HCALL := Lib.hid hcall
        have HST := Lib.hid hstep
        have HFF2 := Lib.hid hff2
        have HF1 := Lib.hid hf1
        have HT1 := Lib.hid ht1
        have HV1 := Lib.hid hv1
        have HL1 := Lib.hid hl1
        clear hs1 hf1 hsf1 hff1 hgo hl1 ht1 hv1 hmem hb h2 hlen1 hvis hcall hstep hff2 hr hik2
        cases out with
        | stays =>
          have hc := HCALL.out
          simp only [SS.Out.num] at hc
          have HC := Lib.hid hc
          clear hc HCALL
          go_wp2_with fail
          refine HC.out.mono ?_
          rintro e w2 ⟨rfl, lvs2, hv2, o2, hs2, hf2⟩
          have hv2' := hv2.trans HV1.out
          have hli2 : i < (S2.W.lists.getD k []).length := by rw [HVIS.out.len, HL1.out]; omega
          have hln2 : n < (S2.W.lists.getD k []).length := by rw [HVIS.out.len, HL1.out]; omega
          obtain ⟨cr, cb, cn, cf, -, -, -⟩ := hs2.watchAt hv2' hli2
          obtain ⟨nr, nb, nn, -, -, -, -⟩ := hs2.watchAt hv2' hln2
          have f0 := cf (n * 3)
          have f1 := cf (n * 3 + 1)
          have f2 := cf (n * 3 + 2)
          have HS2 := Lib.hid hs2
          have HF2 := Lib.hid hf2
          have HV2 := Lib.hid hv2'
          have HLI2 := Lib.hid hli2
          have HLN2 := Lib.hid hln2
          clear hs2 hf2 hv2 hv2' hli2 hln2 cf
          have hst := HST.out
          have hmx := SS.wx_mem HLI2.out
          generalize hx : SS.wx S2.W k i = x at *
          have HST := Lib.hid hst
          have HX := Lib.hid hx
          clear hst hx
          cases x with | mk xr xb xn =>
          simp only at cr cb cn
          go_wp2
          go_roundg g'
          case measure => omega
          case rel =>
            have ht := HVIS.out.tot
            rw [if_neg (by decide)] at ht
            have ht1 := HT1.out
            obtain ⟨hs3, hf3⟩ := HS2.out.setAt (x := ⟨xr, xb, xn⟩) HV2.out HLN2.out
            have ht3 := SS.tot_setW S2.W k n ⟨xr, xb, xn⟩
            have st : SS.Step S2 { S2 with W := SS.setW S2.W k n ⟨xr, xb, xn⟩ } := SS.Step.watch S2 (by simp [SS.setW])
            have sf : SS.Safe { S2 with W := SS.setW S2.W k n ⟨xr, xb, xn⟩ } := HVIS.out.safe.same st fun j x hx => by
              rcases SS.mem_setW hx with rfl | hx
              · exact ⟨k, hmx⟩
              · exact ⟨j, hx⟩
            refine ⟨o2, lvs2, { S2 with W := SS.setW S2.W k n ⟨xr, xb, xn⟩ }, n + 1, i + 1, rfl, rfl, hs3, (HF1.out.trans HF2.out).trans hf3, HV2.out, sf, HFF2.out, by omega, by omega, ?_, ?_, ?_⟩
            · exact (SS.len_setW ..).trans (HVIS.out.len.trans HL1.out)
            · simp only; omega
            · exact HST.out
        | goes =>
          have hc := HCALL.out
          simp only [SS.Out.num] at hc
          have HC := Lib.hid hc
          clear hc HCALL
          go_wp2_with (go_at_call 81; refine HC.out.mono ?_; rintro e w2 ⟨rfl, lvs2, hv2, o2, hs2, hf2⟩)
          go_roundg g'
          case measure => omega
          case rel =>
            have ht := HVIS.out.tot
            rw [if_pos rfl] at ht
            have ht1 := HT1.out
            exact ⟨o2, lvs2, S2, n, i + 1, rfl, rfl, hs2, HF1.out.trans hf2, hv2.trans HV1.out, HVIS.out.safe, HFF2.out, by omega, by omega, HVIS.out.len.trans HL1.out, by omega, HST.out⟩
        | clashes =>
          have hc := HCALL.out
          simp only [SS.Out.num] at hc
          have HC := Lib.hid hc
          clear hc HCALL
          go_wp2_with fail
          refine HC.out.mono ?_
          rintro e w2 ⟨rfl, lvs2, hv2, o2, hs2, hf2⟩
          have hv2' := hv2.trans HV1.out
          have hl2 : (S2.W.lists.getD k []).length = len := HVIS.out.len.trans HL1.out
          have hr2 := hs2.row hv2'
          have HS2 := Lib.hid hs2
          have HF2 := Lib.hid hf2
          have HV2 := Lib.hid hv2'
          have HL2 := Lib.hid hl2
          have HR2 := Lib.hid hr2
          clear hs2 hf2 hv2 hv2' hl2 hr2
          have hnc : ¬ vcap = n := by omega
          have hic : ¬ vcap = i := by omega
          have hnl : (n : Int) ≤ (len : Int) := by omega
          have hnlt : n ≤ len := by omega
          have hilt : i ≤ len := by omega
          have hni2 : n ≤ i := hni
          have hs : i < len := by omega
          go_wp2
          obtain ⟨m, hm⟩ : ∃ m, m = len - i := ⟨_, rfl⟩
          have hm1 : m + i = len := by omega
          have hnm : n + m ≤ len := by omega
          have hmI : (m : Int) + i = len := by omega
          have hnmI : (n : Int) + m ≤ len := by omega
          have HM := Lib.hid hm.symm
          clear hm
          have hlbs : True := trivial
          clear hlbs
          have HRR : Hid (Row w2.drew o2 (100 + k) 111 3 (.slice (some ⟨lg, 0, none⟩) len vcap) (S2.W.lists.getD k []).length (encW (S2.W.lists.getD k []))) := HR2.out.keeps (S := fun _ => False) (Fr.sm (Sm.drew w2)) id
          generalize hLx : S2.W.lists.getD k [] = L2 at *
          have HLX := Lib.hid hLx
          have hL2 : L2.length = len := HL2.out
          have hlenL : (L2.take n ++ L2.drop i ++ L2.drop (n + m)).length = len := by simp only [List.length_append, List.length_take, List.length_drop, hL2]; omega
          have hkl := HS2.out.hk HV2.out
          have hgetL : (S2.W.lists.set k (L2.take n ++ L2.drop i ++ L2.drop (n + m))).getD k [] = L2.take n ++ L2.drop i ++ L2.drop (n + m) := by
            rw [List.getD_eq_getElem?_getD, List.getElem?_set, if_pos rfl, if_pos hkl]; rfl
          have hwxL : SS.wx { S2.W with lists := S2.W.lists.set k (L2.take n ++ L2.drop i ++ L2.drop (n + m)) } k n = SS.wx S2.W k i := by
            unfold SS.wx
            simp only [hgetL, hLx]
            rw [List.getD_eq_getElem?_getD, List.getD_eq_getElem?_getD, List.append_assoc, List.getElem?_append_right (by rw [List.length_take]; omega), List.length_take, Nat.min_eq_left (by omega), Nat.sub_self,
              List.getElem?_append_left (by rw [List.length_drop]; omega), List.getElem?_drop, Nat.add_zero]
          have HKL := Lib.hid hkl
          have hnlt2 : n < len := by omega
          have hki : (k : Int) < (S2.W.lists.length : Int) := by omega
          obtain ⟨p, hp⟩ : ∃ p, p = n + m := ⟨_, rfl⟩
          have hw1 : IntKind.i64.wrap ((n : Int) + m) = (p : Int) := by rw [IntWalk.i64_left, IntWalk.wrap64_in _ (by omega)]; omega
          have hw2 : IntKind.i64.wrap ((len : Int) - i) = (m : Int) := by rw [IntWalk.i64_left, IntWalk.wrap64_in _ (by omega)]; omega
          have hw3 : IntKind.i64.wrap ((p : Int) - m) = (n : Int) := by rw [IntWalk.i64_left, IntWalk.wrap64_in _ (by omega)]; omega
          have hpv : p ≤ vcap := by omega
          have hpl : p ≤ len := by omega
          have hnlI : (n : Int) < len := by omega
          have HP := Lib.hid hp
          clear hp
          clear hLx hkl
          go_region_law
            (refine copyW_step (w := w2.drew) (o := o2) (r := 100 + k) (g := lg) (n := len) (cap := vcap) (s := i) (d := n) (m := m) (L := L2) (dc := vcap - n) (sc := vcap - i) HRR.out hni2 hs HM.out rfl (.tmp 46) (.tmp 49) rfl (by go_simp) (by go_simp) ?_
             intro w3 hr3 hc3 hf3
             obtain ⟨hs3, hf4⟩ := (HS2.out.sm (Sm.drew w2)).setList (L := L2.take n ++ L2.drop i ++ L2.drop (n + m)) HV2.out hf3 (hc3 _ ((HS2.out.sm (Sm.drew w2)).cl)) (by rw [hlenL]; exact hr3)
             obtain ⟨pv3, hw3⟩ := hs3.wt
             have d2 := hw3.c2
             have d2l : (S2.W.lists.set k (L2.take n ++ L2.drop i ++ L2.drop (n + m))).length = S2.W.lists.length := List.length_set ..
             simp only [d2l] at d2
             obtain ⟨v3, hv3, dv, df⟩ := hw3.lst (i := k) (by simp only [d2l]; exact HKL.out)
             rw [HV2.out] at hv3
             simp only [Option.some.injEq] at hv3
             subst hv3
             obtain ⟨dr, -, -, -, hlg3, -, -⟩ := hs3.watchAt (i := n) HV2.out (by simp only [hgetL, hlenL]; exact hnlt2)
             rw [hwxL] at dr
             have hne : ¬ lb = lg := by intro e; have h9 := hw3.hl; rw [e, hlg3] at h9; omega
             have HS3 := Lib.hid hs3
             have HF3 := Lib.hid hf4
             clear hr3 hc3 hf3 hs3 hf4 hw3 hlg3)
          go_wp2
          go_region
          all_goals
            go_wp2
            go_ret2
            have hRR : R = ({ S2 with W := { S2.W with lists := S2.W.lists.set k (L2.take n ++ L2.drop i) } }, some (SS.wx S2.W k i).ref) := HST.out.symm
            rw [hRR]
            refine ⟨rfl, lvs2.set k (.slice (some ⟨lg, 0, none⟩) p vcap), ?_⟩
            have hcut := (HS3.out.sm (Sm.drew _)).cutList (m := p) HV2.out (by simp only [hgetL, hlenL]) (by omega)
            have htk : (L2.take n ++ L2.drop i ++ L2.drop (n + m)).take p = L2.take n ++ L2.drop i := by
              rw [HP.out]
              refine List.take_left' ?_
              have := HL2.out
              simp only [List.length_append, List.length_take, List.length_drop]; omega
            simp only [hgetL, htk, List.set_set] at hcut
            exact ((hcut.after (Sm.drew _)).trans (((HF1.out.trans HF2.out).trans (Fr.sm (Sm.drew w2))).trans HF3.out))

theorem fell_any (f : Int) (w : World) (h : Sys w o ab tb wb lb lvs S) (hs : S.Safe) (hok : S.T.ok f = true) (hff : S.T.value f < 0) (ht : tot S.W.lists ≤ 400000000) :
    Calls Try.prog 59 #[.pointer (some ⟨wb, 0, none⟩), .int .i64 f] w fun e w' => e = fellE (S.fell f) ∧ SysTurn o w ab tb wb lb (S.fell f).1 w' := by
  by_cases hl : (S.W.lists.getD (ix f) []).length = 0
  · exact fell_nil f w h hs hok hff ht hl
  · exact fell_some f w h hs hok hff ht hl
end
end Go.Proofs.Ytpjiemffkkfbkaa
