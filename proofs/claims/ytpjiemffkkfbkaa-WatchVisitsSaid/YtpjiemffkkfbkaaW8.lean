/- The walk of the propagator's Propagate. -/
import Derived.Test.YtpjiemffkkfbkaaW7
import Derived.Test.YtpjiemffkkfbkaaPA
namespace Go.Proofs.Ytpjiemffkkfbkaa
open Go.RowKit

section
variable {w w' : World} {o o' : Own} {ab tb wb lb : Nat} {lvs : List Value} {S : SS}

theorem Sys.setPend (h : Sys w o ab tb wb lb lvs S) {v : Value} {P : List Int} (hv : ORow w o 10 v P) : Sys (w.setCell ⟨wb, 3, none⟩ v) o ab tb wb lb lvs { S with W := { S.W with pend := P } } ∧ Fr sysS o o w (w.setCell ⟨wb, 3, none⟩ v) := by
  obtain ⟨pv, hw⟩ := h.wt
  have fs : Fr (fun r => r = 8) o o w (w.setCell ⟨wb, 3, none⟩ v) := Fr.setCell _ _ hw.hw
  refine ⟨⟨h.ar.keeps fs ⟨by decide, by decide, by decide⟩, h.tr.keeps fs ⟨by decide, by decide, by decide, by decide⟩, ⟨v, ?_, hw.hw, ?_, hw.hl, hw.len, hw.small, fun i u hu => (hw.rows i u hu).keeps fs (by omega), hv.keeps fs (by decide)⟩, h.cl.setCell _ _⟩, fs.mono fun r hr => by unfold sysS; omega⟩
  · rw [heap_setCell_same _ _ _ _ _ _ hw.head]; rfl
  · exact (fs.keeps hw.blk (by rw [hw.hl]; decide)).1

theorem Sys.setHd (h : Sys w o ab tb wb lb lvs S) (n : Nat) : Sys (w.setCell ⟨wb, 4, none⟩ (.int .i64 n)) o ab tb wb lb lvs { S with W := { S.W with head := n } } ∧ Fr sysS o o w (w.setCell ⟨wb, 4, none⟩ (.int .i64 n)) := by
  obtain ⟨pv, hw⟩ := h.wt
  have fs : Fr (fun r => r = 8) o o w (w.setCell ⟨wb, 4, none⟩ (.int .i64 n)) := Fr.setCell _ _ hw.hw
  refine ⟨⟨h.ar.keeps fs ⟨by decide, by decide, by decide⟩, h.tr.keeps fs ⟨by decide, by decide, by decide, by decide⟩, ⟨pv, ?_, hw.hw, ?_, hw.hl, hw.len, hw.small, fun i u hu => (hw.rows i u hu).keeps fs (by omega), hw.pend.keeps fs (by decide)⟩, h.cl.setCell _ _⟩, fs.mono fun r hr => by unfold sysS; omega⟩
  · rw [heap_setCell_same _ _ _ _ _ _ hw.head]; rfl
  · exact (fs.keeps hw.blk (by rw [hw.hl]; decide)).1
theorem Sys.wf (h : Sys w o ab tb wb lb lvs S) : S.T.WF := by obtain ⟨_, _, _, ht⟩ := h.tr; exact ht.wf
end

/-- What the loop over what is pending keeps. -/
structure PendRel (o : Own) (w : World) (ab tb wb lb : Nat) (R : SS × Option Int) (gk : Nat) (wr : World) : Prop where
  st : ∃ (o' : Own) (lvs' : List Value) (S' : SS), Sys wr o' ab tb wb lb lvs' S' ∧ Fr sysS o o' w wr ∧ S'.Safe ∧ tot S'.W.lists ≤ 400000000 ∧ S'.W.pend.length = gk ∧ SS.pendGo S'.W.pend S' = R

/-- What the loop over the trail keeps. -/
structure HeadRel (o : Own) (w : World) (ab tb wb lb : Nat) (R : SS × Option Int) (gk : Nat) (wr : World) : Prop where
  st : ∃ (o' : Own) (lvs' : List Value) (S' : SS), Sys wr o' ab tb wb lb lvs' S' ∧ Fr sysS o o' w wr ∧ S'.Safe ∧ tot S'.W.lists ≤ 400000000 ∧ S'.T.vars.length + 1 ≤ S'.W.head + gk ∧ SS.headGo gk S' = R

theorem pendRound {w w2 : World} {o o2 : Own} {ab tb wb lb g' : Nat} {lvs2 : List Value} {S2 : SS} {V : Value} {P : List Int} {R1 : SS × Option Int} (hs2 : Sys w2 o2 ab tb wb lb lvs2 S2) (hf : Fr sysS o o2 w w2) (hv : ORow w2 o2 10 V P)
    (hsafe : S2.Safe) (ht : tot S2.W.lists ≤ 400000000) (hlen : P.length = g') (hR : SS.pendGo P S2 = R1) : PendRel o w ab tb wb lb R1 g' (w2.setCell ⟨wb, 3, none⟩ V) := by
  obtain ⟨hs, hf2⟩ := hs2.setPend hv
  exact ⟨o2, lvs2, { S2 with W := { S2.W with pend := P } }, hs, hf.trans hf2, ⟨hsafe.lists, hsafe.lits, hsafe.wok⟩, ht, hlen, by rw [← hR]; exact SS.pendGo_pend P S2 P⟩

section
variable {o : Own} {ab tb wb lb : Nat} {lvs : List Value} {S : SS}

set_option maxHeartbeats 4000000 in
set_option maxRecDepth 100000 in
theorem propagate_any (w : World) (h : Sys w o ab tb wb lb lvs S) (hs : S.Safe) (ht : tot S.W.lists ≤ 400000000) (_hp : S.W.pend.length ≤ 1000000000) :
    Calls Try.prog 19 #[.pointer (some ⟨wb, 0, none⟩)] w fun e w' => e = fellE S.propagate ∧ SysTurn o w ab tb wb lb S.propagate.1 w' := by
  obtain ⟨R1, hR1⟩ : ∃ R1, R1 = SS.pendGo S.W.pend S := ⟨_, rfl⟩
  obtain ⟨R, hR⟩ : ∃ R, R = S.propagate := ⟨_, rfl⟩
  have hRA : ∀ S1 r, R1 = (S1, some r) → R = (S1, some r) := by
    intro S1 r e; rw [hR]; unfold SS.propagate; rw [← hR1, e]
  have hRB : ∀ S1, R1 = (S1, none) → R = SS.headGo (S1.T.vars.length + 1) S1 := by
    intro S1 e; rw [hR]; unfold SS.propagate; rw [← hR1, e]
  rw [← hR]
  have H := Lib.hid h
  have HS := Lib.hid hs
  have HR1 := Lib.hid hR1
  have HRA := Lib.hid hRA
  have HRB := Lib.hid hRB
  have HT := Lib.hid ht
  clear h hs hR1 hR hRA hRB ht
  go_enter Try.func19, Try.ntmps19
  go_wp2
  go_loopg [4] S.W.pend.length (fun gk _ wr => PendRel o w ab tb wb lb R1 gk wr)
  case atStart => exact ⟨o, lvs, S, H.out, Fr.refl _ _ _, HS.out, HT.out, rfl, HR1.out.symm⟩
  case round =>
    obtain ⟨o1, lvs1, S1, hs1, hf1, hsf1, ht1, hpl, hgo⟩ := hrel
    obtain ⟨pv1, hw1⟩ := hs1.wt
    have c3 := hw1.c3
    by_cases hg : gk = 0
    · subst hg
      have hpn : S1.W.pend = [] := List.eq_nil_of_length_eq_zero hpl
      have hr1 : R1 = (S1, none) := by
        rw [← hgo, hpn]
        show (({ S1 with W := { S1.W with pend := [] } } : SS), (none : Option Int)) = _
        rw [← hpn]
      have hr : R = SS.headGo (S1.T.vars.length + 1) S1 := HRB.out _ hr1
      have hpf := hw1.pend
      rw [hpn] at hpf
      obtain ⟨pa, pcap, rfl⟩ := hpf.form
      simp only [List.length_nil] at c3
      have HS1 := Lib.hid hs1
      have HF1 := Lib.hid hf1
      have HSF1 := Lib.hid hsf1
      have HT1 := Lib.hid ht1
      have HR := Lib.hid hr
      clear hs1 hf1 hsf1 ht1 hpl hgo hw1 hpf hpn hr1 hr HR1 HRA HRB HT HS H
      go_wp2
      go_loopg [5, 6] (S1.T.vars.length + 1) (fun gk _ _ wr => HeadRel o w ab tb wb lb R gk wr)
      case atStart => exact ⟨o1, lvs1, S1, HS1.out, HF1.out, HSF1.out, HT1.out, by omega, HR.out.symm⟩
      case round =>
        obtain ⟨o2, lvs2, S2, hs2, hf2, hsf2, ht2, hgk, hgo⟩ := hrel
        obtain ⟨pv2, hw2⟩ := hs2.wt
        obtain ⟨vb, lv, sv, htr⟩ := hs2.tr
        have c1' := hw2.c1
        have c4' := hw2.c4
        have f4 := hw2.f 4
        have hwf := hs2.wf
        have hlv := hwf.len
        have hvn := hwf.nle
        by_cases hl : S2.W.head < S2.T.l.length
        · obtain ⟨g', rfl⟩ : ∃ g', gk = g' + 1 := ⟨gk - 1, by omega⟩
          obtain ⟨hxok, hxv, hx0⟩ := SS.at_false hwf hl
          generalize hx : S2.T.at_ (S2.W.head : Int) = x at *
          have hxb := hxok
          unfold TS.ok at hxb
          rw [litIn_iff] at hxb
          have hnok : S2.T.ok (-x) = true := by rw [TS.ok_neg]; exact hxok
          have hfok := SS.fell_ok hsf2 (f := -x) (by omega) hxv
          have hfell := fun w1 (hw1 : Sm wr w1) => fell_any (-x) w1 (hs2.sm hw1) hsf2 hnok hxv ht2
          have hst : SS.headGo (g' + 1) S2 = R := hgo
          unfold SS.headGo at hst
          rw [if_pos hl, hx] at hst
          have hxl : -100000 ≤ x ∧ x ≤ 100000 := by omega
          obtain ⟨hxl1, hxl2⟩ := hxl
          have hwn : IntKind.i64.wrap (-x) = -x := by rw [IntWalk.i64_left, IntWalk.wrap64_in _ (by omega)]
          have hli : (S2.W.head : Int) < (S2.T.l.length : Int) := by omega
          have hlb : (S2.W.head : Int) ≤ 100000 := by omega
          have HFO := Lib.hid hfok
          have HFE := Lib.hid hfell
          have HST := Lib.hid hst
          have HTR := Lib.hid htr
          have HF2 := Lib.hid hf2
          have HX := Lib.hid hx
          have HWF := Lib.hid hwf
          have HSF := Lib.hid hsf2
          have HT2 := Lib.hid ht2
          clear htr hs2 hf2 hsf2 ht2 hgo hw2 hwf hfok hfell hst hx hxok hxv hxb hnok
          go_wp2
          go_quiet ((go_at_call 25; exact quietS (Calls.ofEq (len_any _ (HTR.out.toTrM.sm ⟨_, rfl⟩)))))
          go_wp2
          cases hfe : S2.fell (-x) with
          | mk S3 ro =>
            have hst := HST.out
            have hfo := HFO.out
            have hhd := SS.fell_head S2 (-x)
            rw [hfe] at hst hfo hhd
            simp only at hfo hhd
            have HFO2 := Lib.hid hfo
            clear hfo HFO HST
            cases ro with
            | none =>
              simp only at hst
              have HST := Lib.hid hst
              have HC : Hid (∀ w1, Sm wr w1 → Calls Try.prog 59 #[.pointer (some ⟨wb, 0, none⟩), .int .i64 (-x)] w1 fun e w' => e = .returned (.tuple #[.int .i64 0, .bool true]) ∧ SysTurn o2 w1 ab tb wb lb S3 w') := by
                intro w1 hw1
                have := HFE.out w1 hw1
                rw [hfe] at this
                exact this
              clear hst HFE hfe
              go_cut [5, 6] from 57 to 71 (fun a b wx => a = .int .i64 0 ∧ b = .bool true ∧ ∃ w1, Sm wr w1 ∧ SysTurn o2 w1 ab tb wb lb S3 wx)
              case first =>
                go_region_with (first
                  | (go_at_call 27; refine (at_any _ _ (HTR.out.sm (Sm.trans ⟨_, rfl⟩ (Sm.drew _)))).mono ?_; rintro e w' ⟨rfl, q, rfl⟩; rw [HX.out])
                  | (go_at_call 59; refine (HC.out _ ⟨_, rfl⟩).mono ?_; rintro e w3 ⟨rfl, HP⟩))
                all_goals
                  go_wp2_with fail
                  go_meet
                  case rel => exact ⟨rfl, rfl, _, (⟨_, rfl⟩ : Sm wr _), HP⟩
              case rest =>
                obtain ⟨rfl, rfl, w1, hw1, lvs3, o3, hs3, hf3⟩ := hcut
                obtain ⟨pv3, hw3⟩ := hs3.wt
                have c4'' := hw3.c4
                have f4' := hw3.f 4
                rw [hhd] at c4''
                obtain ⟨hs4, hf4⟩ := hs3.setHd (S2.W.head + 1)
                have HS4 := Lib.hid hs4
                have HF4 := Lib.hid hf4
                have HF3 := Lib.hid hf3
                have HW1 := Lib.hid hw1
                clear hs3 hf3 hw3 hs4 hf4 hw1
                go_wp2
                go_roundg g'
                case measure => omega
                case rel =>
                  have hv3 := HFO2.out.step.puts.vars
                  have ht3 := HFO2.out.tot
                  have ht2 := HT2.out
                  refine ⟨o3, lvs3, { S3 with W := { S3.W with head := S2.W.head + 1 } }, HS4.out, (((HF2.out.trans (Fr.sm HW1.out)).trans HF3.out).trans HF4.out), ⟨HFO2.out.safe.lists, HFO2.out.safe.lits, HFO2.out.safe.wok⟩, by simp only; omega, by simp only; omega, ?_⟩
                  have := HST.out
                  rw [hhd] at this
                  exact this
            | some r =>
              simp only at hst
              have HST := Lib.hid hst
              have HC : Hid (∀ w1, Sm wr w1 → Calls Try.prog 59 #[.pointer (some ⟨wb, 0, none⟩), .int .i64 (-x)] w1 fun e w' => e = .returned (.tuple #[.int .i64 r, .bool false]) ∧ SysTurn o2 w1 ab tb wb lb S3 w') := by
                intro w1 hw1
                have := HFE.out w1 hw1
                rw [hfe] at this
                exact this
              clear hst HFE hfe
              go_cut [5, 6] from 57 to 71 (fun a b wx => a = .int .i64 r ∧ b = .bool false ∧ ∃ w1, Sm wr w1 ∧ SysTurn o2 w1 ab tb wb lb S3 wx)
              case first =>
                go_region_with (first
                  | (go_at_call 27; refine (at_any _ _ (HTR.out.sm (Sm.trans ⟨_, rfl⟩ (Sm.drew _)))).mono ?_; rintro e w' ⟨rfl, q, rfl⟩; rw [HX.out])
                  | (go_at_call 59; refine (HC.out _ ⟨_, rfl⟩).mono ?_; rintro e w3 ⟨rfl, HP⟩))
                all_goals
                  go_wp2_with fail
                  go_meet
                  case rel => exact ⟨rfl, rfl, _, (⟨_, rfl⟩ : Sm wr _), HP⟩
              case rest =>
                obtain ⟨rfl, rfl, w1, hw1, lvs3, o3, hs3, hf3⟩ := hcut
                go_wp2
                go_ret2
                rw [← HST.out]
                exact ⟨rfl, lvs3, o3, hs3, (HF2.out.trans (Fr.sm hw1)).trans hf3⟩
        · have hr : R = (S2, none) := by
            rw [← hgo]
            cases gk with
            | zero => rfl
            | succ g => show SS.headGo (g + 1) S2 = _; unfold SS.headGo; rw [if_neg hl]
          have hli : (S2.T.l.length : Int) ≤ (S2.W.head : Int) := by omega
          have HTR := Lib.hid htr
          have HS2 := Lib.hid hs2
          have HF2 := Lib.hid hf2
          have HR2 := Lib.hid hr
          clear htr hs2 hf2 hsf2 ht2 hgo hw2 hwf hr HR
          go_wp2
          go_quiet ((go_at_call 25; exact quietS (Calls.ofEq (len_any _ (HTR.out.toTrM.sm ⟨_, rfl⟩)))))
          go_wp2
          go_ret2
          rw [HR2.out]
          exact ⟨rfl, lvs2, o2, HS2.out.sm ⟨_, rfl⟩, HF2.out.trans (Fr.sm ⟨_, rfl⟩)⟩
    · obtain ⟨g', rfl⟩ : ∃ g', gk = g' + 1 := ⟨gk - 1, by omega⟩
      obtain ⟨r, P, hrp⟩ : ∃ r P, S1.W.pend = r :: P := by
        cases hq : S1.W.pend with
        | nil => rw [hq] at hpl; simp at hpl
        | cons r P => exact ⟨r, P, rfl⟩
      have hpf := hw1.pend
      have hlnp : S1.W.pend.length = P.length + 1 := by rw [hrp]; rfl
      have hpg : P.length = g' := by omega
      have HPG := Lib.hid hpg
      clear hpg
      rw [hrp] at hpf
      obtain ⟨g, off, cap, rfl, hcap, cfirst⟩ := hpf.first
      have htail := hpf.tail
      have c5 := hw1.c5
      have f5 := hw1.f 5
      have hstep : SS.pendGo (r :: P) S1 = R1 := by rw [← hrp]; exact hgo
      obtain ⟨S2, hS2⟩ : ∃ S2 : SS, S2 = { S1 with W := { S1.W with pend := r :: P, visits := w64 (S1.W.visits + 1) } } := ⟨_, rfl⟩
      have hS2' : S2 = { S1 with W := { S1.W with visits := w64 (S1.W.visits + 1) } } := by rw [hS2, ← hrp]
      have hstep2 : (if S2.A.has r then (match S2.look r with | (S3, false) => (S3, some r) | (S3, true) => SS.pendGo P S3) else SS.pendGo P S2) = R1 := by
        rw [← hstep, hS2]; rfl
      have hs2 : Sys (wr.setCell ⟨wb, 5, none⟩ (.int .i64 (wrap64 (S1.W.visits + 1)))) o1 ab tb wb lb lvs1 S2 ∧ Fr sysS o1 o1 wr (wr.setCell ⟨wb, 5, none⟩ (.int .i64 (wrap64 (S1.W.visits + 1)))) := by
        have e : wrap64 (S1.W.visits + 1) = w64 (S1.W.visits + 1) := by unfold wrap64 w64; rfl
        rw [hS2', e]; exact hs1.setVisits (w64 (S1.W.visits + 1))
      have hok2 : SS.FellOk S1 S2 0 := by rw [hS2]; exact SS.FellOk.words hsf1 (r :: P) S1.W.head _
      have hp2 : S2.W.pend = r :: P := by rw [hS2]
      have HF1 := Lib.hid hf1
      have HT1 := Lib.hid ht1
      have HST := Lib.hid hstep2
      have HS2 := Lib.hid hs2
      have HOK2 := Lib.hid hok2
      have HP2 := Lib.hid hp2
      clear hs1 hf1 hsf1 ht1 hgo hw1 hpf htail hlnp hstep hstep2 hs2 hok2 hp2 hS2 hS2' HS HT H HR1 HRB
      go_upto_region 4 with fail
      obtain ⟨hs2, hf2⟩ := HS2.out
      generalize hw2 : wr.setCell ⟨wb, 5, none⟩ (.int .i64 (wrap64 (S1.W.visits + 1))) = w2 at *
      clear hw2 HS2 c3 c5 f5 cfirst hcap
      obtain ⟨wv, mb, ha⟩ := hs2.ar
      obtain ⟨pv2, hw2⟩ := hs2.wt
      have c0 := hw2.c0
      have c3 := hw2.c3
      have f3 := hw2.f 3
      have hpf := hw2.pend
      rw [HP2.out] at hpf
      obtain ⟨g, off, cap, rfl, hcap, cfirst⟩ := hpf.first
      have htail := hpf.tail
      have hs2t := HOK2.out.tot
      have HA := Lib.hid ha
      have HF2 := Lib.hid hf2
      have HSY2 := Lib.hid hs2
      have HTL := Lib.hid htail
      clear ha hw2 hpf hf2 hs2 htail cfirst
      by_cases hh : S2.A.has r = true
      case neg =>
        have hhf : S2.A.has r = false := by simpa using hh
        have hst := HST.out
        rw [if_neg hh] at hst
        have HH := Lib.hid hhf
        have HST2 := Lib.hid hst
        clear hh hhf hst HST HRA
        by_cases hc1 : cap = 1
        · subst hc1
          have hP0 : P.length = 0 := by omega
          have htl : ORow w2 o1 10 (.slice (some ⟨g, off, none⟩) 0 0) P := by have := HTL.out; rw [hP0] at this; exact this
          have HTL' := Lib.hid htl
          clear htl
          go_wp2_with (go_at_call 57; refine (has_any _ _ HA.out).mono ?_; rintro e w' ⟨rfl, rfl⟩; rw [HH.out])
          go_roundg g'
          case measure => omega
          case rel => exact pendRound HSY2.out (HF1.out.trans HF2.out) HTL'.out HOK2.out.safe (by have := HT1.out; omega) HPG.out HST2.out
        · have htl := HTL.out
          rw [if_neg hc1] at htl
          have HTL' := Lib.hid htl
          clear htl
          go_wp2_with (go_at_call 57; refine (has_any _ _ HA.out).mono ?_; rintro e w' ⟨rfl, rfl⟩; rw [HH.out])
          go_roundg g'
          case measure => omega
          case rel => exact pendRound HSY2.out (HF1.out.trans HF2.out) HTL'.out HOK2.out.safe (by have := HT1.out; omega) HPG.out HST2.out
      case pos =>
        have hst := HST.out
        rw [if_pos hh] at hst
        have hlok := SS.FellOk.look HOK2.out.safe r
        have hlW := SS.look_W S2 r
        have hcall := look_any r w2 HSY2.out (HOK2.out.safe.lits r)
        have HH := Lib.hid hh
        clear hh HST
        cases hlk : S2.look r with
        | mk S3 b =>
          rw [hlk] at hst hlok hlW hcall
          simp only at hst hlok hlW hcall
          have hp3 : S3.W.pend = r :: P := by rw [hlW]; exact HP2.out
          have HST2 := Lib.hid hst
          have HLO := Lib.hid hlok
          have HP3 := Lib.hid hp3
          have HC := Lib.hid hcall
          clear hst hlok hlW hcall hlk hp3
          cases b with
          | false =>
            have hst := HST2.out
            simp only at hst
            have hRR := HRA.out _ _ hst.symm
            have HRR := Lib.hid hRR
            clear hst hRR
            go_wp2_with (first
              | (go_at_call 57; refine (has_any _ _ HA.out).mono ?_; rintro e w' ⟨rfl, rfl⟩; rw [HH.out])
              | (go_at_call 58; refine HC.out.mono ?_; rintro e w3 ⟨rfl, HPO⟩))
            go_ret2
            rw [HRR.out]
            exact ⟨rfl, lvs1, HPO.trans (HF1.out.trans HF2.out)⟩
          | true =>
            have hst := HST2.out
            simp only at hst
            have HST2 := Lib.hid hst
            clear hst
            go_wp2_with (go_at_call 57; refine (has_any _ _ HA.out).mono ?_; rintro e w' ⟨rfl, rfl⟩; rw [HH.out])
            refine HC.out.mono ?_
            rintro e w3 ⟨rfl, o3, hs3, hf3⟩
            obtain ⟨pv3, hw3⟩ := hs3.wt
            have c3' := hw3.c3
            have f3' := hw3.f 3
            have hpf3 := hw3.pend
            rw [HP3.out] at hpf3
            obtain ⟨g3, off3, cap3, rfl, hcap3, cfirst3⟩ := hpf3.first
            have htail3 := hpf3.tail
            have HTL3 := Lib.hid htail3
            have HSY3 := Lib.hid hs3
            have HF3 := Lib.hid hf3
            clear hs3 hf3 hw3 hpf3 htail3 cfirst3
            by_cases hc1 : cap3 = 1
            · subst hc1
              have hP0 : P.length = 0 := by omega
              have htl : ORow w3 o3 10 (.slice (some ⟨g3, off3, none⟩) 0 0) P := by have := HTL3.out; rw [hP0] at this; exact this
              have HTL' := Lib.hid htl
              clear htl
              go_wp2
              go_roundg g'
              case measure => omega
              case rel => exact pendRound HSY3.out ((HF1.out.trans HF2.out).trans HF3.out) HTL'.out HLO.out.safe (by have := HT1.out; have := HLO.out.tot; omega) HPG.out HST2.out
            · have htl := HTL3.out
              rw [if_neg hc1] at htl
              have HTL' := Lib.hid htl
              clear htl
              go_wp2
              go_roundg g'
              case measure => omega
              case rel => exact pendRound HSY3.out ((HF1.out.trans HF2.out).trans HF3.out) HTL'.out HLO.out.safe (by have := HT1.out; have := HLO.out.tot; omega) HPG.out HST2.out
end
end Go.Proofs.Ytpjiemffkkfbkaa
