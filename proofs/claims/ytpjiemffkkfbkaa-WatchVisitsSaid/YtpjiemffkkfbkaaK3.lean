/- The walk of WatchVisits. -/
import Derived.Test.YtpjiemffkkfbkaaK2
import Derived.IntWalk
namespace Go.Proofs.Ytpjiemffkkfbkaa
open Go.RowKit
open TS SS

structure VisRel (wB : World) (xb yb m : Nat) (CL : List (List Int)) (len k : Nat) (last ok i : Value) (wr : World) : Prop where
  st : ∃ (i' : Nat) (b : Bool) (l0 : Int) (S T : SS), i = .int .i64 i' ∧ i' + k = len ∧ ok = .bool b ∧ last = .int .i64 l0 ∧ LB wB wr xb yb S T CL [] ∧ 0 ≤ l0 ∧ l0 ≤ S.W.visits ∧ S.W.visits ≤ 30000 * (i' + 1) ∧ (b = true → Done m CL S) ∧ NoneAt m i' T

set_option maxHeartbeats 8000000 in
set_option maxRecDepth 100000 in
theorem watchVisits_any (n : Nat) (v u : Value) (L : List (List Int)) (N : List Int) (w : World) (h : InRaw w v L) (hu : InU16 w u N) (hn : n < 256) :
    Calls Try.prog 6 #[.agg #[.int .u8 n, v], u] w (SameBool w true) := by
  have H := Lib.hid h
  obtain ⟨h0, a, cap, rfl, h1, -⟩ := h
  have HU := Lib.hid hu
  obtain ⟨hu0, ua, ucap, rfl, hu1, -⟩ := hu
  go_enter Try.func6, Try.ntmps6
  go_upto_region 1 with fail
  generalize hW : w.alloc (.cells #[.int .u8 n, .slice a L.length cap] 24) = w0
  have hs0 : Same w w0 := by rw [← hW]; exact Fr.alloc0 _
  have c0 : w0.cell? ⟨w.heap.size, 0, none⟩ = some (.int .u8 n) := by rw [← hW]; simp
  have c1 : w0.cell? ⟨w.heap.size, 1, none⟩ = some (.slice a L.length cap) := by rw [← hW]; simp
  have HS0 := Lib.hid hs0
  clear hs0 hW
  go_wp2_with fail
  refine (fit13_any _).mono ?_
  rintro e w1 ⟨rfl, hs1⟩
  have d0 := cell_same hs1 c0
  have d1 := cell_same hs1 c1
  have HS1 := Lib.hid (HS0.out.trans hs1)
  clear hs1 c0 c1
  go_wp2_with fail
  refine (light_any _ _ L 40 _ (H.out.same HS1.out) (by omega)).mono ?_
  rintro e w2 ⟨rfl, hs2⟩
  have c0 := cell_same hs2 d0
  have c1 := cell_same hs2 d1
  have HS2 := Lib.hid (HS1.out.trans hs2)
  clear hs2 d0 d1
  cases hl : light L 40 with
  | false =>
    go_wp2
    go_ret
    exact ⟨rfl, HS2.out⟩
  | true =>
    have hL40 := light_len hl
    clear hl
    by_cases hN20 : 20 < N.length
    · go_wp2
      go_ret
      exact ⟨rfl, HS2.out⟩
    have hN20' : (N.length : Int) ≤ 20 := by omega
    go_wp2_with fail
    refine (rawFormula_any n _ L 12 6 _ (H.out.same HS2.out) hn (by omega) (by omega) (by omega)).mono ?_
    rintro e w3 ⟨v3, p3, rfl, hm3, hc3, hn3, hs3⟩
    have hm16 : n % (12 + 1) ≤ 12 := by omega
    have hF1 : ∀ c ∈ rawF (n % (12 + 1)) 6 L, ∀ l ∈ c, litIn l (n % (12 + 1)) = true := by
      intro c hc l hl
      obtain ⟨d, _, rfl⟩ := List.mem_map.1 hc
      exact rawC_ok l hl
    have hF2 : ∀ c ∈ rawF (n % (12 + 1)) 6 L, c.length ≤ 12 := by
      intro c hc
      obtain ⟨d, _, rfl⟩ := List.mem_map.1 hc
      have := rawC_len (n % (12 + 1)) 6 d; omega
    have hF3 : (rawF (n % (12 + 1)) 6 L).length ≤ 1000 := by unfold rawF; rw [List.length_map]; omega
    have HF1 := Lib.hid hF1
    have HF2 := Lib.hid hF2
    have HF3 := Lib.hid hF3
    have hrm := hm3.rm hn3
    have HRM := Lib.hid hrm
    have HS3 := Lib.hid (HS2.out.trans hs3)
    obtain ⟨fa, fcap, rfl⟩ := hm3.form
    clear hF1 hF2 hm3 hc3 hn3 hs3 hrm c0 c1
    generalize n % (12 + 1) = m at *
    generalize hF : rawF m 6 L = F at *
    clear hF
    go_upto_region 6 with fail
    generalize hW : w3.alloc (.cells #[.int .i64 m, .slice fa F.length fcap] 30) = w4
    have hs4 : Same w3 w4 := by rw [← hW]; exact Fr.alloc0 _
    have c0 : w4.cell? ⟨w3.heap.size, 0, none⟩ = some (.int .i64 m) := by rw [← hW]; simp
    have c1 : w4.cell? ⟨w3.heap.size, 1, none⟩ = some (.slice fa F.length fcap) := by rw [← hW]; simp
    have HRM4 := Lib.hid (HRM.out.same hs4)
    have HS4 := Lib.hid (HS3.out.trans hs4)
    clear hs4 hW HRM
    have hN := normF_ok HF1.out HF2.out
    have HN := Lib.hid hN
    have hNl : (normF F).length ≤ 1000 := Nat.le_trans (normF_len F) hF3
    clear hN
    have C0 := Lib.hid c0
    have C1 := Lib.hid c1
    go_region_held3 (fun w' => w'.cell? ⟨w3.heap.size, 0, none⟩ = some (.int .i64 m) ∧ w'.cell? ⟨w3.heap.size, 1, none⟩ = some (.slice fa F.length fcap) ∧ Same w4 w') (refine ⟨?_, ?_, ?_⟩ <;> first | assumption | exact Fr.sm (Sm.drew _) | go_keep) (first
      | (go_at_call 18; with_reducible (show Calls Try.prog 18 #[.agg #[.int .i64 m, .slice fa F.length fcap]] _ _); refine (begin_any _ m F _ (HRM4.out.same (by first | assumption | exact Fr.sm (Sm.drew _) | exact Fr.sm (Sm.refl _) : Same w4 _)) (by omega) HF1.out HF2.out hF3).mono ?_; intro e wx hbx; have HBX := Lib.hid hbx; obtain ⟨xb, ox, rfl, -, -, -, hsx⟩ := AllW.of hbx; have k3 : Same w4 wx := (by first | assumption | exact Fr.sm (Sm.drew _) | exact Fr.sm (Sm.refl _) : Same w4 _).trans hsx; have k0 := cell_same k3 C0.out; have k1 := cell_same k3 C1.out; clear hbx)
      | (go_at_call 18; with_reducible (show Calls Try.prog 18 #[.agg #[.int .i64 m, .slice none 0 0]] _ _); refine (begin_any _ m [] _ (Rm.nil _ (fun _ => True)) (by omega) (by simp) (by simp) (by simp)).mono ?_; intro e wy hby; have HBY := Lib.hid hby; obtain ⟨yb, oy, rfl, -, -, -, hsy⟩ := AllW.of hby; have k3 : Same w4 wy := (by first | assumption | exact Fr.sm (Sm.drew _) | exact Fr.sm (Sm.refl _) : Same w4 _).trans hsy; have k0 := cell_same k3 C0.out; have k1 := cell_same k3 C1.out; clear hby))
    obtain ⟨xb', yb', e1, e2, hlb⟩ := LB.of HBX.out (Fr.sm (Sm.refl _)) HBY.out
    simp only [Ending.returned.injEq, Value.pointer.injEq, Option.some.injEq, Addr.mk.injEq, and_true] at e1 e2
    subst e1; subst e2
    have HLB := Lib.hid hlb
    have hnB : normF [] = ([] : List (List Int)) := rfl
    rw [hnB] at hlb
    have HLB := Lib.hid hlb
    have D0 := Lib.hid (cell_same (Fr.sm (Sm.drew _) : Same w4 w4.drew) C0.out)
    have HB := Lib.hid (HS4.out.trans (Fr.sm (Sm.drew _)) : Same w w4.drew)
    obtain ⟨hg, hgT, hgv⟩ := good_built (n := m) (by omega) HN.out.1 HN.out.2.1 HN.out.2.2
    have HG := Lib.hid hg
    have HGV := Lib.hid hgv
    have HNB := Lib.hid (none_begin (n := m) (by omega))
    have HGN := Lib.hid (good_built (n := m) (CL := []) (by omega) (by simp) (by simp) (by simp)).1
    clear hlb HBX HBY k0 k1 k3 hsx hsy C0 C1 c0 c1 hg hgT hgv hnB HRM4 HS4 HN
    rename World => wy
    generalize w4.drew = wB at *
    generalize normF F = CL at *
    generalize plusAll m CL = S at *
    generalize plusAll m [] = T at *
    obtain ⟨o, hA, hpost⟩ := HLB.out.first
    obtain ⟨ab, tb, wb, x0, x1, x2, hT⟩ := hA.open
    have HT := Lib.hid hT
    have HPOST := Lib.hid hpost
    clear hA hT hpost
    go_wp2_with fail
    refine (HT.out.visits HGV.out).mono ?_
    rintro e w7 ⟨rfl, rfl⟩
    go_wp2_with fail
    refine (HT.out.propagate HG.out hNl).mono ?_
    rintro e w7 ⟨rfl, hp⟩
    have HLB7 := Lib.hid (HPOST.out _ _ hp.all)
    have hvis := HG.out.visits (by rw [HGV.out]; omega) (by
      rw [HGV.out]
      have h1 : (m + 1) * (2 * CL.length) ≤ 13 * 2000 := Nat.mul_le_mul (by omega) (by omega)
      omega)
    have hv2 : 0 ≤ S.propagate.1.W.visits ∧ S.propagate.1.W.visits ≤ 30000 := by
      rw [HGV.out] at hvis
      have h1 : (m + 1) * (2 * CL.length) ≤ 13 * 2000 := Nat.mul_le_mul (by omega) (by omega)
      omega
    have HV := Lib.hid hv2
    have hst : S.propagate.2.isNone = true → Done m CL S.propagate.1 := fun hx => ⟨S, HG.out, rfl, by simpa using hx⟩
    have HST := Lib.hid hst
    clear hp hvis hv2 hst x0 x1 x2 HT HPOST HLB
    generalize S.propagate.1 = S1 at *
    generalize S.propagate.2.isNone = ok at *
    generalize S.propagate.2.getD 0 = rr at *
    clear HG HGV
    obtain ⟨p, hA, hpost⟩ := HLB7.out.second
    obtain ⟨ab, tb, wb, x0, x1, x2, hT⟩ := hA.open
    have HT := Lib.hid hT
    have HPOST := Lib.hid hpost
    clear hA hT hpost
    go_wp2_with fail
    refine (HT.out.propagate HGN.out (by simp)).mono ?_
    rintro e w8 ⟨rfl, hp⟩
    have HLB8 := Lib.hid (HPOST.out _ _ hp.all)
    clear hp x0 x1 x2 HT HPOST HLB7 HGN
    go_wp2
    go_loopg [8, 10, 11, 12, 13, 14, 15, 61] (N.length) (fun k last okv _ _ _ _ _ i wr => VisRel wB xb yb m CL N.length k last okv i wr)
    case atStart => exact ⟨0, ok, 0, S1, _, rfl, by omega, rfl, rfl, HLB8.out, by omega, HV.out.1, by have := HV.out.2; omega, HST.out, HNB.out.1⟩
    case round =>
      clear HLB8 HV HST HNB
      obtain ⟨i, b, l0, S2, T2, rfl, hik, rfl, rfl, hlb, hl0, hl1, hvb, hdn, hno⟩ := hrel
      have HIK := Lib.hid hik
      have HLB := Lib.hid hlb
      have HVB := Lib.hid hvb
      have HDN := Lib.hid hdn
      have HNO := Lib.hid hno
      have d0 := cell_same hlb.keep D0.out
      obtain ⟨o, hA, hpost⟩ := HLB.out.first
      obtain ⟨ab, tb, wb, x0, x1, x2, hT⟩ := hA.open
      have HT := Lib.hid hT
      have HPOST := Lib.hid hpost
      clear hik hlb hvb hdn hno hA hT hpost
      by_cases hlt : i < N.length
      · obtain ⟨k', rfl⟩ : ∃ k', gk = k' + 1 := ⟨gk - 1, by have := HIK.out; omega⟩
        obtain ⟨_, a2, cap2, e2, _, hrng, hc⟩ := HU.out.same (HB.out.trans HLB.out.keep)
        simp only [Value.slice.injEq] at e2
        obtain ⟨rfl, _, rfl⟩ := e2
        have hNi := List.getElem?_eq_getElem hlt
        obtain ⟨a', rfl, hcell⟩ := hc i _ hNi
        have hx := hrng _ (List.getElem_mem hlt)
        clear hc hrng hNi
        generalize N[i] = x at *
        have hvge : ¬ S2.W.visits < l0 := by omega
        have hge : decide (S2.W.visits < l0) = false := by simpa using hl1
        have HX := Lib.hid hx
        go_wp2_with fail
        refine (HT.out.visits rfl).mono ?_
        rintro e w7 ⟨rfl, rfl⟩
        go_wp2_with fail
        refine (HT.out.visits rfl).mono ?_
        rintro e w7 ⟨rfl, rfl⟩
        cases b with
        | false =>
          obtain ⟨p, hA2, hpost2⟩ := HLB.out.second
          obtain ⟨ab2, tb2, wb2, y0, y1, y2, hT2⟩ := hA2.open
          have HT2 := Lib.hid hT2
          have HPOST2 := Lib.hid hpost2
          clear hA2 hT2 hpost2
          go_wp2_with fail
          refine (HT2.out.len rfl).mono ?_
          rintro e w7 ⟨rfl, rfl⟩
          go_wp2_with fail
          refine (HT2.out.visits HNO.out.vis).mono ?_
          rintro e w7 ⟨rfl, rfl⟩
          go_wp2_with fail
          refine (wback_any 0 _ HT2.out (by omega)).mono ?_
          rintro e w9 ⟨a9, cap9, rfl, o9, h9, hf9⟩
          have hb := HNO.out.back
          rw [hb.1]
          have z1 := h9.c1
          have H9 := Lib.hid h9
          have HB2 := Lib.hid hb.2
          have HS9 := Lib.hid (HB.out.trans (HPOST2.out _ _ (TPost.all ⟨o9, h9, hf9⟩)).keep)
          clear hb h9 hf9 y0 y1 y2 x0 x1 x2
          go_wp2_with fail
          refine (H9.out.len HB2.out).mono ?_
          rintro e w10 ⟨rfl, rfl⟩
          go_wp2
          go_ret
          exact ⟨rfl, HS9.out⟩
        | true =>
          have HDN2 := Lib.hid (HDN.out rfl)
          have hw : wr.cell? ⟨w3.heap.size, 0, none⟩ = some (.int .i64 m) := d0
          go_wp2_with fail
          refine (decided_any x m _ HT.out.all hx (by omega)).mono ?_
          rintro e w7 ⟨rfl, hp7⟩
          have HLB7 := Lib.hid (HPOST.out _ _ hp7)
          have HG7 := Lib.hid (HDN2.out.decided m x)
          have hdW : (S2.decided m x).W.visits = S2.W.visits := by rw [decided_W]
          have HDW := Lib.hid hdW
          clear hp7 x0 x1 x2 HT HPOST HLB hdW d0 hw
          have d0 := cell_same HLB7.out.keep D0.out
          obtain ⟨o7, hA, hpost⟩ := HLB7.out.first
          obtain ⟨ab7, tb7, wb7, x0, x1, x2, hT⟩ := hA.open
          have HT := Lib.hid hT
          have HPOST := Lib.hid hpost
          clear hA hT hpost
          go_wp2_with fail
          refine (HT.out.propagate HG7.out hNl).mono ?_
          rintro e w8 ⟨rfl, hp⟩
          have HLB8 := Lib.hid (HPOST.out _ _ hp.all)
          have hv2 : S2.W.visits ≤ (S2.decided m x).propagate.1.W.visits ∧ (S2.decided m x).propagate.1.W.visits ≤ 30000 * ((i : Int) + 1 + 1) := by
            have h1 : (m + 1) * (2 * CL.length) ≤ 13 * 2000 := Nat.mul_le_mul (by omega) (by omega)
            have hvb := HVB.out
            have hvis := HG7.out.visits (by rw [HDW.out]; omega) (by rw [HDW.out]; omega)
            rw [HDW.out] at hvis
            omega
          have HV := Lib.hid hv2
          have hst : (S2.decided m x).propagate.2.isNone = true → Done m CL (S2.decided m x).propagate.1 := fun hx => ⟨_, HG7.out, rfl, by simpa using hx⟩
          have HST := Lib.hid hst
          clear hp hv2 hst x0 x1 x2 HT HPOST HLB7 HG7 HDW d0
          generalize (S2.decided m x).propagate.1 = S8 at *
          generalize (S2.decided m x).propagate.2.isNone = ok8 at *
          generalize (S2.decided m x).propagate.2.getD 0 = rr8 at *
          obtain ⟨p, hA, hpost⟩ := HLB8.out.second
          obtain ⟨ab8, tb8, wb8, x0, x1, x2, hT⟩ := hA.open
          have HT := Lib.hid hT
          have HPOST := Lib.hid hpost
          have d0 := cell_same HLB8.out.keep D0.out
          clear hA hT hpost
          go_wp2_with fail
          refine (HT.out.len rfl).mono ?_
          rintro e w9 ⟨rfl, rfl⟩
          go_wp2_with fail
          refine (decided_any x m _ HT.out.all hx (by omega)).mono ?_
          rintro e w9 ⟨rfl, hp9⟩
          have HLB9 := Lib.hid (HPOST.out _ _ hp9)
          clear hp9 x0 x1 x2 HT HPOST HLB8 d0
          obtain ⟨p9, hA, hpost⟩ := HLB9.out.second
          obtain ⟨ab9, tb9, wb9, x0, x1, x2, hT⟩ := hA.open
          have HT := Lib.hid hT
          have HPOST := Lib.hid hpost
          have hstep := HNO.out.step m x
          have HSTEP := Lib.hid hstep
          clear hA hT hpost hstep
          go_wp2_with fail
          refine (HT.out.propagate (HNO.out.done.decided m x) (by simp)).mono ?_
          rintro e w10 ⟨rfl, hp⟩
          have HLB10 := Lib.hid (HPOST.out _ _ hp.all)
          have e9 : (T2.decided m x).propagate.2.isNone = true := by rw [HSTEP.out.2.1]; rfl
          rw [e9]
          have hlen := HSTEP.out.1.len
          have hle := HSTEP.out.1.le
          have hle2 := HSTEP.out.2.2
          have HNO2 := Lib.hid HSTEP.out.1
          clear hp x0 x1 x2 HT HPOST HLB9 e9 HSTEP
          generalize (T2.decided m x).propagate.1 = T3 at *
          generalize (T2.decided m x).propagate.2.getD 0 = rr9 at *
          obtain ⟨p10, hA, hpost⟩ := HLB10.out.second
          obtain ⟨ab10, tb10, wb10, x0, x1, x2, hT⟩ := hA.open
          have HT := Lib.hid hT
          have hq2 : T2.T.l.length ≤ 100 := by have := HNO.out.le; omega
          have HQ3 : Hid (T3.T.l.length = T3.T.l.length) := rfl
          have HQ4 := Lib.hid hlen
          clear hA hT hpost hlen
          generalize hq3 : T3.T.l.length = q at *
          generalize hq : T2.T.l.length = q2 at *
          have hd1 : decide ((q2 : Int) + 1 < (q : Int)) = false := by simp; omega
          have hd2 : decide ((i : Int) + 1 < (q : Int)) = false := by simp; omega
          go_upto_region 24 with fail
          have hw1 : IntKind.i64.wrap ((q2 : Int) + 1) = (q2 : Int) + 1 := IntWalk.i64_in _ (by omega)
          have hw2 : IntKind.i64.wrap ((i : Int) + 1) = (i : Int) + 1 := IntWalk.i64_in _ (by omega)
          go_quiet ((first
            | (go_at_call 25; exact quietS (Calls.ofEq ((HT.out.sm ⟨_, rfl⟩).len hq3)))
            | (go_at_call 33; exact quietS (Calls.ofEq ((HT.out.sm ⟨_, rfl⟩).level HQ4.out)))
            | (go_at_call 25; exact quietA (Calls.ofEq ((HT.out.sm ⟨_, rfl⟩).len hq3)))
            | (go_at_call 33; exact quietA (Calls.ofEq ((HT.out.sm ⟨_, rfl⟩).level HQ4.out)))))
          clear hw1 hw2
          go_wp2
          go_roundg k'
          case measure => omega
          case rel => exact ⟨i + 1, ok8, S2.W.visits, S8, T3, by go_num, by have := HIK.out; omega, rfl, rfl, HLB10.out.sm (by first | exact ⟨_, rfl⟩ | exact Sm.refl _), by omega, HV.out.1, by have := HV.out.2; omega, HST.out, HNO2.out⟩
      · have hni : ¬ ((i : Int) < (N.length : Int)) := by omega
        obtain ⟨p, hA2, hpost2⟩ := HLB.out.second
        obtain ⟨ab2, tb2, wb2, y0, y1, y2, hT2⟩ := hA2.open
        have HT2 := Lib.hid hT2
        have HPOST2 := Lib.hid hpost2
        clear hA2 hT2 hpost2
        go_wp2_with fail
        refine (HT2.out.len rfl).mono ?_
        rintro e w7 ⟨rfl, rfl⟩
        go_wp2_with fail
        refine (HT2.out.visits HNO.out.vis).mono ?_
        rintro e w7 ⟨rfl, rfl⟩
        go_wp2_with fail
        refine (wback_any 0 _ HT2.out (by omega)).mono ?_
        rintro e w9 ⟨a9, cap9, rfl, o9, h9, hf9⟩
        have hb := HNO.out.back
        rw [hb.1]
        have z1 := h9.c1
        have H9 := Lib.hid h9
        have HB2 := Lib.hid hb.2
        have HS9 := Lib.hid (HB.out.trans (HPOST2.out _ _ (TPost.all ⟨o9, h9, hf9⟩)).keep)
        clear hb h9 hf9 y0 y1 y2 x0 x1 x2
        go_wp2_with fail
        refine (H9.out.len HB2.out).mono ?_
        rintro e w10 ⟨rfl, rfl⟩
        go_wp2
        go_ret
        exact ⟨rfl, HS9.out⟩
end Go.Proofs.Ytpjiemffkkfbkaa
