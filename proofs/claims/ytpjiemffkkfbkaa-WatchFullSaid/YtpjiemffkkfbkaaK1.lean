/- The walk of WatchFull. -/
import Derived.Test.YtpjiemffkkfbkaaK0
namespace Go.Proofs.Ytpjiemffkkfbkaa
open Go.RowKit

structure FullRel (w : World) (xb n : Nat) (CL : List (List Int)) (k : Nat) (ok v : Value) (wr : World) : Prop where
  st : ∃ (v' : Nat) (b : Bool) (S : SS), v = .int .i64 v' ∧ ok = .bool b ∧ 1 ≤ v' ∧ v' + k = n + 1 ∧ LA w wr xb S CL ∧ (b = true → Done n CL S ∧ ∀ u : Nat, 1 ≤ u → u < v' → S.T.value u ≠ 0)

set_option maxHeartbeats 4000000 in
set_option maxRecDepth 100000 in
theorem watchFull_any (n : Nat) (v : Value) (L : List (List Int)) (bits : Int) (w : World) (h : InRaw w v L) (hn : n < 256) (_hb : 0 ≤ bits ∧ bits ≤ 65535) :
    Calls Try.prog 5 #[.agg #[.int .u8 n, v], .int .u16 bits] w (SameBool w true) := by
  have H := Lib.hid h
  obtain ⟨h0, a, cap, rfl, h1, -⟩ := h
  go_enter Try.func5, Try.ntmps5
  go_upto_region 1 with fail
  generalize hW : w.alloc (.cells #[.int .u8 n, .slice a L.length cap] 24) = w0
  have hs0 : Same w w0 := by rw [← hW]; exact Fr.alloc0 _
  have c0 : w0.cell? ⟨w.heap.size, 0, none⟩ = some (.int .u8 n) := by rw [← hW]; simp
  have c1 : w0.cell? ⟨w.heap.size, 1, none⟩ = some (.slice a L.length cap) := by rw [← hW]; simp
  have HS0 := Lib.hid hs0
  clear hs0 hW
  go_wp2_with fail
  refine (fit13_any _).mono ?_
  rintro e w1 ⟨rfl, hs1⟩
  have d0 := cell_same hs1 c0
  have d1 := cell_same hs1 c1
  have HS1 := Lib.hid (HS0.out.trans hs1)
  clear hs1 c0 c1
  go_wp2_with fail
  refine (light_any _ _ L 40 _ (H.out.same HS1.out) (by omega)).mono ?_
  rintro e w2 ⟨rfl, hs2⟩
  have c0 := cell_same hs2 d0
  have c1 := cell_same hs2 d1
  have HS2 := Lib.hid (HS1.out.trans hs2)
  clear hs2 d0 d1
  cases hl : light L 40 with
  | false =>
    go_wp2
    go_ret
    exact ⟨rfl, HS2.out⟩
  | true =>
    have hL40 := light_len hl
    clear hl
    go_wp2_with fail
    refine (rawFormula_any n _ L 12 6 _ (H.out.same HS2.out) hn (by omega) (by omega) (by omega)).mono ?_
    rintro e w3 ⟨v3, p3, rfl, hm3, hc3, hn3, hs3⟩
    have hm16 : n % (12 + 1) ≤ 12 := by omega
    have hF1 : ∀ c ∈ rawF (n % (12 + 1)) 6 L, ∀ l ∈ c, litIn l (n % (12 + 1)) = true := by
      intro c hc l hl
      obtain ⟨d, _, rfl⟩ := List.mem_map.1 hc
      exact rawC_ok l hl
    have hF2 : ∀ c ∈ rawF (n % (12 + 1)) 6 L, c.length ≤ 12 := by
      intro c hc
      obtain ⟨d, _, rfl⟩ := List.mem_map.1 hc
      have := rawC_len (n % (12 + 1)) 6 d; omega
    have hF3 : (rawF (n % (12 + 1)) 6 L).length ≤ 1000 := by unfold rawF; rw [List.length_map]; omega
    have HF1 := Lib.hid hF1
    have HF2 := Lib.hid hF2
    have HF3 := Lib.hid hF3
    have hrm := hm3.rm hn3
    have HRM := Lib.hid hrm
    have HS3 := Lib.hid (HS2.out.trans hs3)
    obtain ⟨fa, fcap, rfl⟩ := hm3.form
    clear hF1 hF2 hm3 hc3 hn3 hs3 hrm c0 c1
    generalize n % (12 + 1) = m at *
    generalize hF : rawF m 6 L = F at *
    clear hF
    go_upto_region 6 with fail
    generalize hW : w3.alloc (.cells #[.int .i64 m, .slice fa F.length fcap] 30) = w4
    have hs4 : Same w3 w4 := by rw [← hW]; exact Fr.alloc0 _
    have c0 : w4.cell? ⟨w3.heap.size, 0, none⟩ = some (.int .i64 m) := by rw [← hW]; simp
    have c1 : w4.cell? ⟨w3.heap.size, 1, none⟩ = some (.slice fa F.length fcap) := by rw [← hW]; simp
    have HRM4 := Lib.hid (HRM.out.same hs4)
    have HS4 := Lib.hid (HS3.out.trans hs4)
    clear hs4 hW HRM
    have hN := normF_ok HF1.out HF2.out
    have HN := Lib.hid hN
    have hNl : (normF F).length ≤ 1000 := Nat.le_trans (normF_len F) hF3
    clear hN
    go_wp2_with fail
    refine (begin_any _ m F _ HRM4.out (by omega) HF1.out HF2.out hF3).mono ?_
    intro e w5 hb
    obtain ⟨xb, o, rfl, hA, hno, hxb, hs5⟩ := AllW.of hb
    have C0 := Lib.hid c0
    have C1 := Lib.hid c1
    have hla : LA w4 w5 xb (plusAll m (normF F)) (normF F) := ⟨o, hA, hno, hs5⟩
    have HLA := Lib.hid hla
    have hgood := (good_built (n := m) (by omega) HN.out.1 HN.out.2.1 HN.out.2.2).1
    have HG := Lib.hid hgood
    have HBASE := Lib.hid HS4.out
    clear hb hA hno hs5 c0 c1 hla hgood HN
    generalize hCL : normF F = CL at *
    generalize plusAll m CL = S at *
    obtain ⟨o, hA, hno, hsm⟩ := HLA.out
    obtain ⟨ab, tb, wb, x0, x1, x2, hT⟩ := hA.open
    have HT := Lib.hid hT
    have HNO := Lib.hid hno
    have HSM := Lib.hid hsm
    clear hA hT hno hsm
    go_wp2_with fail
    refine (HT.out.propagate HG.out hNl).mono ?_
    rintro e w6 ⟨rfl, hp⟩
    have hla6 := LA.post HNO.out HSM.out hp.all
    have HLA6 := Lib.hid hla6
    clear hp hla6 x0 x1 x2 HT HNO HSM
    have hst : S.propagate.2.isNone = true → Done m CL S.propagate.1 ∧ ∀ u : Nat, 1 ≤ u → u < 1 → S.propagate.1.T.value u ≠ 0 := by
      intro hx
      exact ⟨⟨S, HG.out, rfl, by simpa using hx⟩, fun u h1 h2 => by omega⟩
    have HST := Lib.hid hst
    clear hst
    generalize S.propagate.1 = S6 at *
    generalize S.propagate.2.isNone = ok at *
    generalize S.propagate.2.getD 0 = rr at *
    go_wp2
    go_loopg [8, 9, 10] (m) (fun k okv v _ wr => FullRel w4 xb m CL k okv v wr)
    case atStart => exact ⟨1, ok, S6, rfl, rfl, by omega, by omega, HLA6.out, HST.out⟩
    case round =>
      clear HLA6 HST HLA
      obtain ⟨i, b, S7, rfl, rfl, hi1, hik, hla, hst⟩ := hrel
      have HI1 := Lib.hid hi1
      have HIK := Lib.hid hik
      have HLA := Lib.hid hla
      have HST := Lib.hid hst
      have c0 := cell_same hla.keep C0.out
      have c1 := cell_same hla.keep C1.out
      clear hik hla hst
      by_cases hlt : i ≤ m
      · cases b with
        | false =>
          go_wp2
          go_ret
          exact ⟨rfl, HBASE.out.trans HLA.out.keep⟩
        | true =>
          obtain ⟨k', rfl⟩ : ∃ k', gk = k' + 1 := ⟨gk - 1, by have := HIK.out; omega⟩
          obtain ⟨o, hA, hno, hsm⟩ := HLA.out
          obtain ⟨ab, tb, wb, x0, x1, x2, hT⟩ := hA.open
          have HT := Lib.hid hT
          have HNO := Lib.hid hno
          have HSM := Lib.hid hsm
          have HDN := Lib.hid (HST.out rfl)
          clear hA hT hno hsm HST
          go_wp2_with fail
          all_goals (
            refine (HT.out.decide _).mono ?_
            rintro e w7 ⟨rfl, o7, h7, hf7⟩
            have y2 := h7.c2
            have HT7 := Lib.hid h7
            have HNO7 := Lib.hid (HNO.out.fr hf7 HSM.out.size)
            have HSM7 := Lib.hid (HSM.out.thenNew hf7 HNO.out (fun h => h rfl))
            clear h7 hf7 x0 x1 x2 c0 c1
            go_wp2_with fail
            refine (HT7.out.propagate (HDN.out.1.dec _) hNl).mono ?_
            rintro e w8 ⟨rfl, hp8⟩
            have HLA8 := Lib.hid (LA.post HNO7.out HSM7.out hp8.all)
            clear hp8 y2
            go_wp2
            go_roundg k'
            case measure => omega
            case rel =>
              exact ⟨i + 1, _, _, by go_num, rfl, by omega, by have := HIK.out; omega, HLA8.out, fun hx => ⟨⟨_, HDN.out.1.dec _, rfl, by simpa using hx⟩, step_assigned HDN.out.1 (by first | exact .inl rfl | exact .inr rfl) (by omega) (by omega) HDN.out.2⟩⟩)
      · have him : (m : Int) < (i : Int) := by omega
        have hni : ¬ ((i : Int) ≤ (m : Int)) := by omega
        cases b with
        | false =>
          go_wp2
          go_ret
          exact ⟨rfl, HBASE.out.trans HLA.out.keep⟩
        | true =>
          obtain ⟨o, hA, hno, hsm⟩ := HLA.out
          obtain ⟨ab, tb, wb, x0, x1, x2, hT⟩ := hA.open
          have HNO := Lib.hid hno
          have HSM := Lib.hid hsm
          have HDN := Lib.hid (HST.out rfl)
          have hfull := assigned_full HDN.out.1.good.wf (by rw [HDN.out.1.good.nv]; exact fun u h1 h2 => HDN.out.2 u h1 (by omega))
          have hholds := done_holds (F := F) HF1.out (by rw [hCL]; exact HDN.out.1) fun u h1 h2 => HDN.out.2 u h1 (by omega)
          have HFULL := Lib.hid hfull
          have HH := Lib.hid hholds
          obtain ⟨vb, lv, sv, htr⟩ := hT.tr
          have HTR := Lib.hid htr
          have HTM := Lib.hid htr.toTrM
          have HCLO := Lib.hid hT.cl
          have HRM := Lib.hid (HRM4.out.same HSM.out)
          have hasg : S7.T.assignment.length = m := by unfold TS.assignment; rw [List.length_map, HDN.out.1.good.nv]
          have HASG := Lib.hid hasg
          clear hA hT hno hsm HST hfull hholds htr hasg
          go_upto_region 20 with fail
          have hSm : Same wr wr := Fr.sm (Sm.refl wr)
          go_region_held3 (fun w' => w'.cell? ⟨w3.heap.size, 0, none⟩ = some (.int .i64 m) ∧ w'.cell? ⟨w3.heap.size, 1, none⟩ = some (.slice fa F.length fcap) ∧ w'.cell? ⟨xb, 1, none⟩ = some (.pointer (some ⟨tb, 0, none⟩)) ∧ Same wr w') (refine ⟨?_, ?_, ?_, ?_⟩ <;> first | assumption | exact Fr.sm (Sm.drew _) | go_keep) (first
            | (go_at_call 30; refine (full_any _ (HTM.out.keeps ((by first | assumption | exact Fr.sm (Sm.drew _) | exact Fr.sm (Sm.refl _) : Same wr _).any (fun _ => False) o) ⟨id, id, id, id⟩)).mono ?_; rintro e w7 ⟨rfl, hs7⟩; have k0 := cell_same (Fr.sm hs7) (by assumption : World.cell? _ ⟨w3.heap.size, 0, none⟩ = some (.int .i64 m)); have k1 := cell_same (Fr.sm hs7) (by assumption : World.cell? _ ⟨w3.heap.size, 1, none⟩ = some (.slice fa F.length fcap)); have k2 := cell_same (Fr.sm hs7) (by assumption : World.cell? _ ⟨xb, 1, none⟩ = some (.pointer (some ⟨tb, 0, none⟩))); have k3 : Same wr w7 := (by first | assumption | exact Fr.sm (Sm.drew _) | exact Fr.sm (Sm.refl _) : Same wr _).trans (Fr.sm hs7); rw [HFULL.out])
            | (go_at_call 32; refine (assignment_any _ (HTR.out.keeps ((by first | assumption | exact Fr.sm (Sm.drew _) | exact Fr.sm (Sm.refl _) : Same wr _).any (fun _ => False) o) ⟨id, id, id, id⟩) (HCLO.out.size ((by first | assumption | exact Fr.sm (Sm.drew _) | exact Fr.sm (Sm.refl _) : Same wr _).size))).mono ?_; rintro e w8 ⟨v8, p8, rfl, hrow8, hcl8, hn8, hs8⟩; have k0 := cell_same (hs8) (by assumption : World.cell? _ ⟨w3.heap.size, 0, none⟩ = some (.int .i64 m)); have k1 := cell_same (hs8) (by assumption : World.cell? _ ⟨w3.heap.size, 1, none⟩ = some (.slice fa F.length fcap)); have k2 := cell_same (hs8) (by assumption : World.cell? _ ⟨xb, 1, none⟩ = some (.pointer (some ⟨tb, 0, none⟩))); have k3 : Same wr w8 := (by first | assumption | exact Fr.sm (Sm.drew _) | exact Fr.sm (Sm.refl _) : Same wr _).trans hs8; have HROW8 := Lib.hid hrow8)
            | (go_at_call 31; refine (holds_any m _ _ F _ _ (HRM.out.same (by assumption)) HROW8.out HASG.out (by omega) HF1.out (by have := HF3.out; omega) (fun c hc => by have := HF2.out c hc; omega)).mono ?_; rintro e w9 ⟨rfl, hs9⟩; have k0 := cell_same (hs9) (by assumption : World.cell? _ ⟨w3.heap.size, 0, none⟩ = some (.int .i64 m)); have k1 := cell_same (hs9) (by assumption : World.cell? _ ⟨w3.heap.size, 1, none⟩ = some (.slice fa F.length fcap)); have k2 := cell_same (hs9) (by assumption : World.cell? _ ⟨xb, 1, none⟩ = some (.pointer (some ⟨tb, 0, none⟩))); have k3 : Same wr w9 := (by assumption : Same wr _).trans hs9; rw [HH.out]))
          all_goals (
            go_wp2
            go_ret
            exact ⟨rfl, HBASE.out.trans (HSM.out.trans k3)⟩)
end Go.Proofs.Ytpjiemffkkfbkaa
