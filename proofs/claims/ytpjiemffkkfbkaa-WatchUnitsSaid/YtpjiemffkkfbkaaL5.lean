/- The walk of WatchUnits. -/
import Derived.Test.YtpjiemffkkfbkaaL4
namespace Go.Proofs.Ytpjiemffkkfbkaa
open Go.RowKit

theorem at_is {w : World} {o : Own} {tb : Nat} {T : TS} {vb : Nat} {lv sv : Value} {i x : Int} (hx : T.at_ i = x) (h : TrAt w o tb T vb lv sv) :
    Calls Try.prog 27 #[.pointer (some ⟨tb, 0, none⟩), .int .i64 i] w fun e w' => e = .returned (.int .i64 x) ∧ Sm w w' := by subst hx; exact at_any i w h
theorem levelOf_is {w : World} {o : Own} {tb : Nat} {T : TS} {vb : Nat} {lv sv : Value} {l x : Int} (hx : T.levelOf l = x) (h : TrAt w o tb T vb lv sv) :
    Calls Try.prog 26 #[.pointer (some ⟨tb, 0, none⟩), .int .i64 l] w fun e w' => e = .returned (.int .i64 x) ∧ Sm w w' := by subst hx; exact levelOf_any l w h

/-- At level 0 all is of level 0. -/
theorem level0 {T : TS} (hw : T.WF) (hst : T.st = []) {i : Nat} (hi : i < T.l.length) : T.levelOf (T.at_ i) = 0 := by
  have h0 := List.getElem?_eq_getElem hi
  have hat : T.at_ i = T.l[i] := by rw [at_getD, List.getD_eq_getElem?_getD, h0]; rfl
  rw [hat, (TS.place_of hw h0).2.2.1]
  unfold TS.lvAt
  rw [hst]; rfl

/-- What the first propagation says, against the reference. -/
theorem first_says {n : Nat} {CL CL' : List (List Int)} (hn : n ≤ 100000) (h1 : ∀ c ∈ CL, c.Nodup) (h2 : ∀ c ∈ CL, ∀ l ∈ c, litIn l n = true) (h3 : ∀ c ∈ CL, c.length ≤ 12) (hp : CL'.Perm CL) :
    (follow n CL' [] = none ∧ ∃ r, (plusAll n CL).propagate.2 = some r) ∨ ∃ k, follow n CL' [] = some k ∧ (plusAll n CL).propagate.2 = none ∧ sameL k (plusAll n CL).propagate.1.T.l = true := by
  obtain ⟨hg, hT, _⟩ := good_built hn h1 h2 h3
  have hl : (plusAll n CL).T.l = [] := by rw [hT]; rfl
  obtain ⟨f1, f2⟩ := follow_spec (C := CL') (n := n) (k := []) (fun c hc => h1 c (hp.mem_iff.1 hc)) (fun c hc => h2 c (hp.mem_iff.1 hc)) (by intro x hx; simp at hx)
  have hC : ∀ {k : List Int} {x : Int}, Der (fun c => c ∈ CL') k x ↔ Der (fun c => c ∈ CL) k x := by
    intro k x
    exact ⟨fun h => h.mono (fun c hc => ⟨c, hp.mem_iff.1 hc, fun _ => Iff.rfl⟩) (fun y hy => .given hy), fun h => h.mono (fun c hc => ⟨c, hp.mem_iff.2 hc, fun _ => Iff.rfl⟩) (fun y hy => .given hy)⟩
  have hK : ∀ {k : List Int}, Clash (fun c => c ∈ CL') k ↔ Clash (fun c => c ∈ CL) k := by
    intro k
    exact ⟨fun h => h.mono (fun c hc => ⟨c, hp.mem_iff.1 hc, fun _ => Iff.rfl⟩) (fun y hy => .given hy), fun h => h.mono (fun c hc => ⟨c, hp.mem_iff.2 hc, fun _ => Iff.rfl⟩) (fun y hy => .given hy)⟩
  cases hR : (plusAll n CL).propagate.2 with
  | some r =>
    have := hg.clashes hR
    rw [hl] at this
    cases hf : follow n CL' [] with
    | none => exact .inl ⟨rfl, r, rfl⟩
    | some k => exact absurd (hK.2 this) (f1 k hf).2
  | none =>
    obtain ⟨g1, g2⟩ := hg.follows hR
    rw [hl] at g1 g2
    cases hf : follow n CL' [] with
    | none => exact absurd (hK.1 (f2 hf)) g2
    | some k =>
      refine .inr ⟨k, rfl, rfl, ?_⟩
      rw [sameL_iff]
      intro x
      rw [(f1 k hf).1, hC, g1]

structure LvRel (w0 : World) (n : Nat) (k : Nat) (i : Value) (wr : World) : Prop where
  st : ∃ i' : Nat, i = .int .i64 i' ∧ i' + k = n
  sm : Sm w0 wr

set_option maxHeartbeats 4000000 in
set_option maxRecDepth 100000 in
theorem watchUnits_any (n : Nat) (v : Value) (L : List (List Int)) (w : World) (h : InRaw w v L) (hn : n < 256) : Calls Try.prog 4 #[.agg #[.int .u8 n, v]] w (SameBool w true) := by
  have H := Lib.hid h
  obtain ⟨h0, a, cap, rfl, h1, -⟩ := h
  go_enter Try.func4, Try.ntmps4
  go_upto_region 1 with fail
  generalize hW : w.alloc (.cells #[.int .u8 n, .slice a L.length cap] 24) = w0
  have hs0 : Same w w0 := by rw [← hW]; exact Fr.alloc0 _
  have c0 : w0.cell? ⟨w.heap.size, 0, none⟩ = some (.int .u8 n) := by rw [← hW]; simp
  have c1 : w0.cell? ⟨w.heap.size, 1, none⟩ = some (.slice a L.length cap) := by rw [← hW]; simp
  have HS0 := Lib.hid hs0
  clear hs0 hW
  go_wp2_with fail
  refine (fit13_any _).mono ?_
  rintro e w1 ⟨rfl, hs1⟩
  have d0 := cell_same hs1 c0
  have d1 := cell_same hs1 c1
  have HS1 := Lib.hid (HS0.out.trans hs1)
  clear hs1 c0 c1
  go_wp2_with fail
  refine (light_any _ _ L 40 _ (H.out.same HS1.out) (by omega)).mono ?_
  rintro e w2 ⟨rfl, hs2⟩
  have c0 := cell_same hs2 d0
  have c1 := cell_same hs2 d1
  have HS2 := Lib.hid (HS1.out.trans hs2)
  clear hs2 d0 d1
  cases hl : light L 40 with
  | false =>
    go_wp2
    go_ret
    exact ⟨rfl, HS2.out⟩
  | true =>
    have hL40 := light_len hl
    clear hl
    go_wp2_with fail
    refine (rawFormula_any n _ L 15 3 _ (H.out.same HS2.out) hn (by omega) (by omega) (by omega)).mono ?_
    rintro e w3 ⟨v3, p3, rfl, hm3, hc3, hn3, hs3⟩
    have hm16 : n % (15 + 1) ≤ 15 := by omega
    have hF1 : ∀ c ∈ rawF (n % (15 + 1)) 3 L, ∀ l ∈ c, litIn l (n % (15 + 1)) = true := by
      intro c hc l hl
      obtain ⟨d, _, rfl⟩ := List.mem_map.1 hc
      exact rawC_ok l hl
    have hF2 : ∀ c ∈ rawF (n % (15 + 1)) 3 L, c.length ≤ 12 := by
      intro c hc
      obtain ⟨d, _, rfl⟩ := List.mem_map.1 hc
      have := rawC_len (n % (15 + 1)) 3 d; omega
    have hF3 : (rawF (n % (15 + 1)) 3 L).length ≤ 1000 := by unfold rawF; rw [List.length_map]; omega
    have HF1 := Lib.hid hF1
    have HF2 := Lib.hid hF2
    have hrm := hm3.rm hn3
    have HRM := Lib.hid hrm
    have HS3 := Lib.hid (HS2.out.trans hs3)
    obtain ⟨fa, fcap, rfl⟩ := hm3.form
    clear hF1 hF2 hm3 hc3 hn3 hs3 hrm c0 c1
    generalize n % (15 + 1) = m at *
    generalize hF : rawF m 3 L = F at *
    clear hF
    go_upto_region 6 with fail
    generalize hW : w3.alloc (.cells #[.int .i64 m, .slice fa F.length fcap] 30) = w4
    have hs4 : Same w3 w4 := by rw [← hW]; exact Fr.alloc0 _
    have c0 : w4.cell? ⟨w3.heap.size, 0, none⟩ = some (.int .i64 m) := by rw [← hW]; simp
    have c1 : w4.cell? ⟨w3.heap.size, 1, none⟩ = some (.slice fa F.length fcap) := by rw [← hW]; simp
    have HRM4 := Lib.hid (HRM.out.same hs4)
    have HS4 := Lib.hid (HS3.out.trans hs4)
    clear hs4 hW HRM
    have hN := normF_ok HF1.out HF2.out
    have HN := Lib.hid hN
    have hNl : (normF F).length ≤ 1000 := Nat.le_trans (normF_len F) hF3
    clear hN
    go_wp2_with fail
    refine (begin_any _ m F _ HRM4.out (by omega) HF1.out HF2.out hF3).mono ?_
    intro e w5 hb
    obtain ⟨xb, o, rfl, hA, hno, hxb, hs5⟩ := AllW.of hb
    have HNO := Lib.hid (hno.mono HS4.out.size)
    have HS5 := Lib.hid (HS4.out.trans hs5)
    have HA := Lib.hid hA
    clear hb hA hno hs5 c0 c1 HRM4 HF1 HF2 hF3
    generalize normF F = CL at *
    go_wp2_with fail
    refine (clauses_any _ HA.out hNl).mono ?_
    intro e w6 hcl
    obtain ⟨v6, CL', hperm, rfl, hrm6, hs6⟩ := hcl
    have HP := Lib.hid hperm
    have HRM6 := Lib.hid hrm6
    have HS6 := Lib.hid (HS5.out.trans hs6)
    have HA6 := Lib.hid (HA.out.same hs6)
    have hsay := first_says (n := m) (by omega) HN.out.1 HN.out.2.1 HN.out.2.2 hperm
    have hgood := good_built (n := m) (by omega) HN.out.1 HN.out.2.1 HN.out.2.2
    have HG := Lib.hid hgood
    have hlen6 : CL'.length ≤ 1000 := by rw [hperm.length_eq]; exact hNl
    have HNP := Lib.hid (show (∀ c ∈ CL', c.Nodup) ∧ (∀ c ∈ CL', ∀ l ∈ c, litIn l m = true) ∧ ∀ c ∈ CL', c.length ≤ 12 from ⟨fun c hc => HN.out.1 c (hperm.mem_iff.1 hc), fun c hc => HN.out.2.1 c (hperm.mem_iff.1 hc), fun c hc => HN.out.2.2 c (hperm.mem_iff.1 hc)⟩)
    obtain ⟨ra, rcap, rfl⟩ := hrm6.form
    have HSAY := Lib.hid hsay
    clear hperm hrm6 hs6 hgood HA hsay
    generalize plusAll m CL = S at *
    go_wp2_with fail
    refine (follow_any _ (.slice none 0 0) CL' [] m _ HRM6.out (Rl.nil _ (fun _ => True)) (by omega) HNP.out.2.1 HNP.out.1 (by simp) (by omega) (fun c hc => by have := HNP.out.2.2 c hc; omega) (by simp)).mono ?_
    intro e w7 hfp
    rcases HSAY.out with ⟨hf, r, hpr⟩ | ⟨k, hf, hpr, hsame⟩
    · rw [hf] at hfp
      obtain ⟨rfl, hs7⟩ := hfp
      have HS7 := Lib.hid (HS6.out.trans hs7)
      have HPR := Lib.hid hpr
      obtain ⟨ab, tb, wb, lb, lvs, mb, M, hsys, hx⟩ := HA6.out.same hs7
      have cx2 := cell_of_row _ xb 2 _ 41 _ hx.hx
      have HSYS := Lib.hid hsys
      have HX := Lib.hid hx
      clear hs7 hf hpr hsys hx HSAY
      go_wp2_with fail
      refine (propagate_any _ HSYS.out HG.out.1.safe (HG.out.1.tot4 hNl).1 (HG.out.1.tot4 hNl).2).mono ?_
      rintro e w8 ⟨he, lvs2, hp⟩
      rw [fellE_some HPR.out] at he
      subst he
      obtain ⟨o2, h2, hf2⟩ := AllPost.sys HX.out hp
      have HF2 := Lib.hid (HS7.out.thenNew hf2 HNO.out (fun h => h rfl))
      clear hp h2 hf2 cx2
      go_wp2
      go_ret
      exact ⟨rfl, HF2.out⟩
    · rw [hf] at hfp
      obtain ⟨v7, q7, rfl, hr7, hc7, hn7, hs7⟩ := hfp
      have HS7 := Lib.hid (HS6.out.trans hs7)
      have HPR := Lib.hid hpr
      have HSAME := Lib.hid hsame
      have hkl : k.length ≤ 1000 := by have := (follow_len HNP.out.1 HNP.out.2.1 hf).1; simp at this; omega
      have hrl7 := hr7.rl (by decide) hn7
      obtain ⟨ka, kcap, rfl⟩ := hr7.form
      obtain ⟨ab, tb, wb, lb, lvs, mb, M, hsys, hx⟩ := HA6.out.same hs7
      have hrz : Rl w7 (fun b => o b = 0) (.slice ka k.length kcap) k := hrl7.mono fun b _ hz => HA6.out.cl b hz.1
      have HRZ := Lib.hid hrz
      have cx2 := cell_of_row _ xb 2 _ 41 _ hx.hx
      have HSYS := Lib.hid hsys
      have HX := Lib.hid hx
      clear hs7 hf hpr hsys hx HSAY hsame hr7 hc7 hn7 hrl7 hrz
      go_wp2_with fail
      refine (propagate_any _ HSYS.out HG.out.1.safe (HG.out.1.tot4 hNl).1 (HG.out.1.tot4 hNl).2).mono ?_
      rintro e w8 ⟨he, lvs2, hp⟩
      rw [fellE_none HPR.out] at he
      subst he
      obtain ⟨o2, h2, hf2⟩ := AllPost.sys HX.out hp
      have HRZ8 := Lib.hid (HRZ.out.own hf2 (fun h => h rfl))
      have HS8 := Lib.hid (HS7.out.thenNew hf2 HNO.out (fun h => h rfl))
      have H8 := Lib.hid h2
      obtain ⟨ab8, tb8, wb8, lb8, lvs8, mb8, M8, hsys8, hx8⟩ := h2
      obtain ⟨vb8, lv8, sv8, htr8⟩ := hsys8.tr
      have cx1 := cell_of_row _ xb 1 _ 41 _ hx8.hx
      have HX8 := Lib.hid hx8
      have HTR8 := Lib.hid htr8
      have HTM8 := Lib.hid htr8.toTrM
      have HSYS8 := Lib.hid hsys8
      clear hp hf2 cx2 hsys8 hx8 htr8 HSYS HX HRZ
      have hst : S.propagate.1.T.st = [] := by
        have := HG.out.1.propagate.2.ok.step.puts.st
        rw [this, HG.out.2.1]; rfl
      have HST := Lib.hid hst
      have hvis := HG.out.1.visits (by rw [HG.out.2.2]; omega) (by
        rw [HG.out.2.2]
        have h1 : (m + 1) * (2 * CL.length) ≤ 16 * 2000 := Nat.mul_le_mul (by omega) (by omega)
        omega)
      have hvis2 : 0 ≤ S.propagate.1.W.visits := by have := hvis.1; rw [HG.out.2.2] at this; exact this
      have HV := Lib.hid hvis2
      clear hst hvis hvis2
      generalize hS1 : S.propagate.1 = S1 at *
      clear hS1
      go_wp2_with (go_at_call 25; refine (len_any _ HTM8.out).mono ?_; rintro e w9 ⟨rfl, rfl⟩)
      have hll := HTM8.out.lle
      go_loopg [9, 45] (S1.T.l.length) (fun k _ i wr => LvRel w8 S1.T.l.length k i wr)
      case atStart => exact ⟨⟨0, rfl, by omega⟩, Sm.refl _⟩
      case round =>
        obtain ⟨⟨i, rfl, hik⟩, hsm⟩ := hrel
        have HIK := Lib.hid hik
        have HSM := Lib.hid hsm
        have cy1 : wr.cell? ⟨xb, 1, none⟩ = _ := (cell_same (Fr.sm hsm) cx1)
        have HT := Lib.hid (HTR8.out.sm hsm)
        clear hik hsm
        by_cases hlt : i < S1.T.l.length
        · obtain ⟨k', rfl⟩ : ∃ k', gk = k' + 1 := ⟨gk - 1, by have := HIK.out; omega⟩
          have hl0 := level0 HTR8.out.wf HST.out hlt
          have HL0 := Lib.hid hl0
          clear hl0
          go_wp2
          go_quiet ((first
            | (go_at_call 27; exact quietS (at_is rfl (HT.out.sm ⟨_, rfl⟩)))
            | (go_at_call 26; exact quietS (levelOf_is HL0.out (HT.out.sm ⟨_, rfl⟩)))
            | (go_at_call 27; exact quietA (at_is rfl (HT.out.sm ⟨_, rfl⟩)))
            | (go_at_call 26; exact quietA (levelOf_is HL0.out (HT.out.sm ⟨_, rfl⟩)))))
          go_wp2
          go_roundg k'
          case measure => omega
          case rel => exact ⟨⟨i + 1, by go_num, by have := HIK.out; omega⟩, HSM.out.trans ⟨_, rfl⟩⟩
        · have hni : (S1.T.l.length : Int) ≤ (i : Int) := by omega
          go_wp2_with fail
          refine (lits_any _ (H8.out.sm HSM.out)).mono ?_
          rintro e w9 ⟨v9, p9, rfl, hr9, hc9, hn9, hs9⟩
          have HRZ9 := Lib.hid ((HRZ8.out.sm HSM.out).same hs9)
          have HR9 := Lib.hid hr9
          have hs89 : Same w8 w9 := (Fr.sm HSM.out).trans hs9
          have cz2 := cell_of_row _ xb 2 _ 41 _ (HX8.out.same hs89).hx
          have HSYS9 := Lib.hid (HSYS8.out.keeps (hs89.any (fun _ => False) o2) (HSYS8.out.cl.size hs89.size) (fun _ _ => id))
          have HS9 := Lib.hid (HS8.out.trans hs89)
          clear hr9 hc9 hn9 hs9 hs89 cy1
          go_wp2_with (first
            | (go_at_call 20; refine (same_any _ _ k S1.T.l _ HRZ9.out HR9.out.rl' (by omega) (by omega)).mono ?_; rintro e w10 ⟨rfl, rfl⟩; rw [HSAME.out])
            | (go_at_call 28; refine (visits_any _ HSYS9.out).mono ?_; rintro e w10 ⟨rfl, rfl⟩; have hv0 := HV.out))
          go_ret
          exact ⟨rfl, HS9.out⟩
end Go.Proofs.Ytpjiemffkkfbkaa
