/- The walk of Raw.Formula. -/
import Derived.Test.YtpjiemffkkfbkaaL0
import Derived.Deep.CutBlock
import Derived.Deep.DeepCutAuto
namespace Go.Proofs.Ytpjiemffkkfbkaa
open Go.RowKit

theorem and1_i16 (x : Int) : bits .and .i16 x 1 = x % 2 := by
  have h : (BitVec.ofInt 16 x &&& BitVec.ofInt 16 1).toNat = (x % 2).toNat := by
    rw [BitVec.toNat_and, BitVec.toNat_ofInt, BitVec.toNat_ofInt]
    have e1 : (((1 : Int) % ((2 ^ 16 : Nat) : Int)).toNat) = 1 := by decide
    rw [e1, Nat.and_one_is_mod]
    have e2 : ((2 ^ 16 : Nat) : Int) = 65536 := by decide
    rw [e2]; omega
  have h2 : bits .and .i16 x 1 = IntKind.i16.wrap (((BitVec.ofInt 16 x &&& BitVec.ofInt 16 1).toNat : Nat) : Int) := rfl
  rw [h2, h]
  have : ((x % 2).toNat : Int) = x % 2 := by omega
  rw [this]
  unfold IntKind.wrap
  simp only [IntKind.bits, IntKind.signed]
  simp; omega
theorem u16_wrap (x : Int) : IntKind.u16.wrap x = x % 65536 := by
  unfold IntKind.wrap
  simp only [IntKind.bits, IntKind.signed]
  simp
theorem val16 (x : Int) (m : Nat) (hm : 0 < m) (hm2 : m ≤ 1000) : wrap64 (1 + (wrap64 (IntKind.u16.wrap x / 2)).tmod (m : Int)) = 1 + ((x % 65536) / 2) % (m : Int) := by
  rw [u16_wrap]
  have h1 : 0 ≤ x % 65536 ∧ x % 65536 < 65536 := ⟨by omega, by omega⟩
  have e1 : wrap64 (x % 65536 / 2) = x % 65536 / 2 := by unfold wrap64; omega
  rw [e1, Int.tmod_eq_emod_of_nonneg (by omega)]
  have h2 := Int.emod_nonneg ((x % 65536) / 2) (show (m : Int) ≠ 0 by omega)
  have h3 := Int.emod_lt_of_pos ((x % 65536) / 2) (show (0 : Int) < m by omega)
  unfold wrap64; omega

/-- A raw number's literal. -/
def lit16 (vars : Nat) (n : Int) : Int :=
  let v : Int := 1 + ((n % 65536) / 2) % (vars : Int)
  if n % 2 = 1 then -v else v
def rawC (vars width : Nat) (c : List Int) : List Int := if vars = 0 then [] else (c.take width).map (lit16 vars)
def rawF (vars width : Nat) (L : List (List Int)) : List (List Int) := L.map (rawC vars width)

theorem lit16_ok {vars : Nat} (h : vars ≠ 0) (n : Int) : litIn (lit16 vars n) vars = true := by
  rw [litIn_iff]
  have h1 := Int.emod_nonneg ((n % 65536) / 2) (show (vars : Int) ≠ 0 by omega)
  have h2 := Int.emod_lt_of_pos ((n % 65536) / 2) (show (0 : Int) < vars by omega)
  unfold lit16
  simp only
  generalize ((n % 65536) / 2) % (vars : Int) = x at *
  split <;> omega
theorem rawC_ok {vars width : Nat} {c : List Int} : ∀ l ∈ rawC vars width c, litIn l vars = true := by
  intro l hl
  unfold rawC at hl
  split at hl
  · simp at hl
  · rename_i h
    obtain ⟨n, _, rfl⟩ := List.mem_map.1 hl
    exact lit16_ok h n
theorem rawC_len (vars width : Nat) (c : List Int) : (rawC vars width c).length ≤ width := by
  unfold rawC; split
  · simp
  · rw [List.length_map, List.length_take]; omega

/-- The result of Formula. -/
def NewForm (w : World) (n : Nat) (L : List (List Int)) (e : Ending) (w' : World) : Prop :=
  ∃ v p, e = .returned (.agg #[.int .i64 n, v]) ∧ Hm w' p w.heap.size v L ∧ Cl p w' ∧ New p w.heap.size ∧ Same w w'

structure RawInRel (w0 : World) (vars width : Nat) (c : List Int) (k : Nat) (d i : Value) (wr : World) : Prop where
  st : ∃ i' : Nat, i = .int .i64 i' ∧ i' + k = c.length ∧ ∃ q, IntRow wr q 1 d ((c.take i').map (lit16 vars)) ∧ Cl q wr ∧ New q w0.heap.size ∧ i' ≤ width ∧ (0 < i' → vars ≠ 0)
  sm : Same w0 wr

structure RawOutRel (w0 : World) (fb rb : Nat) (vars width : Nat) (L : List (List Int)) (k : Nat) (i : Value) (wr : World) : Prop where
  st : ∃ i' : Nat, i = .int .i64 i' ∧ i' + k = L.length ∧ ∃ p hv, wr.heap[fb]? = some (.cells #[.int .i64 vars, hv] 30 (0, 0)) ∧ p fb = 3 ∧ wr.heap[rb]? = some (.cells #[.int .i64 0, .slice none 0 0] 30 (0, 0)) ∧ p rb = 4 ∧ Hm wr p w0.heap.size hv (rawF vars width (L.take i')) ∧ Cl p wr ∧ New p w0.heap.size
  sm : Same w0 wr

set_option maxHeartbeats 1000000 in
theorem rawFormula_any (n : Nat) (v : Value) (L : List (List Int)) (vars width : Nat) (w : World) (h : InRaw w v L) (hn : n < 256) (hv : vars ≤ 1000) (hw : width ≤ 1000) (hL : L.length ≤ 1000) :
    Calls Try.prog 17 #[.agg #[.int .u8 n, v], .int .i64 vars, .int .i64 width] w (NewForm w (n % (vars + 1)) (rawF (n % (vars + 1)) width L)) := by
  have H := Lib.hid h
  obtain ⟨h0, a, cap, rfl, h1, _⟩ := h
  have hm1 : n % (vars + 1) ≤ vars := by have := Nat.mod_lt n (show 0 < vars + 1 by omega); omega
  have hcast : ((n : Int) % ((vars : Int) + 1)) = ((n % (vars + 1) : Nat) : Int) := by rw [Int.natCast_emod]; rfl
  have HC := Lib.hid hcast
  clear hcast
  go_enter Try.func17, Try.ntmps17
  go_wp2
  rw [HC.out]
  generalize n % (vars + 1) = m at *
  generalize hW : ((w.alloc (.cells #[.int .u8 n, .slice a L.length cap] 24)).alloc (.cells #[.int .i64 0, .slice none 0 0] 30)).alloc (.cells #[.int .i64 m, .slice none 0 0] 30) = w1
  have hs1 : Same w w1 := by rw [← hW]; exact ((Fr.alloc0 _).trans (Fr.alloc0 _)).trans (Fr.alloc0 _)
  have hb1 : w1.heap[w.heap.size + 1 + 1]? = some (.cells #[.int .i64 m, .slice none 0 0] 30 (0, 0)) := by rw [← hW]; simpa using heap_alloc_new ((w.alloc (.cells #[.int .u8 n, .slice a L.length cap] 24)).alloc (.cells #[.int .i64 0, .slice none 0 0] 30)) (.cells #[.int .i64 m, .slice none 0 0] 30)
  have hb2 : w1.heap[w.heap.size + 1]? = some (.cells #[.int .i64 0, .slice none 0 0] 30 (0, 0)) := by
    rw [← hW, heap_alloc_old _ _ (by simp)]; simpa using heap_alloc_new (w.alloc (.cells #[.int .u8 n, .slice a L.length cap] 24)) (.cells #[.int .i64 0, .slice none 0 0] 30)
  have hsz1 : w1.heap.size = w.heap.size + 3 := by rw [← hW]; simp
  have HS1 := Lib.hid hs1
  have HB1 := Lib.hid hb1
  have HB2 := Lib.hid hb2
  have HSZ := Lib.hid hsz1
  clear hW hs1 hb1 hb2 hsz1 HC
  go_loopg [9, 10, 12, 13, 24] (L.length) (fun k _ _ _ _ i wr => RawOutRel w (w.heap.size + 1 + 1) (w.heap.size + 1) m width L k i wr)
  case atStart =>
    refine ⟨⟨0, rfl, by omega, fun k => if k = w.heap.size + 1 + 1 then 3 else if k = w.heap.size + 1 then 4 else 0, _, HB1.out, by simp, HB2.out, by simp, Hm.nil _ _ _, ?_, ?_⟩, HS1.out⟩
    · intro k hk
      have := HSZ.out
      show ite _ _ _ = 0
      rw [if_neg (by omega), if_neg (by omega)]
    · intro k hk
      show ite _ _ _ = 0
      rw [if_neg (by omega), if_neg (by omega)]
  case round =>
    obtain ⟨⟨i, rfl, hik, p, hv, hfb, hpf, hrb, hpr, hm, hcp, hnew⟩, hsame⟩ := hrel
    have HIK := Lib.hid hik
    have HFB := Lib.hid hfb
    have HPF := Lib.hid hpf
    have HRB := Lib.hid hrb
    have HPR := Lib.hid hpr
    have HM := Lib.hid hm
    have HCP := Lib.hid hcp
    have HNEW := Lib.hid hnew
    have HSAME := Lib.hid hsame
    clear hik hfb hpf hrb hpr hcp hnew hsame
    obtain ⟨ha, hcap, rfl⟩ := hm.form
    clear hm
    by_cases hlt : i < L.length
    · obtain ⟨k', rfl⟩ : ∃ k', gk = k' + 1 := ⟨gk - 1, by have := HIK.out; omega⟩
      obtain ⟨_, a2, cap2, e2, _, hc⟩ := H.out.same HSAME.out
      simp only [Value.slice.injEq] at e2
      obtain ⟨rfl, _, rfl⟩ := e2
      obtain ⟨a', hv2, rfl, hcell, hin⟩ := hc i _ (List.getElem?_eq_getElem hlt)
      have hts : L.take (i + 1) = L.take i ++ [L[i]] := List.take_succ_eq_append_getElem hlt
      have HTS := Lib.hid hts
      clear hts hc
      generalize L[i] = c at *
      obtain ⟨hcl, ca, ccap, rfl, hcc, hcb, hce⟩ := hin
      have HCB := Lib.hid hcb
      have HCE := Lib.hid hce
      clear hcb hce
      have hrl : (rawF m width (L.take i)).length ≤ 1000 := by unfold rawF; rw [List.length_map, List.length_take]; omega
      generalize hR : rawF m width (L.take i) = R at *
      have HR := Lib.hid hR
      clear hR
      go_upto_block 2 with fail
      go_cut [10, 12, 13] (fun d _ _ wx => ∃ q, IntRow wx q 1 d (rawC m width c) ∧ Cl q wx ∧ New q wr.heap.size ∧ Same wr wx)
      case first =>
        obtain ⟨wo, rfl⟩ : ∃ wo : World, wo = wr := ⟨_, rfl⟩
        go_wp2_with fail
        go_loopg [10, 12, 13, 30] (c.length) (fun k d _ _ i wr2 => RawInRel wo m width c k d i wr2)
        case atStart => exact ⟨⟨0, rfl, by omega, fun _ => 0, IntRow.nil _ _ _, Cl.zero _, fun _ _ => rfl, by omega, by omega⟩, Fr.refl _ _ _⟩
        case round =>
          obtain ⟨⟨j, rfl, hjk, q, hrow, hcq, hnq, hjw, hjv⟩, hsame2⟩ := hrel
          have hfb2 := (hsame2.keeps HFB.out id).1
          have cfb := cell_of_row _ (w.heap.size + 1 + 1) 0 _ 30 _ hfb2
          have hjc : ((c.take j).map (lit16 m)).length = j := by rw [List.length_map, List.length_take]; omega
          have HROW := Lib.hid hrow
          have HCQ := Lib.hid hcq
          have HNQ := Lib.hid hnq
          have HS2 := Lib.hid hsame2
          have HJK := Lib.hid hjk
          clear hfb2 hcq hnq hsame2 hjk
          obtain ⟨da, dcap, rfl⟩ := hrow.form
          clear hrow
          rw [hjc]
          have hrow2 : IntRow wr q 1 (.slice da j dcap) ((c.take j).map (lit16 m)) := by have := HROW.out; rw [hjc] at this; exact this
          have HR2 := Lib.hid hrow2
          clear hrow2 HROW
          by_cases hj : j < c.length
          · obtain ⟨k2, rfl⟩ : ∃ k2, gk = k2 + 1 := ⟨gk - 1, by have := HJK.out; omega⟩
            obtain ⟨a3, rfl, hcx⟩ := HCE.out j _ (List.getElem?_eq_getElem hj)
            have hcx2 := cell_same HS2.out hcx
            have hbx := HCB.out _ (List.getElem_mem hj)
            obtain ⟨hbx1, hbx2⟩ := hbx
            have hcj : c.take (j + 1) = c.take j ++ [c[j]] := List.take_succ_eq_append_getElem hj
            have HCJ := Lib.hid hcj
            clear hcx hcj
            generalize c[j] = x at *
            by_cases hm0 : m = 0
            · subst hm0
              go_wp2
              go_meet
              have hj0 : j = 0 := by omega
              subst hj0
              exact ⟨q, HR2.out, HCQ.out, HNQ.out, HS2.out⟩
            · by_cases hjw2 : j = width
              · subst hjw2
                go_wp2
                go_meet
                refine ⟨q, ?_, HCQ.out, HNQ.out, HS2.out⟩
                have := HR2.out
                unfold rawC
                rw [if_neg hm0]; exact this
              · have hd1 : ((j : Int) == (width : Int)) = false := by simp; omega
                have hd2 : ((m : Int) == 0) = false := by simp; omega
                have hm2 : ¬ (m : Int) = 0 := by omega
                go_upto_region 11 with fail
                rw [val16 x m (by omega) (by omega)]
                have hv1 := Int.emod_nonneg ((x % 65536) / 2) (show (m : Int) ≠ 0 by omega)
                have hv2 := Int.emod_lt_of_pos ((x % 65536) / 2) (show (0 : Int) < m by omega)
                have hl16 : lit16 m x = if x % 2 = 1 then -(1 + ((x % 65536) / 2) % (m : Int)) else 1 + ((x % 65536) / 2) % (m : Int) := rfl
                have HL16 := Lib.hid hl16
                clear hl16 hd1 hd2
                generalize ((x % 65536) / 2) % (m : Int) = y at *
                have hvm : -1000 ≤ 1 + y ∧ 1 + y ≤ 1000 := by omega
                obtain ⟨hvm1, hvm2⟩ := hvm
                generalize hz : 1 + y = z at *
                clear hz
                by_cases hodd : x % 2 = 1
                all_goals
                  have hbit := and1_i16 x
                  first | rw [hodd] at hbit | rw [show x % 2 = 0 by omega] at hbit
                  have hll := HL16.out
                  first | rw [if_pos hodd] at hll | rw [if_neg hodd] at hll
                  have HLL := Lib.hid hll
                  have HOD := Lib.hid hodd
                  clear hll HL16 hodd
                  have hln : ((c.take j).map (lit16 m)).length ≤ 1000000000 := by rw [hjc]; omega
                  have HLN := Lib.hid hln
                  clear hln
                  have HJC := Lib.hid hjc
                  clear hjc
                  generalize hD : (c.take j).map (lit16 m) = D at *
                  have HD := Lib.hid hD
                  clear hD
                  go_wp2_with
                    (at_builtin
                     refine append_int (xs := D) (HR2.out.keeps (S := fun _ => False) (Fr.alloc0 _) id) (HCQ.out.alloc0 _) HLN.out rfl (.tmp 56) (.tmp 58) rfl rfl rfl (World.cell?_alloc_new ..) ?_
                     intro g2 cap2 w2 q2 hr2 hcl2 hfr2
                     have hf12 : Fr (fun r => r = 1) q q2 wr w2 := (Fr.alloc0 _).trans hfr2
                     have HR3 := Lib.hid hr2
                     have HCL3 := Lib.hid hcl2
                     have HF3 := Lib.hid hf12
                     clear hr2 hcl2 hf12 hfr2)
                  go_roundg k2
                  case measure => omega
                  case rel =>
                    refine ⟨⟨j + 1, by go_num, by have := HJK.out; omega, q2, ?_, HCL3.out, HNQ.out.fr HF3.out HS2.out.size, by omega, fun _ => hm0⟩, HS2.out.thenNew HF3.out HNQ.out (by decide)⟩
                    rw [HCJ.out, List.map_append, HD.out, List.map_cons, List.map_nil, HLL.out]
                    exact HR3.out
          · have hj2 : j = c.length := by have := HJK.out; omega
            subst hj2
            have hni : (c.length : Int) ≤ (c.length : Int) := Int.le_refl _
            go_wp2
            go_meet
            refine ⟨q, ?_, HCQ.out, HNQ.out, HS2.out⟩
            have := HR2.out
            rw [List.take_length] at this
            unfold rawC
            by_cases hm0 : m = 0
            · have hc0 : c = [] := List.eq_nil_of_length_eq_zero (by omega)
              subst hc0
              rw [if_pos hm0]; exact this
            · rw [if_neg hm0, List.take_of_length_le (by omega)]; exact this
      case rest =>
        obtain ⟨q, hrow, hcq, hnq, hs2⟩ := hcut
        obtain ⟨da, dcap, rfl⟩ := hrow.form
        have hfb2 := (hs2.keeps HFB.out id).1
        have cfb := cell_of_row _ (w.heap.size + 1 + 1) 1 _ 30 _ hfb2
        have ffb := frozen_of_row _ (w.heap.size + 1 + 1) 1 _ 30 hfb2
        have hm2 := HM.out.same hs2
        have hcp2 : Cl p wc := HCP.out.size hs2.size
        have hrr : Rl wc (fun b => w.heap.size ≤ b ∧ p b = 0) (.slice da (rawC m width c).length dcap) (rawC m width c) := hrow.made hnq HSAME.out.size HCP.out
        have HFB2 := Lib.hid hfb2
        have HRB2 := Lib.hid ((hs2.keeps HRB.out id).1)
        have HM2 := Lib.hid hm2
        have HCP2 := Lib.hid hcp2
        have HRR := Lib.hid hrr
        have HS2 := Lib.hid hs2
        clear hrow hcq hnq hs2 hfb2 hm2 hcp2 hrr
        generalize hC : rawC m width c = C at *
        have HCC := Lib.hid hC
        clear hC
        go_wp2_with
          (at_builtin
           refine Hm.append (c := C) (HM2.out.same (Fr.alloc0 _)) (HCP2.out.alloc0 _) (by omega) rfl (.tmp 62) (.tmp 64) rfl rfl rfl (World.cell?_alloc_new ..) (HRR.out.same (Fr.alloc0 _)) ?_
           intro g cap2 w3 p3 hm3 hcl3 hf3
           have hf13 : Fr (fun k => k = 1) p p3 wc w3 := (Fr.alloc0 _).trans hf3
           have hfb3 := hf13.keeps HFB2.out (by rw [HPF.out]; decide)
           have hrb3 := hf13.keeps HRB2.out (by rw [HPR.out]; decide)
           have cfb3 := cell_of_row _ (w.heap.size + 1 + 1) 1 _ 30 _ hfb3.1
           have ffb3 := frozen_of_row _ (w.heap.size + 1 + 1) 1 _ 30 hfb3.1
           have HM3 := Lib.hid hm3
           have HCL3 := Lib.hid hcl3
           have HF3 := Lib.hid hf13
           have HFB3 := Lib.hid hfb3
           have HRB3 := Lib.hid hrb3
           clear hm3 hcl3 hf3 hf13 hfb3 hrb3)
        go_roundg k'
        case measure => have := HIK.out; omega
        case rel =>
          have hfs : Fr (fun k => k = 3) p3 p3 w3 (w3.setCell ⟨w.heap.size + 1 + 1, 1, none⟩ (.slice (some ⟨g, 0, none⟩) (R.length + 1) cap2)) := Fr.setCell _ _ (HFB3.out.2.trans HPF.out)
          have hn3 : New p3 w.heap.size := HNEW.out.fr HF3.out (Nat.le_trans HSAME.out.size HS2.out.size)
          refine ⟨⟨i + 1, by go_num, by have := HIK.out; omega, p3, .slice (some ⟨g, 0, none⟩) (R.length + 1) cap2, ?_, HFB3.out.2.trans HPF.out, ?_, HRB3.out.2.trans HPR.out, ?_, HCL3.out.setCell _ _, hn3⟩, ((HSAME.out.trans HS2.out).thenNew HF3.out HNEW.out (by decide)).thenNew hfs hn3 (by decide)⟩
          · rw [heap_setCell_same _ _ _ _ _ _ HFB3.out.1]; simp
          · exact (hfs.keeps HRB3.out.1 (by rw [HRB3.out.2, HPR.out]; decide)).1
          · rw [HTS.out]
            have e : rawF m width (L.take i ++ [c]) = R ++ [C] := by unfold rawF; rw [List.map_append, ← HR.out, ← HCC.out]; rfl
            rw [e]
            exact HM3.out.keeps hfs (by decide) (by decide)
    · have hi : i = L.length := by have := HIK.out; omega
      subst hi
      have hni : (L.length : Int) ≤ (L.length : Int) := Int.le_refl _
      have cfb0 := cell_of_row _ (w.heap.size + 1 + 1) 0 _ 30 _ HFB.out
      have cfb1 := cell_of_row _ (w.heap.size + 1 + 1) 1 _ 30 _ HFB.out
      have crb0 := cell_of_row _ (w.heap.size + 1) 0 _ 30 _ HRB.out
      have crb1 := cell_of_row _ (w.heap.size + 1) 1 _ 30 _ HRB.out
      have frb0 := frozen_of_row _ (w.heap.size + 1) 0 _ 30 HRB.out
      have frb1 := frozen_of_row _ (w.heap.size + 1) 1 _ 30 HRB.out
      rw [List.take_length] at *
      go_wp2
      refine bodyPost_ret (v := .agg #[.int .i64 m, .slice ha (rawF m width L).length hcap]) (by simp [results, Try.results17, go_sem, crb0, crb1]) rfl ?_
      generalize hX : World.setCell (World.setCell wr _ _) _ _ = wX
      have hf : Fr (fun k => k = 4) p p wr wX := by rw [← hX]; exact (Fr.setCell _ _ HPR.out).trans (Fr.setCell _ _ HPR.out)
      exact ⟨_, p, rfl, HM.out.keeps hf (by decide) (by decide), HCP.out.size hf.size, HNEW.out, HSAME.out.thenNew hf HNEW.out (by decide)⟩
end Go.Proofs.Ytpjiemffkkfbkaa
