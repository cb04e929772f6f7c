/- The walk of norm.Formula. -/
import Derived.Test.YtpjiemffkkfbkaaN7
import Derived.Test.YtpjiemffkkfbkaaM4
namespace Go.Proofs.Ytpjiemffkkfbkaa
open Go.RowKit

/-- A row of lists and a bool. -/
def NewMatB (w : World) (L : List (List Int)) (b : Bool) (e : Ending) (w' : World) : Prop :=
  ∃ v p, e = .returned (.tuple #[v, .bool b]) ∧ Hm w' p w.heap.size v L ∧ Cl p w' ∧ New p w.heap.size ∧ Same w w'

structure FormRel (w0 : World) (L : List (List Int)) (k : Nat) (out em i : Value) (wr : World) : Prop where
  st : ∃ i' : Nat, i = .int .i64 i' ∧ i' + k = L.length ∧ em = .bool (emptyF (L.take i')) ∧ ∃ p, Hm wr p w0.heap.size out (normF (L.take i')) ∧ Cl p wr ∧ New p w0.heap.size
  sm : Same w0 wr

theorem normF_len (L : List (List Int)) : (normF L).length ≤ L.length := by
  unfold normF; rw [List.length_map]; exact List.length_filter_le ..

/-- A list that was made just now. -/
theorem IntRow.made {w0 w w1 : World} {p q : Own} {v : Value} {xs : List Int} (h : IntRow w1 q 1 v xs) (hn : New q w.heap.size) (hs : w0.heap.size ≤ w.heap.size) (hc : Cl p w) : Rl w1 (fun b => w0.heap.size ≤ b ∧ p b = 0) v xs :=
  (h.rl (by decide) hn).mono fun b _ hz => ⟨by omega, hc b hz.1⟩

set_option maxHeartbeats 1000000 in
theorem nformula_any (vn : Value) (v : Value) (L : List (List Int)) (Z : Nat → Prop) (w : World) (h : Rm w Z v L) (hb : ∀ c ∈ L, ∀ l ∈ c, l ≠ 0 ∧ -100000 ≤ l ∧ l ≤ 100000) (h12 : ∀ c ∈ L, c.length ≤ 12) (hL : L.length ≤ 1000000) :
    Calls Try.prog 55 #[.agg #[vn, v]] w (NewMatB w (normF L) (emptyF L)) := by
  have HB := Lib.hid hb
  have H12 := Lib.hid h12
  have hsm0 : Same w (w.alloc (.cells #[vn, v] 30)) := Fr.alloc0 _
  have HSM0 := Lib.hid hsm0
  clear hb h12 hsm0
  obtain ⟨a, cap, rfl⟩ := h.form
  have H := Lib.hid h
  clear h
  go_enter Try.func55, Try.ntmps55
  go_wp2
  go_loopg [4, 5, 7, 11] (L.length) (fun k out em _ i wr => FormRel w L k out em i wr)
  case atStart => exact ⟨⟨0, rfl, by omega, rfl, fun _ => 0, Hm.nil _ _ _, Cl.zero _, fun _ _ => rfl⟩, HSM0.out⟩
  case round =>
    obtain ⟨⟨i, rfl, hik, rfl, p, hm, hcp, hnew⟩, hsame⟩ := hrel
    have HM := Lib.hid hm
    have HCP := Lib.hid hcp
    have HNEW := Lib.hid hnew
    have HSAME := Lib.hid hsame
    have HIK := Lib.hid hik
    clear hcp hnew hsame hik
    obtain ⟨oa, ocap, rfl⟩ := hm.form
    clear hm
    by_cases hlt : i < L.length
    · obtain ⟨k', rfl⟩ : ∃ k', gk = k' + 1 := ⟨gk - 1, by have := HIK.out; omega⟩
      have hnl := normF_len (L.take i)
      have hnt : (L.take i).length = i := by rw [List.length_take]; omega
      have hml : (normF (L.take i)).length ≤ 1000000 := by omega
      clear hnl hnt
      obtain ⟨b, off, cap', e1, _, _, hc⟩ := (H.out.same HSAME.out).block (by omega)
      simp only [Value.slice.injEq] at e1
      obtain ⟨rfl, _, rfl⟩ := e1
      obtain ⟨hv, hcell, hrl⟩ := hc i hlt
      have hcm : L.getD i [] ∈ L := by rw [List.getD_eq_getElem?_getD, List.getElem?_eq_getElem hlt]; exact List.getElem_mem hlt
      have hts : L.take (i + 1) = L.take i ++ [L.getD i []] := by rw [List.take_succ_eq_append_getElem hlt, List.getD_eq_getElem?_getD, List.getElem?_eq_getElem hlt]; rfl
      have hb := HB.out _ hcm
      have h12 := H12.out _ hcm
      have HTS := Lib.hid hts
      have HRL := Lib.hid hrl
      clear hts hc hrl hcm
      generalize L.getD i [] = c at *
      have hca := HRL.out.form
      obtain ⟨ca, ccap, rfl⟩ := hca
      by_cases ht : taut c = true
      · have hclen : c.length ≠ 0 := by rintro h0; rw [List.eq_nil_of_length_eq_zero h0] at ht; cases ht
        have HCL := Lib.hid hclen
        clear hclen
        go_wp2_with fail
        refine (taut_any _ c _ HRL.out.rf hb h12).mono ?_
        rintro e w1 ⟨rfl, hs1⟩
        rw [ht]
        go_wp2
        go_roundg k'
        case measure => have := HIK.out; omega
        case rel =>
          refine ⟨⟨i + 1, by go_num, by have := HIK.out; omega, ?_, p, ?_, HCP.out.size hs1.size, HNEW.out⟩, HSAME.out.trans hs1⟩
          · rw [HTS.out, emptyF_snoc]
            have := HCL.out
            simp [this]
          · rw [HTS.out, normF_snoc, if_pos ht, List.append_nil]; exact HM.out.same hs1
      · have ht : taut c = false := by simpa using ht
        go_wp2_with fail
        refine (taut_any _ c _ HRL.out.rf hb h12).mono ?_
        rintro e w1 ⟨rfl, hs1⟩
        rw [ht]
        have HS1 := Lib.hid hs1
        clear hs1
        go_wp2_with fail
        refine (clause_any _ c _ (HRL.out.same HS1.out).rf hb h12).mono ?_
        rintro e w2 ⟨v2, q, rfl, hr2, hcq, hnq, hs2⟩
        obtain ⟨va, vcap, rfl⟩ := hr2.form
        have HR2 := Lib.hid hr2
        have HNQ := Lib.hid hnq
        have HS2 := Lib.hid hs2
        clear hr2 hcq hnq hs2
        have hem : (emptyF (L.take i) || c.length == 0) = emptyF (L.take (i + 1)) := by rw [HTS.out, emptyF_snoc]
        have HEM := Lib.hid hem
        clear hem
        generalize hE : emptyF (L.take i) = E at *
        have HE := Lib.hid hE
        clear hE
        have hm2 : Hm w2 p w.heap.size (.slice oa (normF (L.take i)).length ocap) (normF (L.take i)) := (HM.out.same HS1.out).same HS2.out
        have hcp2 : Cl p w2 := HCP.out.size (Nat.le_trans HS1.out.size HS2.out.size)
        have hR2 : Rl w2 (fun b => w.heap.size ≤ b ∧ p b = 0) (.slice va (normC c).length vcap) (normC c) := HR2.out.made HNQ.out (Nat.le_trans HSAME.out.size HS1.out.size) (HCP.out.size HS1.out.size)
        have HM2 := Lib.hid hm2
        have HCP2 := Lib.hid hcp2
        have HRR := Lib.hid hR2
        clear hm2 hcp2 hR2
        generalize hF : normF (L.take i) = F at *
        have HF := Lib.hid hF
        clear hF
        by_cases hc0 : c.length = 0
        all_goals
          cases E
          all_goals
            go_wp2_with
              (at_builtin
               refine Hm.append (c := normC c) (HM2.out.same (Fr.alloc0 _)) (HCP2.out.alloc0 _) (by omega) rfl (.tmp 18) (.tmp 21) rfl rfl rfl (World.cell?_alloc_new ..) (HRR.out.same (Fr.alloc0 _)) ?_
               intro g cap2 w3 p3 hm3 hcl3 hf3
               have HM3 := Lib.hid hm3
               have HCL3 := Lib.hid hcl3
               have HF3 := Lib.hid hf3
               clear hm3 hcl3 hf3)
            go_roundg k'
            case measure => have := HIK.out; omega
            case rel =>
              have hf : Fr (fun k => k = 1) p p3 w2 w3 := (Fr.alloc0 _).trans HF3.out
              refine ⟨⟨i + 1, by go_num, by have := HIK.out; omega, ?_, p3, ?_, HCL3.out, HNEW.out.fr hf (Nat.le_trans HSAME.out.size (Nat.le_trans HS1.out.size HS2.out.size))⟩, ((HSAME.out.trans HS1.out).trans HS2.out).thenNew hf HNEW.out (by decide)⟩
              · rw [← HEM.out]
                first | (simp [hc0]; done) | (simp only [Bool.false_or]; congr 1; rw [Bool.eq_iff_iff]; simp; done) | (simp [hc0]; rw [Bool.eq_iff_iff]; simp)
              · rw [HTS.out, normF_snoc, ht, HF.out]
                simp only [Bool.false_eq_true, if_false]
                have := HM3.out
                simpa using this
    · have hi : i = L.length := by have := HIK.out; omega
      subst hi
      have hni : (L.length : Int) ≤ (L.length : Int) := Int.le_refl _
      have e1 : L.take L.length = L := List.take_length
      have HM2 := HM.out
      rw [e1] at HM2
      generalize hE : emptyF (L.take L.length) = E at *
      have HE := Lib.hid hE
      clear hE
      rw [e1] at HE
      have HMM := Lib.hid HM2
      have hE : emptyF L = E := HE.out
      have hN : (normF (L.take L.length)).length = (normF L).length := by rw [e1]
      rw [hN]
      have HEE := Lib.hid hE
      clear e1 hN HM2 hE
      go_wp2
      go_ret2
      refine ⟨.slice oa (normF L).length ocap, p, ?_, HMM.out, HCP.out, HNEW.out, HSAME.out⟩
      rw [HEE.out]; rfl
end Go.Proofs.Ytpjiemffkkfbkaa
