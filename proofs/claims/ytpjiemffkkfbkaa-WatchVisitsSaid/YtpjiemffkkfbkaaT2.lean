/- The walk of the trail's Back. -/
import Derived.Test.YtpjiemffkkfbkaaT1
import Derived.Deep.LoopGhost
namespace Go.Proofs.Ytpjiemffkkfbkaa
open Go.RowKit

theorem drop_rev_step (l : List Int) (i : Nat) (h : i < l.length) : (l.drop i).reverse = (l.drop (i + 1)).reverse ++ [l.getD i 0] := by
  rw [List.drop_eq_getElem_cons h, List.reverse_cons]
  simp [h]

/-- One variable is cleared. -/
theorem encCells_clear (vs : List Cell) (l : Int) (h : vi l < vs.length) : (encCells vs).set (vi l * 5) (.int .i64 0) = encCells (TS.clear vs l) := by
  have h1 := encCells_set vs (vi l) { vs.getD (vi l) Cell.zero with v := 0 } h
  rw [TS.clear, ← h1]
  have g : ∀ k, k < 5 → (encCells vs)[vi l * 5 + k]? = (vs.getD (vi l) Cell.zero).vals[k]? := fun k hk => encCells_get vs (vi l) k h hk
  have same : ∀ (L : List Value) (i : Nat) (x : Value), L[i]? = some x → L.set i x = L := by
    intro L i x hx
    apply List.ext_getElem?
    intro j
    rw [List.getElem?_set]
    by_cases e : i = j
    · subst e; rw [if_pos rfl, hx]; have := (List.getElem?_eq_some_iff.1 hx).1; simp [this]
    · rw [if_neg e]
  have g1 := g 1 (by omega); have g2 := g 2 (by omega); have g3 := g 3 (by omega); have g4 := g 4 (by omega)
  simp only [Cell.vals, List.getElem?_cons_succ, List.getElem?_cons_zero] at g1 g2 g3 g4
  rw [same _ (vi l * 5 + 1) _ (by rw [List.getElem?_set_ne (by omega)]; exact g1), same _ (vi l * 5 + 2) _ (by rw [List.getElem?_set_ne (by omega)]; exact g2),
    same _ (vi l * 5 + 3) _ (by rw [List.getElem?_set_ne (by omega)]; exact g3), same _ (vi l * 5 + 4) _ (by rw [List.getElem?_set_ne (by omega)]; exact g4)]

/-- The trail while it is being taken back to place j. -/
def TS.part (σ : TS) (j : Nat) : TS := { σ with vars := (σ.l.drop j).reverse.foldl TS.clear σ.vars }

theorem TS.part_step (σ : TS) (i : Nat) (h : i < σ.l.length) : (σ.part i).vars = TS.clear (σ.part (i + 1)).vars (σ.l.getD i 0) := by
  simp only [TS.part]
  rw [drop_rev_step _ _ h, List.foldl_append]; rfl
theorem TS.part_len (σ : TS) (j : Nat) : (σ.part j).vars.length = σ.vars.length := TS.clears_length ..

theorem TrM.cleared {w : World} {o : Own} {tb : Nat} {σ : TS} {vb : Nat} {lv sv : Value} {i : Nat} {x : Int} (h : TrM w o tb (σ.part (i + 1)) vb lv sv) (hx : σ.l[i]? = some x) (hok : σ.ok x = true) :
    TrM (w.setCell ⟨vb, vi x * 5, none⟩ (.int .i64 0)) o tb (σ.part i) vb lv sv := by
  have hi := (List.getElem?_eq_some_iff.1 hx).1
  have hfr : Fr (fun r => r = 2) o o w (w.setCell ⟨vb, vi x * 5, none⟩ (.int .i64 0)) := Fr.setCell _ _ h.hv
  have h1 := hfr.keeps h.head (by rw [h.ht]; decide)
  have hlen : vi x < (σ.part (i + 1)).vars.length := by rw [TS.part_len]; exact vi_lt hok
  refine ⟨?_, h.lle, h.sle, ?_, h.ht, ?_, h.hv, h.l.keeps hfr (by decide), h.st.keeps hfr (by decide)⟩
  · have := h.nle; rw [TS.part_len] at *; exact this
  · have := h1.1; rw [TS.part_len] at *; exact this
  · rw [heap_setCell_same _ _ _ _ _ _ h.vars, List.setIfInBounds_toArray, encCells_clear _ _ hlen, TS.part_step σ i hi, List.getD_eq_getElem?_getD, hx]; rfl

structure BackRel (o : Own) (w0 : World) (tb : Nat) (σ : TS) (vb : Nat) (lv sv : Value) (s : Nat) (j : Nat) (out n : Value) (wr : World) : Prop where
  hs : s ≤ j
  hj : j ≤ σ.l.length
  hn : n = .int .i64 ((j : Int) - 1)
  tr : TrM wr o tb (σ.part j) vb lv sv
  cl : Cl o wr
  fr : Fr trS o o w0 wr
  row : ∃ p, IntRow wr p 1 out (σ.l.drop j).reverse ∧ Cl p wr ∧ Dj o p ∧ New p w0.heap.size

/-- A list of numbers that is new, of no one's. -/
def NewRow (o : Own) (n : Nat) (w : World) (v : Value) (xs : List Int) : Prop := ∃ p, IntRow w p 1 v xs ∧ Cl p w ∧ Dj o p ∧ New p n

/-- What Back leaves. -/
def BackPost (o : Own) (w : World) (tb : Nat) (σ : TS) (xs : List Int) (e : Ending) (w' : World) : Prop :=
  ∃ v o', e = .returned v ∧ Tr w' o' tb σ ∧ Cl o' w' ∧ Fr trS o o' w w' ∧ NewRow o' w.heap.size w' v xs

/-- The last stores of Back. -/
theorem back_shut {o p : Own} {w0 w w1 w2 : World} {tb : Nat} {σ : TS} {vb lg lcap sg scap n m s k : Nat} {v : Value} {xs : List Int} {e : Ending} (he : e = .returned v)
    (hq : Sm w w1) (h : TrM w o tb (σ.part s) vb (.slice (some ⟨lg, 0, none⟩) n lcap) (.slice (some ⟨sg, 0, none⟩) m scap)) (hcl : Cl o w) (hfr : Fr trS o o w0 w)
    (hrow : IntRow w p 1 v xs) (hcp : Cl p w) (hd : Dj o p) (hn : New p w0.heap.size) (hk : k < σ.st.length) (hs : σ.backTo k = s) (hxs : (σ.l.drop s).reverse = xs) (hwf : (σ.back k).WF) (hsl : s ≤ σ.l.length)
    (hw2 : w2 = (w1.setCell ⟨tb, 1, none⟩ (.slice (some ⟨lg, 0, none⟩) s lcap)).setCell ⟨tb, 2, none⟩ (.slice (some ⟨sg, 0, none⟩) k scap)) :
    BackPost o w0 tb (σ.back k) (σ.l.drop s).reverse e w2 := by
  have h1 := h.sm hq
  have f1 : Fr (fun r => r = 1) o o w1 (w1.setCell ⟨tb, 1, none⟩ (.slice (some ⟨lg, 0, none⟩) s lcap)) := Fr.setCell _ _ h.ht
  have f2 : Fr (fun r => r = 1) o o (w1.setCell ⟨tb, 1, none⟩ (.slice (some ⟨lg, 0, none⟩) s lcap)) w2 := by rw [hw2]; exact Fr.setCell _ _ h.ht
  have f12 := f1.trans f2
  have hln : (.slice (some ⟨lg, 0, none⟩) n lcap : Value) = .slice (some ⟨lg, 0, none⟩) σ.l.length lcap := by
    obtain ⟨a, c, e⟩ := h.l.form
    simp only [Value.slice.injEq] at e; rw [e.2.1]; rfl
  have hsn : (.slice (some ⟨sg, 0, none⟩) m scap : Value) = .slice (some ⟨sg, 0, none⟩) σ.st.length scap := by
    obtain ⟨a, c, e⟩ := h.st.form
    simp only [Value.slice.injEq] at e; rw [e.2.1]; rfl
  have rl : IntRow w1 o 3 (.slice (some ⟨lg, 0, none⟩) s lcap) (σ.l.take s) := IntRow.take (by have := h1.l; rw [hln] at this; exact this) s hsl
  have rs : IntRow w1 o 4 (.slice (some ⟨sg, 0, none⟩) k scap) (σ.st.take k) := IntRow.take (by have := h1.st; rw [hsn] at this; exact this) k (by omega)
  have T : TrM w2 o tb (σ.back k) vb (.slice (some ⟨lg, 0, none⟩) s lcap) (.slice (some ⟨sg, 0, none⟩) k scap) := by
    have hv : (σ.back k).vars = (σ.part s).vars := by simp [TS.back, TS.part, hs]
    refine ⟨by rw [hv]; exact h.nle, ?_, ?_, ?_, h.ht, ?_, h.hv, ?_, ?_⟩
    · have := h.lle; simp only [TS.back, List.length_take]; simp only [TS.part] at this; omega
    · have := h.sle; simp only [TS.back, List.length_take]; simp only [TS.part] at this; omega
    · rw [hw2, heap_setCell_same _ _ _ _ _ _ (heap_setCell_same _ _ _ _ _ _ h1.head), hv]; rfl
    · rw [hv]; exact (f12.keeps h1.vars (by rw [h.hv]; decide)).1
    · have := rl.keeps f12 (by decide); simp only [TS.back]; rw [hs]; exact this
    · exact rs.keeps f12 (by decide)
  refine ⟨v, o, he, ⟨vb, _, _, T.at_ hwf⟩, (hcl.sm hq).size f12.size, (hfr.trans (Fr.sm hq)).trans (f12.mono fun _ h => by unfold trS; omega), p, ?_, (hcp.sm hq).size f12.size, hd, hn⟩
  rw [hxs]
  exact (hrow.sm hq).keeps (f12.other hd (by decide)) (by decide)

theorem back_none {o : Own} {tb : Nat} {σ : TS} {vb : Nat} {lv sv : Value} (k : Int) (w : World) (h : TrAt w o tb σ vb lv sv) (hk : (σ.st.length : Int) ≤ max k 0) (hkb : k ≤ 1000000000) :
    Calls Try.prog 63 #[.pointer (some ⟨tb, 0, none⟩), .int .i64 k] w fun e w' => e = .returned (.slice none 0 0) ∧ w = w' := by
  have c2 := h.c2
  obtain ⟨sa, scap, rfl⟩ := h.st.form
  have hsl := h.sle
  clear h
  generalize σ.st.length = m at *
  by_cases h0 : k < 0
  · have hm : m = 0 := by omega
    subst hm
    go_enter Try.func63, Try.ntmps63
    go_wp2
    go_ret
    exact ⟨rfl, rfl⟩
  · have hk' : (m : Int) ≤ k := by omega
    clear hk
    go_enter Try.func63, Try.ntmps63
    go_wp2
    go_ret
    exact ⟨rfl, rfl⟩

set_option maxHeartbeats 2000000 in
set_option maxRecDepth 100000 in
theorem back_yes {o : Own} {tb : Nat} {σ : TS} {vb : Nat} {lv sv : Value} (k : Int) (w : World) (h : TrAt w o tb σ vb lv sv) (k' : Nat) (hmax : max k 0 = k') (hlt : k' < σ.st.length) (hcl : Cl o w) :
    Calls Try.prog 63 #[.pointer (some ⟨tb, 0, none⟩), .int .i64 k] w (BackPost o w tb (σ.back k') (σ.l.drop (σ.backTo k')).reverse) := by
  have hkk : k < 0 ∧ k' = 0 ∨ k = k' := by omega
  clear hmax
  have hsl := h.sle
  have hll := h.lle
  have hwb := h.wf.back hlt
  obtain ⟨hbt, hst⟩ := h.wf.backTo_lt hlt
  obtain ⟨sg, scap, rfl, hsc0, hso, hsg, hsc, hsf⟩ := Row.block h.st (by omega)
  obtain ⟨lg, lcap, rfl, hlc0, hlo, hlg, hlc, hlf⟩ := Row.block h.l (by omega)
  have c1 := h.c1
  have c2 := h.c2
  generalize hs : σ.backTo k' = s at *
  have H := Lib.hid h
  have HWB := Lib.hid hwb
  have HSB := Lib.hid hs
  have HST := Lib.hid hst
  have CL := Lib.hid hcl
  have htb : tb < w.heap.size := (Array.getElem?_eq_some_iff.1 h.head).1
  clear h hst hcl hsf hlf hsc hlc hs hwb
  have HO := Lib.hid (And.intro hso hlo)
  clear hso hlo
  generalize hS : σ.st.length = m at *
  generalize hL : σ.l.length = n at *
  have HS := Lib.hid hS
  have HL := Lib.hid hL
  clear hS hL
  go_enter Try.func63, Try.ntmps63
  obtain ⟨kk, hkk'⟩ : ∃ kk : Nat, kk = k' := ⟨k', rfl⟩
  have hd1 : decide (m ≤ k') = false := by simp; omega
  have hd2 : decide (m = 0) = false := by simp; omega
  have HKK := Lib.hid hkk'
  clear hkk'
  rcases hkk with ⟨h0, rfl⟩ | rfl
  all_goals
    go_wp2
    clear c1 c2 hd1 hd2
    go_loopg [5, 6] (n) (fun j out i wr => BackRel o w tb σ vb (.slice (some ⟨lg, 0, none⟩) n lcap) (.slice (some ⟨sg, 0, none⟩) m scap) s j out i wr)
    case atStart =>
      have hL := HL.out
      refine ⟨by omega, by omega, rfl, ?_, CL.out, Fr.refl _ _ _, fun _ => 0, ?_, Cl.zero _, Dj.zero _, fun _ _ => rfl⟩
      · have e : σ.part n = σ := by simp [TS.part, List.drop_eq_nil_of_le (Nat.le_of_eq hL)]
        rw [e]; exact H.out.toTrM
      · rw [List.drop_eq_nil_of_le (Nat.le_of_eq hL)]; exact IntRow.nil _ _ _
    case round =>
      obtain ⟨hsj, hjn, rfl, htr, hclr, hfr, p, hrow, hclp, hdj, hnew⟩ := hrel
      have c1 := htr.c1
      have c2 := htr.c2
      have hjn' : gk ≤ n := by rw [← HL.out]; exact hjn
      have cs := (htr.st.at HST.out).1
      have hul : (σ.l.drop gk).reverse.length ≤ 1000000000 := by have := HL.out; simp; omega
      generalize hxs : (σ.l.drop gk).reverse = xs at *
      have HXS := Lib.hid hxs
      clear hxs
      obtain ⟨ua, ucap, rfl⟩ := hrow.form
      have HUL := Lib.hid hul
      clear hul
      have HTR := Lib.hid htr
      have HCL := Lib.hid hclr
      have HFR := Lib.hid hfr
      have HROW := Lib.hid hrow
      have HCP := Lib.hid hclp
      have HDJ := Lib.hid hdj
      have HNEW := Lib.hid hnew
      clear htr hclr hfr hrow hclp hdj hnew
      by_cases hj : gk = s
      · subst hj
        have hsi : (gk : Int) - 1 < (gk : Int) := by omega
        have f1 := HTR.out.f 1
        have f2 := HTR.out.f 2
        have hgn : (gk : Int) ≤ (n : Int) := by omega
        have hgc : (gk : Int) ≤ (lcap : Int) := by omega
        have hkc : (kk : Int) ≤ (scap : Int) := by have := HKK.out; omega
        rw [HKK.out] at hkc
        go_wp2
        go_region
        go_wp2
        go_ret
        refine back_shut ?_ (⟨1, rfl⟩ : Sm wr (wr.drewN 1)) HTR.out HCL.out HFR.out HROW.out HCP.out HDJ.out HNEW.out (by rw [HS.out]; omega) HSB.out HXS.out HWB.out (by rw [HL.out]; omega) rfl
        first | rfl | simp
      · obtain ⟨i, rfl⟩ : ∃ i, gk = i + 1 := ⟨gk - 1, by omega⟩
        have ei : ((i + 1 : Nat) : Int) - 1 = i := by omega
        rw [ei]
        clear ei
        have hsi : (s : Int) ≤ (i : Int) := by omega
        have hin : (i : Int) < (n : Int) := by omega
        have hx : σ.l[i]? = some (σ.l.getD i 0) := by have := HL.out; rw [List.getD_eq_getElem?_getD, List.getElem?_eq_getElem (by omega)]; rfl
        have HX := Lib.hid hx
        clear hx
        have cx := (HTR.out.l.at HX.out).1
        have hok : σ.ok (σ.l.getD i 0) = true := (H.out.wf.lit i _ HX.out).1
        have HOK := Lib.hid hok
        clear hok
        generalize hxx : σ.l.getD i 0 = x at *
        go_wp2_with (first
          | (at_builtin
             refine append_int (HROW.out.keeps (S := fun _ => False) (Fr.alloc0 _) id) (HCP.out.alloc0 _) HUL.out rfl (.tmp 33) (.tmp 41) rfl rfl rfl (World.cell?_alloc_new ..) ?_
             intro g2 cap2 w2 p2 hr2 hcl2 hfr2
             have fr12 : Fr (fun r => r = 1) p p2 wr w2 := (Fr.alloc0 _).trans hfr2
             have tr2 := HTR.out.keeps (fr12.other HDJ.out.symm (by decide)) ⟨by decide, by decide, by decide, by decide⟩
             have c1' := tr2.c1
             have cx' := (tr2.l.at HX.out).1
             have f0 := tr2.fv (vi x * 5)
             have HTR2 := Lib.hid tr2
             have HR2 := Lib.hid hr2
             have HCP2 := Lib.hid hcl2
             have HF2 := Lib.hid fr12
             clear tr2 hr2 hcl2 fr12 hfr2)
          | (go_at_call 61
             refine (cell_in _ _ HTR2.out (by have := HOK.out; unfold TS.ok at *; rw [TS.part_len]; exact this)).mono ?_
             rintro e w3 ⟨rfl, q, rfl⟩
             have k0 := (HTR2.out.cell (l := x) (by have := HOK.out; unfold TS.ok at *; rw [TS.part_len]; exact this)).1))
        go_roundg i
        case measure => omega
        case rel =>
          have hxl := HL.out
          refine ⟨by omega, by omega, rfl, ?_, ((HCL.out.size HF2.out.size).sm ⟨q, rfl⟩).setCell _ _, ?_, p2, ?_, (HCP2.out.sm ⟨q, rfl⟩).setCell _ _, ?_, ?_⟩
          · exact (HTR2.out.sm (⟨q, rfl⟩ : Sm w2 (w2.drewN q))).cleared HX.out HOK.out
          · exact ((HFR.out.thenNew HF2.out HNEW.out (by decide)).trans (Fr.sm ⟨q, rfl⟩)).trans (Fr.setCell _ _ (by rw [HTR2.out.hv]; unfold trS; omega))
          · have e : (σ.l.drop i).reverse = xs ++ [x] := by
              have h1 := drop_rev_step σ.l i (by omega)
              rw [h1, HXS.out]
              have h2 := HX.out
              rw [List.getD_eq_getElem?_getD, h2]; rfl
            rw [e]
            exact (HR2.out.sm (⟨q, rfl⟩ : Sm w2 (w2.drewN q))).keeps (S := fun r => r = 0) ((Fr.setCell (S := fun r => r = 2) _ _ HTR2.out.hv).other (HDJ.out.symm.fr HF2.out HCL.out).symm (by decide)) (by decide)
          · exact (HDJ.out.symm.fr HF2.out HCL.out).symm
          · exact HNEW.out.fr HF2.out HFR.out.size
end Go.Proofs.Ytpjiemffkkfbkaa
