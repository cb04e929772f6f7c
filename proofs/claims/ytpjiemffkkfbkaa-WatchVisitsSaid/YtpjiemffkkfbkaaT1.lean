/- The walks of the trail's writers. -/
import Derived.Test.YtpjiemffkkfbkaaT0
import Derived.Test.YtpjiemffkkfbkaaM2
import Derived.BigRegion
import Derived.Deep.RegionLaw
import Derived.Deep.RegionHeld3
namespace Go.Proofs.Ytpjiemffkkfbkaa
open Go.RowKit

theorem put_no {o : Own} {tb : Nat} {σ : TS} {vb : Nat} {lv sv : Value} (l r : Int) (w : World) (h : TrAt w o tb σ vb lv sv) (hf : σ.free l = false) :
    Calls Try.prog 62 #[.pointer (some ⟨tb, 0, none⟩), .int .i64 l, .int .i64 r] w fun e w' => e = .returned (.bool false) ∧ Sm w w' := by
  by_cases hk : σ.ok l = true
  · have c := (h.cell hk).1
    have hv : (σ.get l).v ≠ 0 := by simpa [TS.free, hk] using hf
    generalize (σ.get l).v = v at *
    go_enter Try.func62, Try.ntmps62
    go_wp2_with (go_at_call 61; refine (cell_in _ _ h.toTrM hk).mono ?_; rintro e w' ⟨rfl, k, rfl⟩)
    go_ret
    exact ⟨rfl, _, rfl⟩
  · go_enter Try.func62, Try.ntmps62
    go_wp2_with (go_at_call 61; refine (cell_no _ _ h.toTrM (by simpa using hk)).mono ?_; rintro e w' ⟨rfl, rfl⟩)
    go_ret
    exact ⟨rfl, Sm.refl _⟩

theorem encCells_set : ∀ (vs : List Cell) (i : Nat) (c : Cell), i < vs.length →
    (((((encCells vs).set (i * 5) (.int .i64 c.v)).set (i * 5 + 1) (.int .i64 c.lv)).set (i * 5 + 2) (.int .i64 c.rs)).set (i * 5 + 3) (.int .i64 c.pl)).set (i * 5 + 4) (.bool c.ph) = encCells (vs.set i c) := by
  intro vs
  induction vs with
  | nil => intro i c h; simp at h
  | cons d vs ih =>
    intro i c h
    cases i with
    | zero => simp [encCells, Cell.vals]
    | succ i =>
      have e : ∀ k, (i + 1) * 5 + k = d.vals.length + (i * 5 + k) := by intro k; simp [Cell.vals]; omega
      have e0 := e 0
      simp only [Nat.add_zero] at e0
      have hs : ∀ (A B : List Value) (k : Nat) (x : Value), (A ++ B).set (A.length + k) x = A ++ B.set k x := by
        intro A B k x; rw [List.set_append, if_neg (by omega), Nat.add_sub_cancel_left]
      have h5 := ih i c (by simpa using h)
      simp only [encCells, List.flatMap_cons, List.set_cons_succ] at h5 ⊢
      rw [e 1, e 2, e 3, e 4, e0, hs, hs, hs, hs, hs, h5]

/-- What the store of a whole cell leaves. -/
theorem TrM.stored {o : Own} {w : World} {tb : Nat} {σ : TS} {vb : Nat} {lv sv : Value} (h : TrM w o tb σ vb lv sv) {l : Int} (hok : σ.ok l = true) (c : Cell) {w1 : World}
    (hw : w1 = ((((w.setCell ⟨vb, vi l * 5, none⟩ (.int .i64 c.v)).setCell ⟨vb, vi l * 5 + 1, none⟩ (.int .i64 c.lv)).setCell ⟨vb, vi l * 5 + 2, none⟩ (.int .i64 c.rs)).setCell ⟨vb, vi l * 5 + 3, none⟩ (.int .i64 c.pl)).setCell ⟨vb, vi l * 5 + 4, none⟩ (.bool c.ph)) :
    Fr (fun r => r = 2) o o w w1 ∧ w1.heap.size = w.heap.size ∧ w1.heap[vb]? = some (.cells (encCells (σ.vars.set (vi l) c)).toArray 97 (0, 0)) := by
  subst hw
  refine ⟨?_, by simp, ?_⟩
  · exact ((((Fr.setCell _ _ h.hv).trans (Fr.setCell _ _ h.hv)).trans (Fr.setCell _ _ h.hv)).trans (Fr.setCell _ _ h.hv)).trans (Fr.setCell _ _ h.hv)
  · rw [heap_setCell_same _ _ _ _ _ _ (heap_setCell_same _ _ _ _ _ _ (heap_setCell_same _ _ _ _ _ _ (heap_setCell_same _ _ _ _ _ _ (heap_setCell_same _ _ _ _ _ _ h.vars))))]
    simp only [List.setIfInBounds_toArray]
    rw [encCells_set _ _ _ (vi_lt hok)]

/-- The roles of a trail's blocks. -/
def trS (r : Nat) : Prop := 1 ≤ r ∧ r ≤ 4
/-- The trail at tb is now σ; nothing but its blocks has turned. -/
def TrPost (o : Own) (w : World) (tb : Nat) (σ : TS) (w' : World) : Prop := ∃ o', Tr w' o' tb σ ∧ Cl o' w' ∧ Fr trS o o' w w'

/-- .. as far as memory goes. -/
def TrMPost (o : Own) (w : World) (tb : Nat) (σ : TS) (w' : World) : Prop := ∃ o', (∃ vb lv sv, TrM w' o' tb σ vb lv sv) ∧ Cl o' w' ∧ Fr trS o o' w w'
theorem TrMPost.wf {o : Own} {w : World} {tb : Nat} {σ : TS} {w' : World} (h : TrMPost o w tb σ w') (hw : σ.WF) : TrPost o w tb σ w' := by
  obtain ⟨o', ⟨vb, lv, sv, h1⟩, h2, h3⟩ := h; exact ⟨o', ⟨vb, lv, sv, h1.at_ hw⟩, h2, h3⟩

set_option maxHeartbeats 1000000 in
set_option maxRecDepth 100000 in
theorem put_core {o : Own} {tb : Nat} {σ : TS} {vb : Nat} {lv sv : Value} (l r : Int) (w : World) (h : TrM w o tb σ vb lv sv) (hlt : σ.l.length < 100000) (hf : σ.free l = true) (hcl : Cl o w) :
    Calls Try.prog 62 #[.pointer (some ⟨tb, 0, none⟩), .int .i64 l, .int .i64 r] w fun e w' => e = .returned (.bool true) ∧ TrMPost o w tb (σ.put l r) w' := by
  have hf' := hf
  simp only [TS.free, Bool.and_eq_true, beq_iff_eq] at hf'
  obtain ⟨hk, hv⟩ := hf'
  obtain ⟨k0, k1, k2, k3, k4⟩ := h.cell hk
  rw [hv] at k0
  have f1 := h.fv (vi l * 5)
  have f2 := h.fv (vi l * 5 + 1)
  have f3 := h.fv (vi l * 5 + 2)
  have f4 := h.fv (vi l * 5 + 3)
  have f5 := h.fv (vi l * 5 + 4)
  have c1 := h.c1
  have c2 := h.c2
  have H := Lib.hid h
  obtain ⟨la, lcap, rfl⟩ := h.l.form
  obtain ⟨sa, scap, rfl⟩ := h.st.form
  have HL : Hid (σ.l.length ≤ 1000000000) := by show _ ≤ _; omega
  go_enter Try.func62, Try.ntmps62
  go_wp2_with (go_at_call 61; refine (cell_in _ _ h hk).mono ?_; rintro e w' ⟨rfl, k, rfl⟩)
  all_goals go_region
  all_goals
    generalize hW : World.setCell (World.setCell (World.setCell (World.setCell (World.setCell _ _ _) _ _) _ _) _ _) _ _ = w1
    have hs1 := H.out.sm (⟨k + 1, rfl⟩ : Sm w (w.drewN (k + 1)))
    have hs2 := hs1.stored hk ⟨sgn l, σ.st.length, r, σ.l.length, decide (0 < l)⟩ (w1 := w1) (by rw [← hW]; unfold sgn; first | rw [if_pos (by omega)] | rw [if_neg (by omega)])
    clear hW
    obtain ⟨fr1, hsz, hvb⟩ := hs2
    have d1 := fr1.keeps hs1.head (by rw [hs1.ht]; decide)
    have r1 := hs1.l.keeps fr1 (by decide)
    have c1' : w1.cell? ⟨tb, 1, none⟩ = some (.slice la σ.l.length lcap) := cell_of_row w1 tb 1 _ 93 _ d1.1
    have htb : tb < w1.heap.size := by rw [hsz]; exact (Array.getElem?_eq_some_iff.1 hs1.head).1
    have CL1 : Hid (Cl o w1) := by intro x hx; rw [hsz] at hx; exact hcl x hx
    clear k0 k1 k2 k3 k4 f1 f2 f3 f4 f5 c1 c2 h
    have R1 := Lib.hid r1
    have HVB := Lib.hid hvb
    have FR1 := Lib.hid fr1
    have D1 := Lib.hid d1
    have HS1 := Lib.hid hs1
    clear r1 hvb fr1 d1 hs1 hsz hv hcl
    go_wp2_with
      (at_builtin
       refine append_int (R1.out.keeps (S := fun _ => False) (Fr.alloc0 _) id) (CL1.out.alloc0 _) HL.out rfl (.tmp 44) (.tmp 46) rfl rfl rfl (World.cell?_alloc_new ..) ?_
       intro g cap w2 o2 hr2 hcl2 hfr2
       have fr12 : Fr (fun r => r = 3) o o2 w1 w2 := (Fr.alloc0 _).trans hfr2
       have d2 := fr12.keeps D1.out.1 (by rw [H.out.ht]; decide)
       have g1' : w2.frozen? ⟨tb, 1, none⟩ = false := frozen_of_row w2 tb 1 _ 93 d2.1
       have c2' : w2.cell? ⟨tb, 1, none⟩ = some (.slice la σ.l.length lcap) := cell_of_row w2 tb 1 _ 93 _ d2.1
       have R2 := Lib.hid hr2
       have CL2 := Lib.hid hcl2
       have F2 := Lib.hid fr12
       have D2 := Lib.hid d2
       clear hr2 hcl2 fr12 d2 hfr2 c1')
    go_ret
    have hvb := F2.out.keeps HVB.out (by rw [H.out.hv]; decide)
    have hst := (HS1.out.st.keeps FR1.out (by decide)).keeps F2.out (by decide)
    have fr3 : Fr (fun r => r = 1) o2 o2 w2 (w2.setCell ⟨tb, 1, none⟩ (.slice (some ⟨g, 0, none⟩) (σ.l.length + 1) cap)) := Fr.setCell _ _ (D2.out.2.trans H.out.ht)
    have T : TrM (w2.setCell ⟨tb, 1, none⟩ (.slice (some ⟨g, 0, none⟩) (σ.l.length + 1) cap)) o2 tb (σ.put l r) vb (.slice (some ⟨g, 0, none⟩) (σ.l.length + 1) cap) (.slice sa σ.st.length scap) := by
      refine ⟨by simpa [TS.put] using H.out.nle, by simp [TS.put]; omega, H.out.sle, ?_, D2.out.2.trans H.out.ht, ?_, hvb.2.trans H.out.hv, ?_, hst.keeps fr3 (by decide)⟩
      · rw [heap_setCell_same _ _ _ _ _ _ D2.out.1]; simp [TS.put]
      · exact (fr3.keeps hvb.1 (by rw [hvb.2, H.out.hv]; decide)).1
      · exact R2.out.keeps fr3 (by decide)
    exact ⟨rfl, o2, ⟨vb, _, _, T⟩, CL2.out.setCell _ _, (((Fr.sm ⟨k + 1, rfl⟩).trans (FR1.out.mono fun _ h => by unfold trS; omega)).trans (F2.out.mono fun _ h => by unfold trS; omega)).trans (fr3.mono fun _ h => by unfold trS; omega)⟩
theorem put_yes {o : Own} {tb : Nat} {σ : TS} {vb : Nat} {lv sv : Value} (l r : Int) (w : World) (h : TrAt w o tb σ vb lv sv) (hf : σ.free l = true) (hcl : Cl o w) :
    Calls Try.prog 62 #[.pointer (some ⟨tb, 0, none⟩), .int .i64 l, .int .i64 r] w fun e w' => e = .returned (.bool true) ∧ TrPost o w tb (σ.put l r) w' := by
  have hw := h.wf.put (r := r) hf
  have h1 := hw.len
  have h2 := hw.nle
  refine (put_core l r w h.toTrM (by simp [TS.put] at h1 h2; omega) hf hcl).mono ?_
  rintro e w' ⟨he, hp⟩
  exact ⟨he, hp.wf hw⟩

theorem decide_no {o : Own} {tb : Nat} {σ : TS} {vb : Nat} {lv sv : Value} (l : Int) (w : World) (h : TrAt w o tb σ vb lv sv) (hf : σ.free l = false) :
    Calls Try.prog 29 #[.pointer (some ⟨tb, 0, none⟩), .int .i64 l] w fun e w' => e = .returned (.bool false) ∧ Sm w w' := by
  by_cases hk : σ.ok l = true
  · have c := (h.cell hk).1
    have hv : (σ.get l).v ≠ 0 := by simpa [TS.free, hk] using hf
    generalize (σ.get l).v = v at *
    go_enter Try.func29, Try.ntmps29
    go_wp2_with (go_at_call 61; refine (cell_in _ _ h.toTrM hk).mono ?_; rintro e w' ⟨rfl, k, rfl⟩)
    go_ret
    exact ⟨rfl, _, rfl⟩
  · go_enter Try.func29, Try.ntmps29
    go_wp2_with (go_at_call 61; refine (cell_no _ _ h.toTrM (by simpa using hk)).mono ?_; rintro e w' ⟨rfl, rfl⟩)
    go_ret
    exact ⟨rfl, Sm.refl _⟩

set_option maxHeartbeats 1000000 in
set_option maxRecDepth 100000 in
theorem decide_yes {o : Own} {tb : Nat} {σ : TS} {vb : Nat} {lv sv : Value} (l : Int) (w : World) (h : TrAt w o tb σ vb lv sv) (hf : σ.free l = true) (hcl : Cl o w) :
    Calls Try.prog 29 #[.pointer (some ⟨tb, 0, none⟩), .int .i64 l] w fun e w' => e = .returned (.bool true) ∧ TrPost o w tb (σ.decide_ l) w' := by
  have hf' := hf
  simp only [TS.free, Bool.and_eq_true, beq_iff_eq] at hf'
  obtain ⟨hk, hv⟩ := hf'
  obtain ⟨k0, k1, k2, k3, k4⟩ := h.cell hk
  rw [hv] at k0
  have c1 := h.c1
  have c2 := h.c2
  have H := Lib.hid h
  have hwd := h.wf.decided hf
  have WD := Lib.hid hwd
  have HLT : Hid (σ.l.length < 100000) := by
    have h1 := hwd.len; have h2 := hwd.nle
    show _ < _
    simp [TS.decide_, TS.put] at h1 h2; omega
  obtain ⟨la, lcap, rfl⟩ := h.l.form
  obtain ⟨sa, scap, rfl⟩ := h.st.form
  have HL : Hid (σ.st.length ≤ 1000000000) := by have := h.sle; show _ ≤ _; omega
  have HSL : Hid (σ.st.length ≤ 100000) := by have := h.wf.lev; have := h.lle; show _ ≤ _; omega
  have CL := Lib.hid hcl
  clear hcl hv hwd
  go_enter Try.func29, Try.ntmps29
  go_wp2_with (go_at_call 61; refine (cell_in _ _ h.toTrM hk).mono ?_; rintro e w' ⟨rfl, k, rfl⟩)
  have H1 : Hid (TrAt (w.drewN (k + 1)) o tb σ vb (.slice la σ.l.length lcap) (.slice sa σ.st.length scap)) := H.out.sm ⟨k + 1, rfl⟩
  have CL1 : Hid (Cl o (w.drewN (k + 1))) := CL.out.sm ⟨k + 1, rfl⟩
  have htb : tb < w.heap.size := (Array.getElem?_eq_some_iff.1 h.head).1
  clear k0 k1 k2 k3 k4 h
  have c1d : ∀ X, ((w.drewN (k + 1)).alloc X).cell? ⟨tb, 1, none⟩ = some (.slice la σ.l.length lcap) := fun X => (World.cell?_alloc_past _ _ _ htb).trans c1
  have c2d : ∀ X, ((w.drewN (k + 1)).alloc X).cell? ⟨tb, 2, none⟩ = some (.slice sa σ.st.length scap) := fun X => (World.cell?_alloc_past _ _ _ htb).trans c2
  go_region_law
    (refine append_int_step (H1.out.st.keeps (S := fun _ => False) (Fr.alloc0 _) id) (CL1.out.alloc0 _) HL.out rfl (.tmp 22) (.tmp 28) rfl rfl rfl (World.cell?_alloc_new ..) ?_
     intro g cap w2 o2 hr2 hcl2 hfr2
     have fr12 : Fr (fun r => r = 4) o o2 (w.drewN (k + 1)) w2 := (Fr.alloc0 _).trans hfr2
     have d2 := fr12.keeps H1.out.head (by rw [H.out.ht]; decide)
     have g1' : w2.frozen? ⟨tb, 2, none⟩ = false := frozen_of_row w2 tb 2 _ 93 d2.1
     have c2' : w2.cell? ⟨tb, 2, none⟩ = some (.slice sa σ.st.length scap) := cell_of_row w2 tb 2 _ 93 _ d2.1
     have R2 := Lib.hid hr2
     have CL2 := Lib.hid hcl2
     have F2 := Lib.hid fr12
     have D2 := Lib.hid d2
     clear hr2 hcl2 fr12 d2 hfr2)
  all_goals
    have fr3 : Fr (fun r => r = 1) o2 o2 w2 (w2.setCell ⟨tb, 2, none⟩ (.slice (some ⟨g, 0, none⟩) (σ.st.length + 1) cap)) := Fr.setCell _ _ (D2.out.2.trans H.out.ht)
    have T : TrM (w2.setCell ⟨tb, 2, none⟩ (.slice (some ⟨g, 0, none⟩) (σ.st.length + 1) cap)) o2 tb { σ with st := σ.st ++ [(σ.l.length : Int)] } vb (.slice la σ.l.length lcap) (.slice (some ⟨g, 0, none⟩) (σ.st.length + 1) cap) := by
      have hvb := F2.out.keeps H1.out.vars (by rw [H.out.hv]; decide)
      refine ⟨H.out.nle, H.out.lle, by have := HSL.out; simp; omega, ?_, D2.out.2.trans H.out.ht, ?_, hvb.2.trans H.out.hv, (H1.out.l.keeps F2.out (by decide)).keeps fr3 (by decide), ?_⟩
      · rw [heap_setCell_same _ _ _ _ _ _ D2.out.1]; simp
      · exact (fr3.keeps hvb.1 (by rw [hvb.2, H.out.hv]; decide)).1
      · exact R2.out.keeps fr3 (by decide)
    have CL3 : Hid (Cl o2 (w2.setCell ⟨tb, 2, none⟩ (.slice (some ⟨g, 0, none⟩) (σ.st.length + 1) cap))) := CL2.out.setCell _ _
    generalize hW3 : w2.setCell ⟨tb, 2, none⟩ (.slice (some ⟨g, 0, none⟩) (σ.st.length + 1) cap) = w3 at CL3 T fr3 ⊢
    have F3 := Lib.hid fr3
    have HT := Lib.hid T
    clear hW3 fr3 T c1 c2 c2' g1' c1d c2d
    go_wp2_with (go_at_call 62; refine (put_core _ _ _ HT.out HLT.out hf CL3.out).mono ?_; rintro e w4 ⟨rfl, HP⟩)
    go_ret
    refine ⟨rfl, ?_⟩
    obtain ⟨o4, h4, hc4, hf4⟩ := HP
    exact TrMPost.wf ⟨o4, h4, hc4, (((Fr.sm ⟨k + 1, rfl⟩).trans (F2.out.mono fun _ h => by unfold trS; omega)).trans (F3.out.mono fun _ h => by unfold trS; omega)).trans hf4⟩ WD.out
end Go.Proofs.Ytpjiemffkkfbkaa
