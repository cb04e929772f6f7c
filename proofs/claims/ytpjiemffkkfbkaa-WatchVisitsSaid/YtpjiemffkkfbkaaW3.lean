/- The walk of the propagator's Attach. -/
import Derived.Test.YtpjiemffkkfbkaaW2
namespace Go.Proofs.Ytpjiemffkkfbkaa
open Go.RowKit

section
variable {o : Own} {ab tb wb lb : Nat} {lvs : List Value} {S : SS}

theorem attach_no (r : Int) (w : World) (h : Sys w o ab tb wb lb lvs S) (hh : S.A.has r = false) :
    Calls Try.prog 51 #[.pointer (some ⟨wb, 0, none⟩), .int .i64 r] w fun e w' => e = .returned (.bool false) ∧ w = w' := by
  obtain ⟨pv, hw⟩ := h.wt
  obtain ⟨wv, mb, ha⟩ := h.ar
  have c0 := hw.c0
  have HA := Lib.hid ha
  have HH := Lib.hid hh
  clear h hw ha hh
  go_enter Try.func51, Try.ntmps51
  go_wp2_with (go_at_call 57; refine (has_any _ _ HA.out).mono ?_; rintro e w' ⟨rfl, rfl⟩; rw [HH.out])
  go_ret
  exact ⟨rfl, rfl⟩

/-- The system has turned; headers of lists too. -/
def SysTurn (o : Own) (w : World) (ab tb wb lb : Nat) (S : SS) (w' : World) : Prop := ∃ lvs, SysPost o w ab tb wb lb lvs S w'

theorem lit_ok {S : SS} {r : Int} (hA : ∀ l ∈ S.A.lits r, S.T.ok l = true) {i : Nat} (hi : i < S.A.len r) : S.T.ok (S.A.lit r i) = true := by
  rw [lit_nat _ _ _ hi, List.getD_eq_getElem?_getD, List.getElem?_eq_getElem hi]
  exact hA _ (List.getElem_mem hi)
theorem lit_ne {S : SS} {r : Int} (hA : ∀ l ∈ S.A.lits r, S.T.ok l = true) {i : Nat} (hi : i < S.A.len r) : S.A.lit r i ≠ 0 := by
  have := lit_ok hA hi
  unfold TS.ok at this
  rw [litIn_iff] at this
  exact this.1

theorem addW_len (W : WS) (l : Int) (x : Wx) (i : Nat) : ((SS.addW W l x).lists.getD i []).length ≤ (W.lists.getD i []).length + 1 := by
  simp only [SS.addW, List.getD_eq_getElem?_getD, List.getElem?_set]
  split
  · rename_i e; subst e
    split
    · simp
    · rename_i hn; rw [List.getElem?_eq_none (by omega)]; simp
  · omega

/-- A clause more is pending. -/
theorem pendShut {w0 w w3 : World} {o o3 : Own} {ab tb wb : Nat} {S : SS} {r : Int} {lb : Nat} {lvs : List Value} {pv pv3 : Value} (h : Sys w0 o ab tb wb lb lvs S) (hw : WtAt w0 o ab tb wb S.W lb lvs pv) (h0 : Fr (fun _ => False) o o w0 w)
    (hf : Fr (fun r => r = 10) o o3 w w3) (hr : ORow w3 o3 10 pv3 (S.W.pend ++ [r])) (hc : Cl o3 w3) :
    SysPost o w0 ab tb wb lb lvs { S with W := { S.W with pend := S.W.pend ++ [r] } } (w3.setCell ⟨wb, 3, none⟩ pv3) := by
  have hf0 : Fr wtS o o3 w0 w3 := (h0.mono fun _ h => h.elim).trans (hf.mono fun r hr => by unfold wtS; omega)
  have hh := hf.keeps (h0.keeps hw.head id).1 (by rw [hw.hw]; omega)
  have hwb : o3 wb = 8 := hh.2.trans hw.hw
  have fs : Fr (fun r => r = 8) o3 o3 w3 (w3.setCell ⟨wb, 3, none⟩ pv3) := Fr.setCell _ _ hwb
  have d3 := hf.keeps (h0.keeps hw.blk id).1 (by rw [hw.hl]; omega)
  refine h.watch (W := { S.W with pend := S.W.pend ++ [r] }) (lb := lb) (lvs := lvs) (pv := pv3) ⟨?_, hwb, ?_, d3.2.trans hw.hl, hw.len, hw.small, ?_, hr.keeps fs (by decide)⟩ (hc.setCell _ _) (hf0.trans (fs.mono fun r hr => by unfold wtS; omega))
  · rw [heap_setCell_same _ _ _ _ _ _ hh.1]; rfl
  · exact (fs.keeps d3.1 (by rw [d3.2, hw.hl]; decide)).1
  · intro i v hv; exact (((hw.rows i v hv).keeps h0 id).keeps hf (by omega)).keeps fs (by omega)

set_option maxHeartbeats 1000000 in
set_option maxRecDepth 100000 in
theorem attach_yes (r : Int) (w : World) (h : Sys w o ab tb wb lb lvs S) (hh : S.A.has r = true) (hA : ∀ l ∈ S.A.lits r, S.T.ok l = true) (hn : S.W.lists.length = 2 * S.T.vars.length)
    (hlen : ∀ i, (S.W.lists.getD i []).length ≤ 100000000) (hp : S.W.pend.length ≤ 100000000) :
    Calls Try.prog 51 #[.pointer (some ⟨wb, 0, none⟩), .int .i64 r] w fun e w' => e = .returned (.bool true) ∧ SysTurn o w ab tb wb lb (S.attach r) w' := by
  obtain ⟨pv, hw⟩ := h.wt
  obtain ⟨wv, mb, ha⟩ := h.ar
  have c0 := hw.c0
  have c3 := hw.c3
  have hle := ha.lenle r
  have hwb : wb < w.heap.size := (Array.getElem?_eq_some_iff.1 hw.head).1
  have H := Lib.hid h
  have HA := Lib.hid ha
  have HW := Lib.hid hw
  have HH := Lib.hid hh
  have HOK := Lib.hid hA
  have HN := Lib.hid hn
  have HLEN := Lib.hid hlen
  have hp2 : S.W.pend.length ≤ 1000000000 := by omega
  obtain ⟨pa, pcap, rfl⟩ := hw.pend.form
  have HP := Lib.hid hp2
  clear h hw ha hh hA hn hlen hp hp2
  go_enter Try.func51, Try.ntmps51
  go_wp2_with (first
    | (go_at_call 57; refine (has_any _ _ HA.out).mono ?_; rintro e w' ⟨rfl, rfl⟩; rw [HH.out])
    | (at_builtin
       refine (HW.out.pend.keeps (S := fun _ => False) (Fr.alloc0 _) id).append (H.out.cl.alloc0 _) HP.out rfl (.tmp 19) (.tmp 21) rfl rfl rfl (World.cell?_alloc_new ..) ?_
       intro g off cap w3 o3 hr3 hcl3 hfr3
       have fr13 : Fr (fun r => r = 10) o o3 w w3 := (Fr.alloc0 _).trans hfr3
       have d3 := fr13.keeps HW.out.head (by rw [HW.out.hw]; decide)
       have k3 : w3.cell? ⟨wb, 3, none⟩ = some (.slice pa S.W.pend.length pcap) := cell_of_row w3 wb 3 _ 89 _ d3.1
       have kf3 : w3.frozen? ⟨wb, 3, none⟩ = false := frozen_of_row w3 wb 3 _ 89 d3.1
       have k0 : w3.cell? ⟨wb, 0, none⟩ = some (.pointer (some ⟨ab, 0, none⟩)) := cell_of_row w3 wb 0 _ 89 _ d3.1
       have HS3 := Lib.hid (pendShut (r := r) H.out HW.out (Fr.refl _ _ _) fr13 hr3 hcl3)
       clear hr3 hcl3 fr13 d3 hfr3))
  obtain ⟨o4, hs4, hf4⟩ := HS3.out
  generalize hw4 : w3.setCell ⟨wb, 3, none⟩ (.slice (some ⟨g, off, none⟩) (S.W.pend.length + 1) cap) = w4 at hs4 hf4 ⊢
  clear hw4 k3 kf3 k0 c0 c3 HS3
  obtain ⟨S1, hS1⟩ : ∃ S1 : SS, S1 = { S with W := { S.W with pend := S.W.pend ++ [r] } } := ⟨_, rfl⟩
  rw [← hS1] at hs4
  have hAA : S.A = S1.A := by rw [hS1]
  have hok1 : ∀ l ∈ S1.A.lits r, S1.T.ok l = true := by rw [hS1]; exact HOK.out
  have hn1 : S1.W.lists.length = 2 * S1.T.vars.length := by rw [hS1]; exact HN.out
  have hlen1 : ∀ i, (S1.W.lists.getD i []).length ≤ 100000000 := by rw [hS1]; exact HLEN.out
  have hat : S.attach r = if 2 ≤ S1.A.len r then S1.attach2 r else S1 := by unfold SS.attach; rw [hS1]
  rw [hAA] at hle
  have HAT := Lib.hid hat
  have HF4 := Lib.hid hf4
  have HOK1 := Lib.hid hok1
  have HN1 := Lib.hid hn1
  have HL1 := Lib.hid hlen1
  obtain ⟨pv4, hw4⟩ := hs4.wt
  obtain ⟨wv4, mb4, ha4⟩ := hs4.ar
  obtain ⟨vb4, lv4, sv4, ht4⟩ := hs4.tr
  have c0 := hw4.c0
  have hnle := ht4.nle
  have HA4 := Lib.hid ha4
  have HS4 := Lib.hid hs4
  clear hS1 hs4 hf4 hat hok1 hn1 hlen1 hw4 ha4 ht4 hAA H HA HW HH HOK HN HLEN HP
  refine (alen_any _ _ HA4.out).mono ?_
  rintro e w5 ⟨rfl, q5, rfl⟩
  by_cases h2 : 2 ≤ S1.A.len r
  · have h2i : (2 : Int) ≤ (S1.A.len r : Int) := by omega
    have hb0 : Hid (0 < S1.A.len r) := by show _ < _; omega
    have hb1 : Hid (1 < (S1.bring r 0).A.len r) := by show _ < _; rw [SS.bring_len]; omega
    have HOK2 : Hid (∀ l ∈ (S1.bring r 0).A.lits r, (S1.bring r 0).T.ok l = true) := fun l hl => HOK1.out l (SS.bring_mem hb0.out hl)
    have HOK3 : Hid (∀ l ∈ ((S1.bring r 0).bring r 1).A.lits r, ((S1.bring r 0).bring r 1).T.ok l = true) := fun l hl => HOK2.out l (SS.bring_mem hb1.out hl)
    have hq0 : Hid (0 < ((S1.bring r 0).bring r 1).A.len r) := by show _ < _; rw [SS.bring_len, SS.bring_len]; omega
    have hq1 : Hid (1 < ((S1.bring r 0).bring r 1).A.len r) := by show _ < _; rw [SS.bring_len, SS.bring_len]; omega
    go_wp2_with fail
    refine (bring_any r 0 _ (HS4.out.sm ⟨q5, rfl⟩) hb0.out (fun i hi => lit_ne HOK1.out hi)).mono ?_
    rintro e w6 ⟨rfl, o6, hs6, hf6⟩
    have HS6 := Lib.hid hs6
    have HF6 := Lib.hid hf6
    clear hs6 hf6
    go_wp2_with fail
    refine (bring_any r 1 _ HS6.out hb1.out (fun i hi => lit_ne HOK2.out hi)).mono ?_
    rintro e w7 ⟨rfl, o7, hs7, hf7⟩
    obtain ⟨pv7, hw7⟩ := hs7.wt
    obtain ⟨wv7, mb7, ha7⟩ := hs7.ar
    have c0' := hw7.c0
    have HA7 := Lib.hid ha7
    have HS7 := Lib.hid hs7
    have HF7 := Lib.hid hf7
    clear hs7 hf7 hw7 ha7
    go_wp2_with fail
    generalize hS3 : (S1.bring r 0).bring r 1 = S3 at *
    have hn3 : S3.W.lists.length = 2 * S3.T.vars.length := by rw [← hS3]; exact HN1.out
    have hT3 : S3.T = S1.T := by rw [← hS3]; rfl
    have hW3 : S3.W = S1.W := by rw [← hS3]; rfl
    have ok0 := lit_ok HOK3.out hq0.out
    have ok1 := lit_ok HOK3.out hq1.out
    have hnv : S3.T.vars.length ≤ 100000 := by rw [hT3]; exact hnle
    have hli : ∀ i, (S3.W.lists.getD i []).length ≤ 100000000 := by rw [hW3]; exact HL1.out
    have hattach : S.attach r = { S3 with W := SS.addW (SS.addW S3.W (S3.A.lit r 0) ⟨r, S3.A.lit r 1, (S1.A.len r : Int) == 2⟩) (S3.A.lit r 1) ⟨r, S3.A.lit r 0, (S1.A.len r : Int) == 2⟩ } := by
      rw [HAT.out, if_pos h2]; unfold SS.attach2; simp only [hS3]
    have HN3 := Lib.hid hn3
    have HLI := Lib.hid hli
    have HATT := Lib.hid hattach
    have HO0 : Hid (S3.T.ok (S3.A.lit r 0) = true) := ok0
    have HO1 : Hid (S3.T.ok (S3.A.lit r 1) = true) := ok1
    have HLX : Hid ((S3.W.lists.getD (ix (S3.A.lit r 0)) []).length ≤ 1000000000) := by show _ ≤ _; have := HLI.out (ix (S3.A.lit r 0)); omega
    have HLY : Hid (((SS.addW S3.W (S3.A.lit r 0) ⟨r, S3.A.lit r 1, (S1.A.len r : Int) == 2⟩).lists.getD (ix (S3.A.lit r 1)) []).length ≤ 1000000000) := by
      show _ ≤ _
      have h1 := HLI.out (ix (S3.A.lit r 1)); have h2 := addW_len S3.W (S3.A.lit r 0) ⟨r, S3.A.lit r 1, (S1.A.len r : Int) == 2⟩ (ix (S3.A.lit r 1)); omega
    have HN4 : Hid ((SS.addW S3.W (S3.A.lit r 0) ⟨r, S3.A.lit r 1, (S1.A.len r : Int) == 2⟩).lists.length = 2 * S3.T.vars.length) := by show _ = _; rw [← HN3.out]; simp [SS.addW]
    clear hS3 hn3 hT3 hW3 ok0 ok1 hli hattach
    go_quiet ((go_at_call 75; exact quietS (lit_any _ _ _ (HA7.out.sm ⟨_, rfl⟩))))
    go_wp2_with fail
    refine (add_any _ ⟨r, S3.A.lit r 1, (S1.A.len r : Int) == 2⟩ _ (HS7.out.sm ⟨_, rfl⟩) HO0.out HN3.out hnv HLX.out).mono ?_
    rintro e w8 ⟨rfl, v8, o8, hs8, hf8⟩
    have HS8 := Lib.hid hs8
    have HF8 := Lib.hid hf8
    clear hs8 hf8
    go_wp2_with fail
    refine (add_any _ ⟨r, S3.A.lit r 0, (S1.A.len r : Int) == 2⟩ _ HS8.out HO1.out HN4.out hnv HLY.out).mono ?_
    rintro e w9 ⟨rfl, v9, o9, hs9, hf9⟩
    have HS9 := Lib.hid hs9
    have HF9 := Lib.hid hf9
    clear hs9 hf9
    go_wp2
    go_ret
    refine ⟨rfl, ?_⟩
    rw [HATT.out]
    exact ⟨_, o9, HS9.out, ((((HF4.out.trans (Fr.sm ⟨q5, rfl⟩)).trans HF6.out).trans HF7.out).trans ((Fr.sm ⟨_, rfl⟩).trans HF8.out)).trans HF9.out⟩
  · have h2i : (S1.A.len r : Int) < 2 := by omega
    go_wp2
    go_ret
    refine ⟨rfl, ?_⟩
    rw [HAT.out, if_neg h2]
    exact ⟨_, o4, HS4.out.sm ⟨q5, rfl⟩, HF4.out.trans (Fr.sm ⟨q5, rfl⟩)⟩
end
end Go.Proofs.Ytpjiemffkkfbkaa
