/- The walk of fit (watch). -/
import Derived.Test.YtpjiemffkkfbkaaL3
import Derived.Test.YtpjiemffkkfbkaaPB
namespace Go.Proofs.Ytpjiemffkkfbkaa
open Go.RowKit

def exL : List (List Int) := [[1, 2], [-2, 3]]
def exS : SS := plusAll 3 (normF exL)
def exS1 : SS := exS.propagate.1
def exS2 : SS := { exS1 with T := exS1.T.decide_ (-1) }
def exS3 : SS := exS2.propagate.1

theorem exN : normF exL = [[1, 2], [-2, 3]] := by decide
theorem ex1 : exS.propagate.2 = none := by decide
theorem ex2 : exS1.T.l.length = 0 ∧ exS1.T.free (-1) = true := by decide
theorem ex3 : exS2.propagate.2 = none := by decide
theorem ex4 : exS3.T.l.length = 3 ∧ exS3.T.value 3 = 1 ∧ exS3.T.reason 3 = 5 ∧ exS3.A.has 1 = false := by decide

theorem ex_good : Good 3 (normF exL) exS := by
  obtain ⟨h1, h2, h3⟩ := normF_ok (n := 3) (L := exL) (by decide) (by decide)
  exact (good_built (by decide) h1 h2 h3).1
theorem ex_good1 : Good 3 (normF exL) exS1 := ex_good.propagate.1
theorem ex_good2 : Good 3 (normF exL) exS2 := ex_good1.decide (ex_good.ready ex1) ex2.2
theorem ex_good3 : Good 3 (normF exL) exS3 := ex_good2.propagate.1

theorem Good.tot4 {n : Nat} {CL : List (List Int)} {S : SS} (h : Good n CL S) (hl : CL.length ≤ 1000) : Ytpjiemffkkfbkaa.tot S.W.lists ≤ 400000000 ∧ S.W.pend.length ≤ 1000000000 := by
  have h1 := h.tot; have h2 := h.pend; omega

/-- A list of lists as the program writes it down. -/
theorem rm_two {w w' : World} {a b c d : Int} {v : Value} {n : Nat} (h0 : w.heap.size = n) (h : w' = ((w.alloc (.cells #[.int .i64 a, .int .i64 b] 3)).alloc (.cells #[.int .i64 c, .int .i64 d] 3)).alloc (.cells #[.slice (some ⟨n, 0, none⟩) 2 2, .slice (some ⟨n + 1, 0, none⟩) 2 2] 32))
    (hv : v = .slice (some ⟨n + 1 + 1, 0, none⟩) 2 2) : Rm w' (fun _ => True) v [[a, b], [c, d]] ∧ Same w w' := by
  subst h0
  have hs : Same w w' := by rw [h]; exact ((Fr.alloc0 _).trans (Fr.alloc0 _)).trans (Fr.alloc0 _)
  have b2 : w'.heap[w.heap.size + 1 + 1]? = some (.cells #[.slice (some ⟨w.heap.size, 0, none⟩) 2 2, .slice (some ⟨w.heap.size + 1, 0, none⟩) 2 2] 32 (0, 0)) := by
    rw [h]; simpa using heap_alloc_new ((w.alloc (.cells #[.int .i64 a, .int .i64 b] 3)).alloc (.cells #[.int .i64 c, .int .i64 d] 3)) _
  have b1 : w'.heap[w.heap.size + 1]? = some (.cells #[.int .i64 c, .int .i64 d] 3 (0, 0)) := by
    rw [h, heap_alloc_old _ _ (by simp)]; simpa using heap_alloc_new (w.alloc (.cells #[.int .i64 a, .int .i64 b] 3)) _
  have b0 : w'.heap[w.heap.size]? = some (.cells #[.int .i64 a, .int .i64 b] 3 (0, 0)) := by
    rw [h, heap_alloc_old _ _ (by simp; omega), heap_alloc_old _ _ (by simp)]; exact heap_alloc_new w _
  have cells : ∀ (x y : Int) (g : Nat), w'.heap[g]? = some (.cells #[.int .i64 x, .int .i64 y] 3 (0, 0)) → Rl w' (fun _ => True) (.slice (some ⟨g, 0, none⟩) 2 2) [x, y] := by
    intro x y g hg
    refine .inr ⟨g, 0, 2, rfl, Nat.le_refl _, fun _ => trivial, fun j z hj => ?_⟩
    rw [cell_of_row w' g (0 + j) _ 3 _ hg]
    match j, hj with
    | 0, hj => simp at hj; subst hj; rfl
    | 1, hj => simp at hj; subst hj; rfl
  refine ⟨.inr ⟨w.heap.size + 1 + 1, 0, 2, hv, Nat.le_refl _, fun _ => trivial, fun j z hj => ?_⟩, hs⟩
  match j, hj with
  | 0, hj => simp at hj; subst hj; exact ⟨_, cell_of_row w' _ 0 _ 32 _ b2, cells _ _ _ b0⟩
  | 1, hj => simp at hj; subst hj; exact ⟨_, cell_of_row w' _ 1 _ 32 _ b2, cells _ _ _ b1⟩

theorem fellE_none {R : SS × Option Int} (h : R.2 = none) : fellE R = .returned (.tuple #[.int .i64 0, .bool true]) := by unfold fellE; rw [h]; rfl
theorem fellE_some {R : SS × Option Int} {r : Int} (h : R.2 = some r) : fellE R = .returned (.tuple #[.int .i64 r, .bool false]) := by unfold fellE; rw [h]; rfl

set_option maxHeartbeats 2000000 in
theorem fit13_any (w : World) : Calls Try.prog 15 #[] w (SameBool w true) := by
  have hN : Hid (normF exL = [[1, 2], [-2, 3]]) := exN
  have hex2 := Lib.hid ex2
  have hex4 := Lib.hid ex4
  go_enter Try.func15, Try.ntmps15
  go_wp2_with fail
  obtain ⟨hrm, hs0⟩ := rm_two (a := 1) (b := 2) (c := -2) (d := 3) (w := w) rfl rfl rfl
  refine (begin_any _ 3 exL _ hrm (by omega) (by decide) (by decide) (by decide)).mono ?_
  intro e w1 hb
  obtain ⟨xb, o, rfl, hA, hno, hxb, hs1⟩ := AllW.of hb
  have HS1 := Lib.hid (hs0.trans hs1)
  have hno2 : New o w.heap.size := hno.mono hs0.size
  have HNO := Lib.hid hno2
  clear hb hs1 hs0 hrm hno hno2
  have hA : AllW w1 o xb exS (normF exL) := hA
  have HA := Lib.hid hA
  obtain ⟨ab, tb, wb, lb, lvs, mb, M, hsys, hx⟩ := hA
  have cx2 := cell_of_row _ xb 2 _ 41 _ hx.hx
  have HX := Lib.hid hx
  clear hx
  go_wp2_with fail
  refine (propagate_any _ hsys ex_good.safe (ex_good.tot4 (by decide)).1 (ex_good.tot4 (by decide)).2).mono ?_
  rintro e w2 ⟨he, lvs2, hp⟩
  rw [fellE_none ex1] at he
  subst he
  obtain ⟨o2, h2, hf2⟩ := AllPost.sys HX.out hp
  have HF2 := Lib.hid hf2
  clear hp hf2 HX HA hsys cx2
  have h2' : AllW w2 o2 xb exS1 (normF exL) := h2
  clear h2
  obtain ⟨ab, tb, wb, lb, lvs, mb, M, hsys, hx⟩ := h2'
  have cx1 := cell_of_row _ xb 1 _ 41 _ hx.hx
  have HX := Lib.hid hx
  obtain ⟨vb, lv, sv, htr⟩ := hsys.tr
  have HTR := Lib.hid htr
  have HSYS := Lib.hid hsys
  clear hx htr hsys
  go_upto_region 8 with (first
    | (go_at_call 25; refine (len_any _ HTR.out.toTrM).mono ?_; rintro e w3 ⟨rfl, rfl⟩; rw [hex2.out.1])
    | (go_at_call 29; refine (decide_yes _ _ HTR.out hex2.out.2 HSYS.out.cl).mono ?_; rintro e w3 ⟨rfl, hp⟩
       obtain ⟨o3, h3, hf3⟩ := AllPost.sys HX.out (HSYS.out.trail hp)
       have h3' : AllW w3 o3 xb exS2 (normF exL) := h3
       have H3 := Lib.hid h3'
       have HF3 := Lib.hid hf3
       clear hp h3 hf3 h3'
       obtain ⟨ab3, tb3, wb3, lb3, lvs3, mb3, M3, hsys3, hx3⟩ := H3.out
       have cy2 := cell_of_row _ xb 2 _ 41 _ hx3.hx
       have HX3 := Lib.hid hx3
       have HSYS3 := Lib.hid hsys3
       clear hx3 hsys3)
    | (go_at_call 19; refine (propagate_any _ HSYS3.out ex_good2.safe (ex_good2.tot4 (by decide)).1 (ex_good2.tot4 (by decide)).2).mono ?_; rintro e w4 ⟨he, lvs4, hp⟩; rw [fellE_none ex3] at he; subst he
       obtain ⟨o4, h4, hf4⟩ := AllPost.sys HX3.out hp
       have h4' : AllW w4 o4 xb exS3 (normF exL) := h4
       have H4 := Lib.hid h4'
       have HF4 := Lib.hid hf4
       clear hp h4 hf4 h4'))
  obtain ⟨ab4, tb4, wb4, lb4, lvs5, mb4, M4, hsys4, hx4⟩ := H4.out
  have cz1 := cell_of_row _ xb 1 _ 41 _ hx4.hx
  have cz2 := cell_of_row _ xb 2 _ 41 _ hx4.hx
  obtain ⟨vb4, lv4, sv4, htr4⟩ := hsys4.tr
  have HTR4 := Lib.hid htr4
  have HSYS4 := Lib.hid hsys4
  have htr5 : TrM w4 o4 tb4 exS3.T vb4 lv4 sv4 := htr4.toTrM
  have HTM := Lib.hid htr5
  have HCZ := Lib.hid (And.intro cz1 cz2)
  have HXX4 := Lib.hid hx4
  clear htr4 htr5 hsys4 hx4
  go_wp2_with (first
    | (go_at_call 25; refine (len_any _ HTM.out).mono ?_; rintro e w5 ⟨rfl, rfl⟩; rw [hex4.out.1])
    | (go_at_call 39; refine (value_any 3 _ HTR4.out).mono ?_; rintro e w5 ⟨rfl, k5, rfl⟩; rw [hex4.out.2.1]
       have cw1 : (w4.drewN k5).cell? ⟨xb, 1, none⟩ = _ := HCZ.out.1
       have cw2 : (w4.drewN k5).cell? ⟨xb, 2, none⟩ = _ := HCZ.out.2)
    | (go_at_call 50; refine (reason_any 3 _ (HTR4.out.sm ⟨_, rfl⟩)).mono ?_; rintro e w5 ⟨rfl, k6, rfl⟩; rw [hex4.out.2.2.1]; rw [World.drewN_drewN]
       have cv2 : (w4.drewN (k5 + k6)).cell? ⟨xb, 2, none⟩ = _ := HCZ.out.2)
    | (go_at_call 51; refine (attach_no 1 _ (HSYS4.out.sm ⟨_, rfl⟩) hex4.out.2.2.2).mono ?_; rintro e w5 ⟨rfl, rfl⟩))
  go_ret
  refine ⟨rfl, ?_⟩
  have hf : Fr sysS o o4 w1 w4 := (HF2.out.trans HF3.out).trans HF4.out
  exact (HS1.out.thenNew hf HNO.out (fun h => h rfl)).trans (Fr.sm ⟨_, rfl⟩)
end Go.Proofs.Ytpjiemffkkfbkaa
