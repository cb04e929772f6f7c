/- What the laws of watch share: a propagator with clauses, alone or two of them apart; and what it says when all is assigned. -/
import Derived.Test.YtpjiemffkkfbkaaL4
import Derived.Test.YtpjiemffkkfbkaaQ0
namespace Go.Proofs.Ytpjiemffkkfbkaa
open Go.RowKit
open TS SS

/-! ## Plain -/
theorem cover_len : ∀ (n : Nat) (L : List Nat), (∀ i, i < n → i ∈ L) → n ≤ L.length := by
  intro n
  induction n with
  | zero => intro L _; omega
  | succ n ih =>
    intro L h
    have h1 := h n (by omega)
    have := ih (L.erase n) fun i hi => (List.mem_erase_of_ne (by omega)).2 (h i (by omega))
    rw [List.length_erase_of_mem h1] at this
    have := List.length_pos_of_mem h1
    omega

theorem on_trail {T : TS} (hw : T.WF) {x : Int} : T.value x ≠ 0 ↔ x ∈ T.l ∨ -x ∈ T.l := by
  have h1 := pos_iff hw (x := x)
  have h2 := neg_iff hw (x := x)
  constructor
  · intro h
    rcases Int.lt_or_gt_of_ne h with h | h
    · exact .inr (h2.1 h)
    · exact .inl (h1.1 h)
  · rintro (h | h)
    · have := h1.2 h; omega
    · have := h2.2 h; omega

theorem assigned_full {T : TS} (hw : T.WF) (h : ∀ u : Nat, 1 ≤ u → u ≤ T.vars.length → T.value u ≠ 0) : T.full = true := by
  unfold TS.full
  rw [beq_iff_eq]
  refine Nat.le_antisymm hw.len ?_
  have := cover_len T.vars.length (T.l.map vi) fun i hi => by
    rcases (on_trail hw).1 (h (i + 1) (by omega) (by omega)) with h | h
    · exact List.mem_map.2 ⟨_, h, by unfold vi; omega⟩
    · exact List.mem_map.2 ⟨_, h, by unfold vi; omega⟩
  simpa using this

/-- A literal of the trail holds under the assignment. -/
theorem trail_holds {T : TS} (hw : T.WF) {x : Int} (hx : x ∈ T.l) : litHolds T.assignment x = true := by
  obtain ⟨h1, h2, h3, _⟩ := mem_on hw hx
  have hl : litIn x T.vars.length = true := h1
  rw [litIn_iff] at hl
  have hget : ∀ i, i < T.vars.length → T.assignment.getD i false = ((T.vars.getD i Cell.zero).v == 1 || (T.vars.getD i Cell.zero).v == 0 && (T.vars.getD i Cell.zero).ph) := by
    intro i hi
    unfold TS.assignment
    rw [List.getD_eq_getElem?_getD, List.getD_eq_getElem?_getD, List.getElem?_map, List.getElem?_eq_getElem hi]; rfl
  have hv : T.value x = if x < 0 then -(T.get x).v else (T.get x).v := by unfold TS.value; rw [if_pos h2]
  rw [h3] at hv
  unfold litHolds
  by_cases hp : 0 < x
  · rw [if_pos hp, hget _ (by omega)]
    rw [if_neg (by omega)] at hv
    have e : x.toNat - 1 = vi x := by unfold vi; omega
    rw [e]
    have hv2 : (T.vars.getD (vi x) Cell.zero).v = 1 := hv.symm
    rw [hv2]; rfl
  · rw [if_neg hp, hget _ (by omega)]
    rw [if_pos (by omega)] at hv
    have e : (-x).toNat - 1 = vi x := by unfold vi; omega
    rw [e]
    have hv2 : (T.vars.getD (vi x) Cell.zero).v = -1 := by have : -(T.vars.getD (vi x) Cell.zero).v = 1 := hv.symm; omega
    rw [hv2]; rfl

theorem lit_or {A : List Bool} {x : Int} (hx : x ≠ 0) : litHolds A x = true ∨ litHolds A (-x) = true := by
  unfold litHolds
  by_cases hp : 0 < x
  · rw [if_pos hp, if_neg (by omega), Int.neg_neg]
    cases A.getD (x.toNat - 1) false <;> simp
  · rw [if_neg hp, if_pos (by omega)]
    cases A.getD ((-x).toNat - 1) false <;> simp

/-- The propagator stands still, without a clash. -/
def Done (n : Nat) (CL : List (List Int)) (S : SS) : Prop := ∃ S0, Good n CL S0 ∧ S0.propagate.1 = S ∧ S0.propagate.2 = none

theorem Done.good {n : Nat} {CL : List (List Int)} {S : SS} (h : Done n CL S) : Good n CL S := by
  obtain ⟨S0, h0, rfl, _⟩ := h; exact h0.propagate.1
theorem Done.ready {n : Nat} {CL : List (List Int)} {S : SS} (h : Done n CL S) : Ready S := by
  obtain ⟨S0, h0, rfl, h1⟩ := h; exact h0.ready h1
theorem Done.dec {n : Nat} {CL : List (List Int)} {S : SS} (h : Done n CL S) (l : Int) : Good n CL (S.dec l) := by
  unfold SS.dec
  by_cases hf : S.T.free l = true
  · rw [if_pos hf]; exact h.good.decide h.ready hf
  · rw [if_neg hf]; exact h.good

theorem Good.wf {n : Nat} {CL : List (List Int)} {S : SS} (h : Good n CL S) : S.T.WF := h.wi.wf

theorem prop_val {n : Nat} {CL : List (List Int)} {S : SS} (h : Good n CL S) {x : Int} (hx : S.T.value x ≠ 0) : S.propagate.1.T.value x ≠ 0 := by
  rw [h.propagate.2.ok.step.puts.val hx]; exact hx

theorem dec_val {S : SS} (hw : S.T.WF) (l : Int) {x : Int} (hx : S.T.value x ≠ 0) : (S.dec l).T.value x ≠ 0 := by
  unfold SS.dec
  by_cases hf : S.T.free l = true
  · rw [if_pos hf]
    rw [on_trail (WF.decided hw hf)]
    have : (S.T.decide_ l).l = S.T.l ++ [l] := rfl
    simp only [this, List.mem_append]
    rcases (on_trail hw).1 hx with h | h
    · exact .inl (.inl h)
    · exact .inr (.inl h)
  · rw [if_neg hf]; exact hx

theorem dec_on {S : SS} (hw : S.T.WF) {l : Int} (hl : S.T.ok l = true) : (S.dec l).T.value l ≠ 0 := by
  unfold SS.dec
  by_cases hf : S.T.free l = true
  · rw [if_pos hf]
    rw [on_trail (WF.decided hw hf)]
    have : (S.T.decide_ l).l = S.T.l ++ [l] := rfl
    simp [this]
  · rw [if_neg hf]
    unfold TS.free at hf
    rw [hl, Bool.true_and] at hf
    have hv : (S.T.get l).v ≠ 0 := by simpa using hf
    unfold TS.value TS.on
    rw [hl, Bool.true_and]
    have : ((S.T.get l).v != 0) = true := by simpa using hv
    rw [if_pos this]
    split
    · omega
    · exact hv

theorem step_assigned {n : Nat} {CL : List (List Int)} {S : SS} (h : Done n CL S) {i : Nat} {l : Int} (hl : l = i ∨ l = -(i : Int)) (h1 : 1 ≤ i) (h2 : i ≤ n) (ha : ∀ u : Nat, 1 ≤ u → u < i → S.T.value u ≠ 0) :
    ∀ u : Nat, 1 ≤ u → u < i + 1 → (S.dec l).propagate.1.T.value u ≠ 0 := by
  intro u hu1 hu2
  refine prop_val (h.dec l) ?_
  by_cases hlt : u < i
  · exact dec_val h.good.wf l (ha u hu1 hlt)
  · have hui : u = i := by omega
    subst hui
    have hok : S.T.ok l = true := by
      unfold TS.ok
      rw [h.good.nv, litIn_iff]
      omega
    have h3 := dec_on h.good.wf hok
    have hw := (h.dec l).wf
    rcases hl with rfl | rfl
    · exact h3
    · rw [on_trail hw] at h3 ⊢
      rw [Int.neg_neg] at h3
      exact h3.symm

/-- All is assigned, and nothing clashes: the clauses hold. -/
theorem done_holds {n : Nat} {F : List (List Int)} {S : SS} (hF : ∀ c ∈ F, ∀ l ∈ c, litIn l n = true) (h : Done n (normF F) S) (ha : ∀ u : Nat, 1 ≤ u → u ≤ n → S.T.value u ≠ 0) : holdsF S.T.assignment F = true := by
  have hw := h.good.wf
  obtain ⟨S0, h0, rfl, hR⟩ := h
  obtain ⟨hd, hc⟩ := h0.follows hR
  unfold holdsF
  rw [List.all_eq_true]
  intro c hcF
  unfold clHolds
  rw [List.any_eq_true]
  cases ht : taut c with
  | true =>
    obtain ⟨x, hx, hnx⟩ := (taut_iff c).1 ht
    have hx0 : x ≠ 0 := (litIn_iff.1 (hF c hcF x hx)).1
    rcases lit_or (A := S0.propagate.1.T.assignment) hx0 with h | h
    · exact ⟨x, hx, h⟩
    · exact ⟨-x, hnx, h⟩
  | false =>
    obtain ⟨d, hdF, hdc⟩ := normF_mem hF c hcF ht
    rcases Classical.em (∃ x ∈ c, x ∈ S0.propagate.1.T.l) with ⟨x, hx, hxl⟩ | hno
    · exact ⟨x, hx, trail_holds hw hxl⟩
    · refine absurd (.inr ⟨d, hdF, fun y hy => ?_⟩) hc
      rw [← hd]
      have hyc := (hdc y).1 hy
      have hyl := litIn_iff.1 (hF c hcF y hyc)
      rcases Int.lt_or_gt_of_ne hyl.1 with h1 | h1
      · have hu := ha (-y).toNat (by omega) (by omega)
        have e : (((-y).toNat : Nat) : Int) = -y := by omega
        rw [e] at hu
        rcases (on_trail hw).1 hu with h | h
        · exact h
        · rw [Int.neg_neg] at h; exact absurd ⟨y, hyc, h⟩ hno
      · have hu := ha y.toNat (by omega) (by omega)
        have e : ((y.toNat : Nat) : Int) = y := by omega
        rw [e] at hu
        rcases (on_trail hw).1 hu with h | h
        · exact absurd ⟨y, hyc, h⟩ hno
        · exact h

/-! ## One propagator -/
def AllT (w : World) (o : Own) (xb ab tb wb : Nat) (S : SS) (CL : List (List Int)) : Prop :=
  ∃ lb lvs mb M, Sys w o ab tb wb lb lvs S ∧ XAt w (fun b => o b = 0) xb ab tb wb mb M CL

section
variable {w w' : World} {o : Own} {xb ab tb wb : Nat} {S : SS} {CL : List (List Int)}
theorem AllW.open (h : AllW w o xb S CL) : ∃ ab tb wb, w.cell? ⟨xb, 0, none⟩ = some (.pointer (some ⟨ab, 0, none⟩)) ∧ w.cell? ⟨xb, 1, none⟩ = some (.pointer (some ⟨tb, 0, none⟩)) ∧ w.cell? ⟨xb, 2, none⟩ = some (.pointer (some ⟨wb, 0, none⟩)) ∧ AllT w o xb ab tb wb S CL := by
  obtain ⟨ab, tb, wb, lb, lvs, mb, M, h1, h2⟩ := h
  exact ⟨ab, tb, wb, cell_of_row _ xb 0 _ 41 _ h2.hx, cell_of_row _ xb 1 _ 41 _ h2.hx, cell_of_row _ xb 2 _ 41 _ h2.hx, lb, lvs, mb, M, h1, h2⟩
theorem AllT.all (h : AllT w o xb ab tb wb S CL) : AllW w o xb S CL := by
  obtain ⟨lb, lvs, mb, M, h1, h2⟩ := h; exact ⟨ab, tb, wb, lb, lvs, mb, M, h1, h2⟩
theorem AllT.sm (h : AllT w o xb ab tb wb S CL) (hs : Sm w w') : AllT w' o xb ab tb wb S CL := by
  obtain ⟨lb, lvs, mb, M, h1, h2⟩ := h; exact ⟨lb, lvs, mb, M, h1.sm hs, h2.same (Fr.sm hs)⟩
theorem AllT.same (h : AllT w o xb ab tb wb S CL) (hs : Same w w') : AllT w' o xb ab tb wb S CL := by
  obtain ⟨lb, lvs, mb, M, h1, h2⟩ := h; exact ⟨lb, lvs, mb, M, h1.keeps (hs.any (fun _ => False) o) (h1.cl.size hs.size) (fun _ _ => id), h2.same hs⟩
theorem AllT.c0 (h : AllT w o xb ab tb wb S CL) : w.cell? ⟨xb, 0, none⟩ = some (.pointer (some ⟨ab, 0, none⟩)) := by
  obtain ⟨lb, lvs, mb, M, h1, h2⟩ := h; exact cell_of_row _ xb 0 _ 41 _ h2.hx
theorem AllT.c1 (h : AllT w o xb ab tb wb S CL) : w.cell? ⟨xb, 1, none⟩ = some (.pointer (some ⟨tb, 0, none⟩)) := by
  obtain ⟨lb, lvs, mb, M, h1, h2⟩ := h; exact cell_of_row _ xb 1 _ 41 _ h2.hx
theorem AllT.c2 (h : AllT w o xb ab tb wb S CL) : w.cell? ⟨xb, 2, none⟩ = some (.pointer (some ⟨wb, 0, none⟩)) := by
  obtain ⟨lb, lvs, mb, M, h1, h2⟩ := h; exact cell_of_row _ xb 2 _ 41 _ h2.hx
theorem AllT.tr (h : AllT w o xb ab tb wb S CL) : ∃ vb lv sv, TrAt w o tb S.T vb lv sv := by obtain ⟨lb, lvs, mb, M, h1, h2⟩ := h; exact h1.tr
theorem AllT.cl (h : AllT w o xb ab tb wb S CL) : Cl o w := by obtain ⟨lb, lvs, mb, M, h1, h2⟩ := h; exact h1.cl

/-- What a move of the propagator leaves, with the same three parts. -/
def TPost (o : Own) (w : World) (xb ab tb wb : Nat) (S : SS) (CL : List (List Int)) (w' : World) : Prop := ∃ o', AllT w' o' xb ab tb wb S CL ∧ Fr sysS o o' w w'
theorem TPost.all {w' : World} {S' : SS} (h : TPost o w xb ab tb wb S' CL w') : AllPost o w xb S' CL w' := by obtain ⟨o', h1, h2⟩ := h; exact ⟨o', h1.all, h2⟩

theorem AllT.propagate (h : AllT w o xb ab tb wb S CL) {n : Nat} (hg : Good n CL S) (hl : CL.length ≤ 1000) :
    Calls Try.prog 19 #[.pointer (some ⟨wb, 0, none⟩)] w fun e w' => e = .returned (.tuple #[.int .i64 (S.propagate.2.getD 0), .bool S.propagate.2.isNone]) ∧ TPost o w xb ab tb wb S.propagate.1 CL w' := by
  obtain ⟨lb, lvs, mb, M, h1, h2⟩ := h
  refine (propagate_any w h1 hg.safe (hg.tot4 hl).1 (hg.tot4 hl).2).mono ?_
  rintro e w' ⟨he, lvs', o', h3, h4⟩
  exact ⟨he, o', ⟨lb, lvs', mb, M, h3, h2.own h4 (fun h => h rfl)⟩, h4⟩
theorem AllT.decide (h : AllT w o xb ab tb wb S CL) (l : Int) :
    Calls Try.prog 29 #[.pointer (some ⟨tb, 0, none⟩), .int .i64 l] w fun e w' => e = .returned (.bool (S.T.free l)) ∧ TPost o w xb ab tb wb (S.dec l) CL w' := by
  obtain ⟨lb, lvs, mb, M, h1, h2⟩ := h
  obtain ⟨vb, lv, sv, htr⟩ := h1.tr
  obtain ⟨pv, hwt⟩ := h1.wt
  refine (decide_both l w htr h1.cl).mono ?_
  rintro e w' ⟨he, o', h3, h4, h5⟩
  refine ⟨he, o', ⟨lb, lvs, mb, M, ⟨?_, ?_, ⟨pv, ?_⟩, h4⟩, h2.own h5 (by unfold trS; omega)⟩, ?_⟩
  · rw [SS.dec_eq]; exact h1.ar.keeps h5 (by unfold trS; omega)
  · rw [SS.dec_eq]; exact h3
  · rw [SS.dec_eq]; exact hwt.keeps h5 (fun r hr => by unfold wtS at hr; unfold trS; omega)
  · exact ⟨h5.os, h5.tape, h5.output, h5.size, h5.role, fun b hb hn => h5.block b hb (by unfold sysS at hn; unfold trS; omega)⟩
end

/-- A propagator in blocks that are new since w0. -/
def LA (w0 w : World) (xb : Nat) (S : SS) (CL : List (List Int)) : Prop := ∃ o, AllW w o xb S CL ∧ New o w0.heap.size ∧ Same w0 w

section
variable {w0 w w' : World} {xb : Nat} {S : SS} {CL : List (List Int)}
theorem LA.sm (h : LA w0 w xb S CL) (hs : Sm w w') : LA w0 w' xb S CL := by
  obtain ⟨o, h1, h2, h3⟩ := h; exact ⟨o, h1.sm hs, h2, h3.trans (Fr.sm hs)⟩
theorem LA.same (h : LA w0 w xb S CL) (hs : Same w w') : LA w0 w' xb S CL := by
  obtain ⟨o, h1, h2, h3⟩ := h; exact ⟨o, h1.same hs, h2, h3.trans hs⟩
theorem LA.keep (h : LA w0 w xb S CL) : Same w0 w := by obtain ⟨o, h1, h2, h3⟩ := h; exact h3
theorem LA.post {o : Own} {S' : SS} (h2 : New o w0.heap.size) (h3 : Same w0 w) (h : AllPost o w xb S' CL w') : LA w0 w' xb S' CL := by
  obtain ⟨o', h4, h5⟩ := h
  exact ⟨o', h4, h2.fr h5 h3.size, h3.thenNew h5 h2 (fun h => h rfl)⟩
end
end Go.Proofs.Ytpjiemffkkfbkaa
