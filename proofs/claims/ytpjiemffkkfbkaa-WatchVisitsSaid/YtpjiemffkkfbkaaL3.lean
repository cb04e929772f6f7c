/- The walks of lits, decided, clauses. -/
import Derived.Test.YtpjiemffkkfbkaaL2
import Derived.Test.YtpjiemffkkfbkaaM6
namespace Go.Proofs.Ytpjiemffkkfbkaa
open Go.RowKit

/-- An 'all': the system, and the clauses by refs. -/
def AllW (w : World) (o : Own) (xb : Nat) (S : SS) (CL : List (List Int)) : Prop :=
  ∃ ab tb wb lb lvs mb M, Sys w o ab tb wb lb lvs S ∧ XAt w (fun b => o b = 0) xb ab tb wb mb M CL

theorem AllW.of {w w' : World} {n : Nat} {CL : List (List Int)} {e : Ending} (h : BeginPost w n CL e w') : ∃ xb o, e = .returned (.pointer (some ⟨xb, 0, none⟩)) ∧ AllW w' o xb (plusAll n CL) CL ∧ New o w.heap.size ∧ w.heap.size ≤ xb ∧ Same w w' := by
  obtain ⟨xb, ab, tb, wb, lb, lvs, o, mb, M, rfl, h1, h2, h3, h4⟩ := h
  exact ⟨xb, o, rfl, ⟨ab, tb, wb, lb, lvs, mb, M, h1, h3.keeps fun b _ hz => ⟨rfl, hz.2⟩⟩, h2, h3.zx.1, h4⟩

theorem AllW.same {w w' : World} {o : Own} {xb : Nat} {S : SS} {CL : List (List Int)} (h : AllW w o xb S CL) (hf : Same w w') : AllW w' o xb S CL := by
  obtain ⟨ab, tb, wb, lb, lvs, mb, M, h1, h2⟩ := h
  exact ⟨ab, tb, wb, lb, lvs, mb, M, h1.keeps (hf.any (fun _ => False) o) (h1.cl.size hf.size) (fun _ _ => id), h2.same hf⟩
theorem AllW.sm {w w' : World} {o : Own} {xb : Nat} {S : SS} {CL : List (List Int)} (h : AllW w o xb S CL) (hf : Sm w w') : AllW w' o xb S CL := h.same (Fr.sm hf)
theorem AllW.cl {w : World} {o : Own} {xb : Nat} {S : SS} {CL : List (List Int)} (h : AllW w o xb S CL) : Cl o w := by
  obtain ⟨ab, tb, wb, lb, lvs, mb, M, h1, h2⟩ := h; exact h1.cl
theorem AllW.wf {w : World} {o : Own} {xb : Nat} {S : SS} {CL : List (List Int)} (h : AllW w o xb S CL) : S.T.WF := by
  obtain ⟨ab, tb, wb, lb, lvs, mb, M, h1, h2⟩ := h; exact h1.wf
/-- What a call of the system leaves. -/
def AllPost (o : Own) (w : World) (xb : Nat) (S : SS) (CL : List (List Int)) (w' : World) : Prop := ∃ o', AllW w' o' xb S CL ∧ Fr sysS o o' w w'
theorem AllPost.sys {w w' : World} {o : Own} {xb ab tb wb lb mb : Nat} {S' : SS} {lvs' : List Value} {M : List (Int × Value)} {CL : List (List Int)} (h2 : XAt w (fun b => o b = 0) xb ab tb wb mb M CL) (hp : SysPost o w ab tb wb lb lvs' S' w') : AllPost o w xb S' CL w' := by
  obtain ⟨o', h3, h4⟩ := hp
  exact ⟨o', ⟨ab, tb, wb, lb, lvs', mb, M, h3, h2.own h4 (fun h => h rfl)⟩, h4⟩

structure TakeRel (w0 : World) (xs : List Int) (k : Nat) (out i : Value) (wr : World) : Prop where
  st : ∃ i' : Nat, i = .int .i64 i' ∧ i' + k = xs.length ∧ ∃ p, IntRow wr p 1 out (xs.take i') ∧ Cl p wr ∧ New p w0.heap.size
  sm : Same w0 wr

theorem at_getD (T : TS) (i : Nat) : T.at_ i = T.l.getD i 0 := by
  unfold TS.at_
  by_cases h : i < T.l.length
  · rw [if_pos (by omega)]; rfl
  · rw [if_neg (by omega), List.getD_eq_getElem?_getD, List.getElem?_eq_none (by omega)]; rfl
theorem take_snocD {xs : List Int} {i : Nat} (h : i < xs.length) : xs.take (i + 1) = xs.take i ++ [xs.getD i 0] := by
  rw [List.take_succ_eq_append_getElem h, List.getD_eq_getElem?_getD, List.getElem?_eq_getElem h]; rfl

set_option maxHeartbeats 1000000 in
theorem lits_any {o : Own} {xb : Nat} {S : SS} {CL : List (List Int)} (w : World) (h : AllW w o xb S CL) : Calls Try.prog 21 #[.pointer (some ⟨xb, 0, none⟩)] w (NewInts w S.T.l) := by
  obtain ⟨ab, tb, wb, lb, lvs, mb, M, hsys, hx⟩ := h
  obtain ⟨vb, lv, sv, htr⟩ := hsys.tr
  have hll := htr.lle
  have c1 := cell_of_row _ xb 1 _ 41 _ hx.hx
  have HTR := Lib.hid htr
  have HX := Lib.hid hx.hx
  clear hsys hx
  go_enter Try.func21, Try.ntmps21
  go_wp2_with (go_at_call 25; refine (len_any _ htr.toTrM).mono ?_; rintro e w' ⟨rfl, rfl⟩)
  clear htr
  go_loopg [3, 4, 10] (S.T.l.length) (fun k out _ i wr => TakeRel w S.T.l k out i wr)
  case atStart => exact ⟨⟨0, rfl, by omega, fun _ => 0, IntRow.nil _ _ _, Cl.zero _, fun _ _ => rfl⟩, Fr.refl _ _ _⟩
  case round =>
    obtain ⟨⟨i, rfl, hik, p, hrow, hcp, hnew⟩, hsame⟩ := hrel
    have HIK := Lib.hid hik
    have HROW := Lib.hid hrow
    have HCP := Lib.hid hcp
    have HNEW := Lib.hid hnew
    have HSAME := Lib.hid hsame
    have c1' := cell_same hsame c1
    have hol : (S.T.l.take i).length ≤ 100000 := by rw [List.length_take]; omega
    obtain ⟨oa, ocap, rfl⟩ := hrow.form
    clear hik hrow hcp hnew hsame
    by_cases hlt : i < S.T.l.length
    · obtain ⟨k', rfl⟩ : ∃ k', gk = k' + 1 := ⟨gk - 1, by have := HIK.out; omega⟩
      have htr2 := HTR.out.keeps (HSAME.out.any (fun _ => False) o) ⟨id, id, id, id⟩
      have HTR2 := Lib.hid htr2
      have hts := take_snocD hlt
      have HTS := Lib.hid hts
      have hat := at_getD S.T i
      have HAT := Lib.hid hat
      clear htr2 hts hat
      go_wp2_with fail
      refine (at_any _ _ HTR2.out).mono ?_
      rintro e w1 ⟨rfl, q, rfl⟩
      rw [HAT.out]
      have hr1 := HROW.out.sm (⟨q, rfl⟩ : Sm wr (wr.drewN q))
      have HR1 := Lib.hid hr1
      have HC1 : Hid (Cl p (wr.drewN q)) := HCP.out.sm ⟨q, rfl⟩
      clear hr1
      generalize hO : S.T.l.take i = O at *
      have HO := Lib.hid hO
      clear hO
      generalize S.T.l.getD i 0 = x at *
      go_wp2_with
        (at_builtin
         refine append_int (xs := O) (HR1.out.keeps (S := fun _ => False) (Fr.alloc0 _) id) (HC1.out.alloc0 _) (by omega) rfl (.tmp 13) (.tmp 20) rfl rfl rfl (World.cell?_alloc_new ..) ?_
         intro g2 cap2 w2 p2 hr2 hcl2 hfr2
         have hf12 : Fr (fun r => r = 1) p p2 wr w2 := ((Fr.sm ⟨q, rfl⟩).trans (Fr.alloc0 _)).trans hfr2
         have HR2 := Lib.hid hr2
         have HCL2 := Lib.hid hcl2
         have HF2 := Lib.hid hf12
         clear hr2 hcl2 hf12 hfr2)
      go_roundg k'
      case measure => have := HIK.out; omega
      case rel =>
        refine ⟨⟨i + 1, by go_num, by have := HIK.out; omega, p2, ?_, HCL2.out, HNEW.out.fr HF2.out HSAME.out.size⟩, HSAME.out.thenNew HF2.out HNEW.out (by decide)⟩
        rw [HTS.out]; have := HR2.out; simpa using this
    · have hi : i = S.T.l.length := by have := HIK.out; omega
      subst hi
      have hni : (S.T.l.length : Int) ≤ (S.T.l.length : Int) := Int.le_refl _
      have hr := HROW.out
      have e1 : (S.T.l.take S.T.l.length).length = S.T.l.length := by rw [List.take_length]
      rw [e1] at hr ⊢
      rw [List.take_length] at hr
      have HR := Lib.hid hr
      clear hr e1 HROW
      go_wp2
      go_ret
      exact ⟨_, p, rfl, HR.out, HCP.out, HNEW.out, HSAME.out⟩

/-- A literal is decided, if it may be. -/
def SS.dec (S : SS) (l : Int) : SS := if S.T.free l then { S with T := S.T.decide_ l } else S
def decLit (vars : Nat) (n : Int) : Int := lit16 vars n
def SS.decided (S : SS) (vars : Nat) (n : Int) : SS := if vars = 0 then S else S.dec (lit16 vars n)

theorem and1_u16 (x : Int) : bits .and .u16 x 1 = x % 2 := by
  have h : (BitVec.ofInt 16 x &&& BitVec.ofInt 16 1).toNat = (x % 2).toNat := by
    rw [BitVec.toNat_and, BitVec.toNat_ofInt, BitVec.toNat_ofInt]
    have e1 : (((1 : Int) % ((2 ^ 16 : Nat) : Int)).toNat) = 1 := by decide
    rw [e1, Nat.and_one_is_mod]
    have e2 : ((2 ^ 16 : Nat) : Int) = 65536 := by decide
    rw [e2]; omega
  have h2 : bits .and .u16 x 1 = IntKind.u16.wrap (((BitVec.ofInt 16 x &&& BitVec.ofInt 16 1).toNat : Nat) : Int) := rfl
  rw [h2, h]
  have : ((x % 2).toNat : Int) = x % 2 := by omega
  rw [this]
  unfold IntKind.wrap
  simp only [IntKind.bits, IntKind.signed]
  simp; omega

theorem decide_both {o : Own} {tb : Nat} {σ : TS} {vb : Nat} {lv sv : Value} (l : Int) (w : World) (h : TrAt w o tb σ vb lv sv) (hcl : Cl o w) :
    Calls Try.prog 29 #[.pointer (some ⟨tb, 0, none⟩), .int .i64 l] w fun e w' => e = .returned (.bool (σ.free l)) ∧ TrPost o w tb (if σ.free l then σ.decide_ l else σ) w' := by
  cases hf : σ.free l with
  | true =>
    simp only [if_true]
    exact decide_yes l w h hf hcl
  | false =>
    simp only [Bool.false_eq_true, if_false]
    refine (decide_no l w h hf).mono ?_
    rintro e w' ⟨he, hs⟩
    exact ⟨he, o, ⟨vb, lv, sv, h.sm hs⟩, hcl.sm hs, Fr.sm hs⟩

theorem SS.dec_eq (S : SS) (l : Int) : S.dec l = { S with T := if S.T.free l then S.T.decide_ l else S.T } := by unfold SS.dec; split <;> rfl

set_option maxHeartbeats 1000000 in
theorem decided_any {o : Own} {xb : Nat} {S : SS} {CL : List (List Int)} (n : Int) (vars : Nat) (w : World) (h : AllW w o xb S CL) (hn : 0 ≤ n ∧ n ≤ 65535) (hv : vars ≤ 1000) :
    Calls Try.prog 22 #[.pointer (some ⟨xb, 0, none⟩), .int .u16 n, .int .i64 vars] w fun e w' => e = .returned (.tuple #[]) ∧ AllPost o w xb (S.decided vars n) CL w' := by
  obtain ⟨hn0, hn1⟩ := hn
  have H := Lib.hid h
  obtain ⟨ab, tb, wb, lb, lvs, mb, M, hsys, hx⟩ := h
  obtain ⟨vb, lv, sv, htr⟩ := hsys.tr
  have c1 := cell_of_row _ xb 1 _ 41 _ hx.hx
  have HTR := Lib.hid htr
  have HX := Lib.hid hx
  have HSYS := Lib.hid hsys
  clear hsys hx htr
  by_cases hv0 : vars = 0
  · subst hv0
    have e : S.decided 0 n = S := rfl
    rw [e]
    go_enter Try.func22, Try.ntmps22
    go_wp2
    go_end0
    exact ⟨rfl, o, H.out, Fr.refl _ _ _⟩
  · have e : S.decided vars n = S.dec (lit16 vars n) := by unfold SS.decided; rw [if_neg hv0]
    rw [e]
    have hl16 : lit16 vars n = if n % 2 = 1 then -(1 + ((n % 65536) / 2) % (vars : Int)) else 1 + ((n % 65536) / 2) % (vars : Int) := rfl
    have e2 : n % 65536 = n := by omega
    rw [e2] at hl16
    have hm : (0 : Int) < vars := by omega
    have h1 := Int.emod_nonneg (n / 2) (show (vars : Int) ≠ 0 by omega)
    have h2 := Int.emod_lt_of_pos (n / 2) hm
    have HL16 := Lib.hid hl16
    clear hl16 e2 e
    go_enter Try.func22, Try.ntmps22
    go_upto_region 2 with fail
    generalize n / 2 % (vars : Int) = y at *
    have hb1 : -1000 ≤ 1 + y ∧ 1 + y ≤ 1000 := by omega
    obtain ⟨hb1, hb2⟩ := hb1
    generalize hz : 1 + y = z at *
    clear hz
    by_cases hodd : n % 2 = 1
    all_goals
      have hbit := and1_u16 n
      first | rw [hodd] at hbit | rw [show n % 2 = 0 by omega] at hbit
      have hll := HL16.out
      first | rw [if_pos hodd] at hll | rw [if_neg hodd] at hll
      have HLL := Lib.hid hll
      clear hll hodd HL16
      go_wp2_with fail
      refine (decide_both _ _ HTR.out HSYS.out.cl).mono ?_
      rintro e w1 ⟨rfl, hp⟩
      have hps := AllPost.sys HX.out (HSYS.out.trail hp)
      have HPS := Lib.hid hps
      clear hp hps
      go_wp2
      go_end0
      refine ⟨rfl, ?_⟩
      rw [SS.dec_eq, HLL.out]
      exact HPS.out

/-! the clauses, in some order -/
structure ClsRel (w0 : World) (Z : Nat → Prop) (mb r : Nat) (M : List (Int × Value)) (CL : List (List Int)) (k : Nat) (out : Value) (wr : World) : Prop where
  st : ∃ (D R : List ((Int × Value) × List Int)) (p : Own) (hs : List Value), (D ++ R).Perm (M.zip CL) ∧ R.length = k ∧ IRng wr mb r M (R.map (·.1)) ∧ Row wr p 1 32 1 out D.length hs ∧ hs = D.map (·.1.2) ∧ Cl p wr ∧ New p (r + 1)
  sm : Same w0 wr
  sz : r + 1 ≤ wr.heap.size

def ClsPost (w : World) (CL : List (List Int)) (e : Ending) (w' : World) : Prop := ∃ v CL', CL'.Perm CL ∧ e = .returned v ∧ Rm w' (fun _ => True) v CL' ∧ Same w w'

theorem xat_zip {w : World} {Z : Nat → Prop} {xb ab tb wb mb : Nat} {M : List (Int × Value)} {CL : List (List Int)} (h : XAt w Z xb ab tb wb mb M CL) : ∀ q ∈ M.zip CL, Rl w Z q.1.2 q.2 := by
  intro q hq
  obtain ⟨j, hj, rfl⟩ := List.mem_iff_getElem.1 hq
  have hjl : j < CL.length := by rw [List.length_zip] at hj; omega
  have hjm : j < M.length := by rw [List.length_zip] at hj; omega
  obtain ⟨r, hv, e, hr⟩ := h.ls j CL[j] (List.getElem?_eq_getElem hjl)
  rw [List.getElem_zip]
  rw [List.getElem?_eq_getElem hjm] at e
  have e2 := Option.some.inj e
  show Rl w Z M[j].2 CL[j]
  rw [e2]; exact hr

theorem hrow_append_run {w : World} {p : Own} {v : Value} {n : Nat} {hs : List Value} {b : Nat} {u : Value} (hr : Row w p 1 32 1 v n hs) (hcl : Cl p w) (hlen : n ≤ 1000000000) (hc : w.cell? ⟨b, 0, none⟩ = some u) (hu : u.oneCell' = true) (ty : TypeId) :
    ∃ g cap w' p', (Builtin.append_ #[28, 28] ty #[v, .slice (some ⟨b, 0, none⟩) 1 1]).run Try.prog w = .ok (.slice (some ⟨g, 0, none⟩) (n + 1) cap) w' ∧
      Row w' p' 1 32 1 (.slice (some ⟨g, 0, none⟩) (n + 1) cap) (n + 1) (hs ++ [u]) ∧ Cl p' w' ∧ Fr (fun k => k = 1) p p' w w' := by
  obtain ⟨i0, hi, hz0, hz1, hz2⟩ := info_parts Try.info32
  exact Row.append_run (P := Try.prog) (t := 28) (ty := ty) Try.underlying28 hi hz0 hz1 hz2 rfl (by decide) hr hcl ⟨b, 0, none⟩ 1 1 [u] (by simp)
    (by intro j x hj
        match j, hj with
        | 0, hj => simp at hj; subst hj; simpa [Addr.add] using hc) (by intro x hx; simp at hx; subst hx; exact hu) (by decide) (by unfold maxLen; omega) (by omega)

theorem hrow_append {w : World} {p : Own} {v : Value} {n : Nat} {hs : List Value} {b : Nat} {u : Value} {ops : Array Oper} {rest : List Oper} {oo : Oper} {a : Act} {Q : Exit → Act → World → Prop} (hr : Row w p 1 32 1 v n hs) (hcl : Cl p w) (hlen : n ≤ 1000000000) (hgd : oo.guard = none) (s x : Operand)
    (ho : oo.op = .call { callee := .builtin .append, args := #[s, x], argTypes := #[28, 28] }) (hs' : a.eval s = v) (hx : a.eval x = .slice (some ⟨b, 0, none⟩) 1 1) (hc : w.cell? ⟨b, 0, none⟩ = some u) (hu : u.oneCell' = true)
    (hK : ∀ g cap w' p', Row w' p' 1 32 1 (.slice (some ⟨g, 0, none⟩) (n + 1) cap) (n + 1) (hs ++ [u]) → Cl p' w' → Fr (fun k => k = 1) p p' w w' →
      wpList Try.prog ops Q rest (a.put oo.dst (.slice (some ⟨g, 0, none⟩) (n + 1) cap)) w') : wpList Try.prog ops Q (oo :: rest) a w :=
  wpList_plain hgd fun _ hK2 => by
    obtain ⟨g, cap, w', p', h1, h2, h3, h4⟩ := hrow_append_run hr hcl hlen hc hu oo.type
    unfold Oper.wp execOp
    simp only [ho, resolve, invoke, builtin, Sem.run_bind, Sem.run_pure, Result.andThen_ok, List.map_toArray, List.map_cons, List.map_nil, hs', hx, h1]
    exact hK2 _ _ (hK g cap w' p' h2 h3 h4)

theorem cls_pick {w : World} {Z : Nat → Prop} {xb ab tb wb mb : Nat} {M : List (Int × Value)} {CL : List (List Int)} (hx : XAt w Z xb ab tb wb mb M CL) {D R : List ((Int × Value) × List Int)} (hp : (D ++ R).Perm (M.zip CL)) {A B : List (Int × Value)} {q : Int × Value} (h : R.map (·.1) = A ++ q :: B) :
    ∃ R1 c R2 a cap, R = R1 ++ ((q.1, .slice a c.length cap), c) :: R2 ∧ R1.map (·.1) = A ∧ R2.map (·.1) = B ∧ q = (q.1, .slice a c.length cap) ∧ Rl w Z (.slice a c.length cap) c := by
  obtain ⟨R1, R', e1, e2, e3⟩ := List.map_eq_append_iff.1 h
  obtain ⟨q', R2, e4, e5, e6⟩ := List.map_eq_cons_iff.1 e3
  subst e1; subst e4
  have hm : q' ∈ M.zip CL := hp.mem_iff.1 (by simp)
  have hr := xat_zip hx q' hm
  obtain ⟨a, cap, e7⟩ := hr.form
  obtain ⟨⟨qr, qv⟩, c⟩ := q'
  simp only at e5 e7 hr
  subst e5
  subst e7
  exact ⟨R1, c, R2, a, cap, rfl, e2, e6, rfl, hr⟩

set_option maxHeartbeats 2000000 in
theorem clauses_any {o : Own} {xb : Nat} {S : SS} {CL : List (List Int)} (w : World) (h : AllW w o xb S CL) (hCL : CL.length ≤ 1000) : Calls Try.prog 24 #[.pointer (some ⟨xb, 0, none⟩)] w (ClsPost w CL) := by
  obtain ⟨ab, tb, wb, lb, lvs, mb, M, hsys, hx⟩ := h
  have c3 := cell_of_row _ xb 3 _ 41 _ hx.hx
  have hml : M.length ≤ 1000 := by rw [hx.len]; exact hCL
  have HX := Lib.hid hx
  clear hsys hx
  go_enter Try.func24, Try.ntmps24
  go_wp2_with
    (at_range
     refine irange_list rfl HX.out.mp Try.underlying39 (.tmp 9) rfl rfl ?_
     intro w1 hr1 hf1 hs1
     have HR1 := Lib.hid hr1
     have HF1 := Lib.hid hf1
     have HS1 := Lib.hid hs1
     clear hr1 hf1 hs1)
  generalize hr : w.heap.size = r at *
  have HRW := Lib.hid hr
  clear hr
  go_loopg [3, 5] (CL.length) (fun k out _ wr => ClsRel w (fun b => o b = 0) mb r M CL k out wr)
  case atStart =>
    have hz : (M.zip CL).length = CL.length := by rw [List.length_zip, HX.out.len]; omega
    refine ⟨⟨[], M.zip CL, fun _ => 0, [], by simp, hz, ?_, Row.nil _ _ _ _ _, rfl, Cl.zero _, fun _ _ => rfl⟩, HF1.out, by rw [HS1.out]; exact Nat.le_refl _⟩
    have e : (M.zip CL).map (·.1) = M := List.map_fst_zip (by rw [HX.out.len]; exact Nat.le_refl _)
    rw [e]; exact HR1.out
  case round =>
    obtain ⟨⟨D, R, p, hs, hperm, hRk, hrng, hrow, hhs, hcp, hnew⟩, hsame, hszr⟩ := hrel
    have HPERM := Lib.hid hperm
    have HRK := Lib.hid hRk
    have HRNG := Lib.hid hrng
    have HHS := Lib.hid hhs
    have HCP := Lib.hid hcp
    have HNEW := Lib.hid hnew
    have HSAME := Lib.hid hsame
    have HROW := Lib.hid hrow
    have hdl : D.length ≤ 1000 := by
      have := hperm.length_eq
      rw [List.length_append, List.length_zip] at this; omega
    obtain ⟨oa, ocap, rfl⟩ := hrow.form
    clear hperm hRk hrng hhs hcp hnew hsame hrow
    go_wp2_with (first
      | (at_next
         refine inext_list rfl HRNG.out (.tmp 10) rfl rfl ?_ ?_
         all_goals first
           | (intro A q B w2 hsp hr2 hf2 hs2 hent
              obtain ⟨R1, c, R2, ca, ccap, hR, hA, hB, hq, hrl⟩ := cls_pick HX.out HPERM.out hsp
              generalize q.1 = qk at *
              subst hq
              have hpr : p r = 0 := HNEW.out r (Nat.lt_succ_self r)
              have hf2' : Fr (fun k => k = 0) p p wr w2 := ⟨hf2.os, hf2.tape, hf2.output, hf2.size, fun _ _ => rfl, fun k hk hn => hf2.block k hk (by
                have : k ≠ r := by rintro rfl; exact hn hpr
                rw [if_neg this]; decide)⟩
              have HRL := Lib.hid hrl
              have HR := Lib.hid (And.intro hR (And.intro hA hB))
              have HR2 := Lib.hid hr2
              have HF2 := Lib.hid hf2
              have HF2' := Lib.hid hf2'
              have HS2 := Lib.hid hs2
              clear hR hA hB hrl hsp hr2 hf2 hs2 hpr hf2')
           | (intro hd0; have HD0 := Lib.hid hd0; clear hd0))
      | (at_builtin
         refine hrow_append (u := .slice ca c.length ccap) ((HROW.out.keeps HF2'.out (by decide)).keeps (S := fun _ => False) (Fr.alloc0 _) id) (HCP.out.size (by rw [show (World.alloc w2 _).heap.size = w2.heap.size + 1 by simp, HS2.out]; omega)) (by omega) rfl (.tmp 15) (.tmp 17) rfl rfl rfl (World.cell?_alloc_new ..) rfl ?_
         intro g2 cap2 w3 p3 hr3 hcl3 hf3
         have HR3 := Lib.hid hr3
         have HCL3 := Lib.hid hcl3
         have HF3 := Lib.hid hf3
         clear hr3 hcl3 hf3))
    · go_ret
      have hR0 : R = [] := List.map_eq_nil_iff.1 HD0.out
      have hrow := HROW.out
      have hperm := HPERM.out
      rw [hR0, List.append_nil] at hperm
      have hz : (M.zip CL).map (·.2) = CL := List.map_snd_zip (by rw [HX.out.len]; exact Nat.le_refl _)
      have hs0 : Same w wr := HSAME.out
      refine ⟨_, D.map (·.2), ?_, rfl, ?_, hs0⟩
      · rw [← hz]; exact hperm.map _
      · rcases hrow.1.2 with ⟨e1, hn⟩ | ⟨g, cap, cur, e1, _, hg, hcc, _⟩
        · have : D = [] := List.eq_nil_of_length_eq_zero hn
          subst this
          exact .inl ⟨by simpa using e1, rfl⟩
        · refine .inr ⟨g, 0, cap, by rw [List.length_map]; exact e1, by rw [List.length_map]; exact hcc, fun _ => trivial, fun j c hj => ?_⟩
          rw [List.getElem?_map, Option.map_eq_some_iff] at hj
          obtain ⟨q, hq, rfl⟩ := hj
          have hjl := (List.getElem?_eq_some_iff.1 hq).1
          obtain ⟨g', cap', e2, _, _, _, h1, _⟩ := Row.block hrow (by omega)
          rw [e1] at e2
          simp only [Value.slice.injEq, Option.some.injEq, Addr.mk.injEq, and_true] at e2
          obtain ⟨rfl, -⟩ := e2
          refine ⟨q.1.2, ?_, ?_⟩
          · rw [Nat.zero_add, h1 j (by omega), HHS.out, List.getElem?_map, hq]; rfl
          · exact ((xat_zip HX.out q (hperm.mem_iff.1 (List.mem_of_getElem? hq))).same hs0).mono fun _ _ _ => trivial
    · obtain ⟨k', hk'⟩ : ∃ k', gk = k' + 1 := ⟨gk - 1, by have h1 := HRK.out; have h2 := HR.out.1; rw [h2] at h1; simp at h1; omega⟩
      subst hk'
      go_roundg k'
      case measure => omega
      case rel =>
        obtain ⟨hR, hA, hB⟩ := HR.out
        have hf13 : Fr (fun k => k = 0 ∨ k = 1) p p3 wr w3 := ((HF2'.out.mono fun _ h => .inl h).trans (Fr.alloc0 _)).trans (HF3.out.mono fun _ h => .inr h)
        have hlt1 := HR2.out.lt
        have hml := HR2.out.map.lt
        have hw3 : ∀ b, b < r + 1 → b < w2.heap.size → w3.heap[b]? = w2.heap[b]? := fun b hb hbl => by
          rw [HF3.out.block b (by simp; omega) (by rw [HNEW.out b hb]; decide)]
          exact heap_alloc_old _ _ hbl
        have hmr : mb < r + 1 := by have := HX.out.mp.lt; have := HRW.out; omega
        refine ⟨⟨D ++ [((qk, .slice ca c.length ccap), c)], R1 ++ R2, p3, _, ?_, ?_, ?_, ?_, rfl, HCL3.out, ?_⟩, ?_, ?_⟩
        · refine List.Perm.trans ?_ HPERM.out
          rw [hR, List.append_assoc]
          refine List.Perm.append_left _ ?_
          simp only [List.singleton_append]
          exact List.perm_middle.symm
        · have h1 := HRK.out; rw [hR] at h1; simp at h1 ⊢; omega
        · rw [List.map_append, hA, hB]
          exact HR2.out.keeps (hw3 mb hmr hml) (hw3 r (Nat.lt_succ_self r) hlt1)
        · rw [List.map_append, ← HHS.out, List.length_append]; exact HR3.out
        · exact HNEW.out.fr hf13 hszr
        · have h2 := hf13.size
          refine ⟨hf13.os.trans HSAME.out.os, hf13.tape.trans HSAME.out.tape, hf13.output.trans HSAME.out.output, Nat.le_trans HSAME.out.size h2, fun _ _ => rfl, fun b hb hn => ?_⟩
          have hbr : b < r := by rw [← HRW.out]; exact hb
          have hbw : b < wr.heap.size := by omega
          rw [hw3 b (by omega) (by rw [HS2.out]; exact hbw), HF2.out.block b hbw (by rw [if_neg (by omega)]; decide)]
          exact HSAME.out.block b hb hn
        · have := hf13.size; omega
end Go.Proofs.Ytpjiemffkkfbkaa
