/- Two propagators apart. -/
import Derived.Test.YtpjiemffkkfbkaaK0
namespace Go.Proofs.Ytpjiemffkkfbkaa
open Go.RowKit
open TS SS

/-- A propagator with clauses, its clauses in blocks of Y. -/
def PZ (Y : Nat → Prop) (w : World) (o : Own) (xb : Nat) (S : SS) (CL : List (List Int)) : Prop :=
  ∃ ab tb wb lb lvs mb M, Sys w o ab tb wb lb lvs S ∧ XAt w (fun b => Y b ∧ o b = 0) xb ab tb wb mb M CL

theorem XAt.mono {w : World} {Z Z' : Nat → Prop} {xb ab tb wb mb : Nat} {M : List (Int × Value)} {CL : List (List Int)} (h : XAt w Z xb ab tb wb mb M CL) (hz : ∀ b, b < w.heap.size → Z b → Z' b) : XAt w Z' xb ab tb wb mb M CL :=
  h.keeps fun b hb h => ⟨rfl, hz b hb h⟩

section
variable {Y Y' : Nat → Prop} {w w' : World} {o o' : Own} {xb : Nat} {S S' : SS} {CL : List (List Int)}
theorem PZ.all (h : PZ Y w o xb S CL) : AllW w o xb S CL := by
  obtain ⟨ab, tb, wb, lb, lvs, mb, M, h1, h2⟩ := h
  exact ⟨ab, tb, wb, lb, lvs, mb, M, h1, h2.mono fun b _ h => h.2⟩
theorem PZ.cl (h : PZ Y w o xb S CL) : Cl o w := by obtain ⟨ab, tb, wb, lb, lvs, mb, M, h1, h2⟩ := h; exact h1.cl
theorem PZ.keeps {T : Nat → Prop} (h : PZ Y w o xb S CL) (hf : Fr T o o w w') (hT : ∀ r, r ≠ 0 → ¬ T r) (hY : ∀ b, b < w.heap.size → Y b → o b = 0 → w'.heap[b]? = w.heap[b]? ∧ Y' b) : PZ Y' w' o xb S CL := by
  obtain ⟨ab, tb, wb, lb, lvs, mb, M, h1, h2⟩ := h
  exact ⟨ab, tb, wb, lb, lvs, mb, M, h1.keeps hf (h1.cl.size hf.size) hT, h2.keeps fun b hb hz => ⟨(hY b hb hz.1 hz.2).1, (hY b hb hz.1 hz.2).2, hz.2⟩⟩
/-- A move of its own. -/
theorem PZ.post (h : PZ Y w o xb S CL) (hp : AllW w' o' xb S' CL) (hf : Fr sysS o o' w w') : PZ Y w' o' xb S' CL := by
  obtain ⟨ab, tb, wb, lb, lvs, mb, M, h1, h2⟩ := h
  obtain ⟨ab', tb', wb', lb', lvs', mb', M', h3, h4⟩ := hp
  have hx : w'.heap[xb]? = w.heap[xb]? := hf.block xb (Array.getElem?_eq_some_iff.1 h2.hx).1 (by rw [h2.zx.2]; exact fun h => h rfl)
  have h5 := h4.hx
  rw [hx, h2.hx] at h5
  simp only [Option.some.injEq, Obj.cells.injEq, and_true, Array.mk.injEq, List.cons.injEq, Value.pointer.injEq, Addr.mk.injEq, Value.map.injEq] at h5
  obtain ⟨rfl, rfl, rfl, rfl⟩ := h5
  exact ⟨_, _, _, lb', lvs', _, M, h3, h2.keeps fun b hb hz => ⟨hf.block b hb (by rw [hz.2]; exact fun h => h rfl), hz.1, (hf.role b hb).trans hz.2⟩⟩
end

def LB (w0 w : World) (xb yb : Nat) (S T : SS) (CL DL : List (List Int)) : Prop :=
  ∃ o p, PZ (fun b => p b = 0) w o xb S CL ∧ PZ (fun b => o b = 0) w p yb T DL ∧ Dj o p ∧ New o w0.heap.size ∧ New p w0.heap.size ∧ Same w0 w

section
variable {w0 w w' : World} {xb yb : Nat} {S T : SS} {CL DL : List (List Int)}
theorem LB.keep (h : LB w0 w xb yb S T CL DL) : Same w0 w := by obtain ⟨o, p, h1, h2, h3, h4, h5, h6⟩ := h; exact h6
theorem LB.symm (h : LB w0 w xb yb S T CL DL) : LB w0 w yb xb T S DL CL := by
  obtain ⟨o, p, h1, h2, h3, h4, h5, h6⟩ := h
  exact ⟨p, o, h2, h1, fun b => (h3 b).symm, h5, h4, h6⟩
theorem LB.same (h : LB w0 w xb yb S T CL DL) (hs : Same w w') : LB w0 w' xb yb S T CL DL := by
  obtain ⟨o, p, h1, h2, h3, h4, h5, h6⟩ := h
  exact ⟨o, p, h1.keeps (hs.any (fun _ => False) o) (fun _ _ => id) fun b hb hy _ => ⟨hs.block b hb id, hy⟩, h2.keeps (hs.any (fun _ => False) p) (fun _ _ => id) fun b hb hy _ => ⟨hs.block b hb id, hy⟩, h3, h4, h5, h6.trans hs⟩
theorem LB.sm (h : LB w0 w xb yb S T CL DL) (hs : Sm w w') : LB w0 w' xb yb S T CL DL := h.same (Fr.sm hs)

theorem LB.first (h : LB w0 w xb yb S T CL DL) : ∃ o, AllW w o xb S CL ∧ ∀ w' S', AllPost o w xb S' CL w' → LB w0 w' xb yb S' T CL DL := by
  obtain ⟨o, p, h1, h2, h3, h4, h5, h6⟩ := h
  refine ⟨o, h1.all, fun w' S' hp => ?_⟩
  obtain ⟨o', h7, h8⟩ := hp
  have k1 := h1.post h7 h8
  have fp : Fr (fun r => r = 0) p p w w' := ⟨h8.os, h8.tape, h8.output, h8.size, fun _ _ => rfl, fun b hb hn => h8.block b hb (by
    rcases h3 b with h | h
    · rw [h]; exact fun h => h rfl
    · exact absurd h hn)⟩
  refine ⟨o', p, k1, h2.keeps fp (fun r hr h => hr h) (fun b hb hy _ => ⟨h8.block b hb (by rw [hy]; exact fun h => h rfl), (h8.role b hb).trans hy⟩), fun b => ?_, h4.fr h8 h6.size, h5, h6.thenNew h8 h4 (fun h => h rfl)⟩
  rcases Nat.lt_or_ge b w.heap.size with hb | hb
  · rw [h8.role b hb]; exact h3 b
  · exact .inr (h2.cl b hb)
theorem LB.second (h : LB w0 w xb yb S T CL DL) : ∃ p, AllW w p yb T DL ∧ ∀ w' T', AllPost p w yb T' DL w' → LB w0 w' xb yb S T' CL DL := by
  obtain ⟨p, h1, h2⟩ := h.symm.first
  exact ⟨p, h1, fun w' T' hp => (h2 w' T' hp).symm⟩
end

/-- Two that begin, one behind the other. -/
theorem LB.of {w1 w2 w3 w4 : World} {n m : Nat} {CL DL : List (List Int)} {e e' : Ending} (h1 : BeginPost w1 n CL e w2) (hs : Same w2 w3) (h2 : BeginPost w3 m DL e' w4) :
    ∃ xb yb, e = .returned (.pointer (some ⟨xb, 0, none⟩)) ∧ e' = .returned (.pointer (some ⟨yb, 0, none⟩)) ∧ LB w1 w4 xb yb (plusAll n CL) (plusAll m DL) CL DL := by
  obtain ⟨xb, ab, tb, wb, lb, lvs, o, mb, M, rfl, a1, a2, a3, a4⟩ := h1
  obtain ⟨yb, ab', tb', wb', lb', lvs', p, mb', M', rfl, b1, b2, b3, b4⟩ := h2
  have s24 := hs.trans b4
  have z1 := a4.size
  have z2 := hs.size
  have z3 := b4.size
  refine ⟨xb, yb, rfl, rfl, o, p, ⟨ab, tb, wb, lb, lvs, mb, M, a1.keeps (s24.any (fun _ => False) o) (a1.cl.size s24.size) (fun _ _ => id), a3.keeps fun b hb hz => ⟨s24.block b hb id, b2 b (by omega), hz.2⟩⟩,
    ⟨ab', tb', wb', lb', lvs', mb', M', b1, b3.mono fun b hb hz => ⟨a1.cl b (by omega), hz.2⟩⟩, fun b => ?_, a2, b2.mono (by omega), a4.trans s24⟩
  rcases Nat.lt_or_ge b w3.heap.size with hb | hb
  · exact .inr (b2 b hb)
  · exact .inl (a1.cl b (by omega))

/-! ## Taken back -/
def SS.backT (S : SS) (k : Nat) : SS := let T := if k < S.T.st.length then S.T.back k else S.T; { S with T := T, W := { S.W with head := min S.W.head T.l.length } }
def SS.backL (S : SS) (k : Nat) : List Int := if k < S.T.st.length then (S.T.l.drop (S.T.backTo k)).reverse else []

def SS.backS (S : SS) (k : Nat) : SS := { S with T := if k < S.T.st.length then S.T.back k else S.T }
def BackW (o : Own) (w : World) (xb ab tb wb : Nat) (S : SS) (CL : List (List Int)) (L : List Int) (e : Ending) (w' : World) : Prop :=
  ∃ a cap, e = .returned (.slice a L.length cap) ∧ TPost o w xb ab tb wb S CL w'

theorem tback_any {o : Own} {ab tb wb lb : Nat} {lvs : List Value} {S : SS} (k : Nat) (w : World) (h : Sys w o ab tb wb lb lvs S) (hk : k ≤ 1000000) :
    Calls Try.prog 63 #[.pointer (some ⟨tb, 0, none⟩), .int .i64 k] w fun e w' => ∃ a cap, e = .returned (.slice a (S.backL k).length cap) ∧ SysPost o w ab tb wb lb lvs (S.backS k) w' := by
  obtain ⟨vb, lv, sv, htr⟩ := h.tr
  obtain ⟨pv, hw⟩ := h.wt
  by_cases hlt : k < S.T.st.length
  · refine (back_yes k w htr k (by omega) hlt h.cl).mono ?_
    rintro e w' ⟨v, o', rfl, h1, h2, h3, h4⟩
    have hv : ∃ a cap, v = .slice a (S.T.l.drop (S.T.backTo k)).reverse.length cap := by
      obtain ⟨p, hr, _⟩ := h4
      exact hr.form
    obtain ⟨a, cap, rfl⟩ := hv
    have e1 : S.backL k = (S.T.l.drop (S.T.backTo k)).reverse := by unfold SS.backL; rw [if_pos hlt]
    have e2 : S.backS k = { S with T := S.T.back k } := by unfold SS.backS; rw [if_pos hlt]
    rw [e1, e2]
    exact ⟨a, cap, rfl, o', ⟨h.ar.keeps h3 (by unfold trS; omega), h1, ⟨pv, hw.keeps h3 (fun r hr => by unfold wtS at hr; unfold trS; omega)⟩, h2⟩,
      ⟨h3.os, h3.tape, h3.output, h3.size, h3.role, fun b hb hn => h3.block b hb (by unfold sysS at hn; unfold trS; omega)⟩⟩
  · refine (back_none k w htr (by omega) (by omega)).mono ?_
    rintro e w' ⟨rfl, rfl⟩
    have e1 : S.backL k = [] := by unfold SS.backL; rw [if_neg hlt]
    have e2 : S.backS k = S := by unfold SS.backS; rw [if_neg hlt]
    rw [e1, e2]
    exact ⟨none, 0, rfl, o, h, Fr.sm (Sm.refl _)⟩

set_option maxHeartbeats 2000000 in
theorem wback_any {o : Own} {xb ab tb wb : Nat} {S : SS} {CL : List (List Int)} (k : Nat) (w : World) (h : AllT w o xb ab tb wb S CL) (hk : k ≤ 1000000) :
    Calls Try.prog 34 #[.pointer (some ⟨wb, 0, none⟩), .int .i64 k] w (BackW o w xb ab tb wb (S.backT k) CL (S.backL k)) := by
  obtain ⟨lb, lvs, mb, M, h1, h2⟩ := h
  have c1 : w.cell? ⟨wb, 1, none⟩ = some (.pointer (some ⟨tb, 0, none⟩)) := by obtain ⟨pv, hw⟩ := h1.wt; exact hw.c1
  have H1 := Lib.hid h1
  have H2 := Lib.hid h2
  clear h1 h2
  go_enter Try.func34, Try.ntmps34
  go_wp2_with fail
  refine (tback_any k _ H1.out hk).mono ?_
  rintro e w1 ⟨a, cap, rfl, o1, h3, hf3⟩
  obtain ⟨pv, hw3⟩ := h3.wt
  obtain ⟨vb, lv, sv, htr3⟩ := h3.tr
  have d1 := hw3.c1
  have d4 := hw3.c4
  have df := hw3.f 4
  have hlen : (S.backS k).T.l.length ≤ 100000 := Nat.le_trans htr3.wf.len htr3.wf.nle
  have H3 := Lib.hid h3
  have HF3 := Lib.hid hf3
  have HTM := Lib.hid htr3.toTrM
  have HL : Hid ((S.backS k).W.head = S.W.head) := rfl
  have hmin : min (S.W.head : Int) ((S.backS k).T.l.length : Int) = ((min S.W.head (S.backS k).T.l.length : Nat) : Int) := by omega
  have hS : S.backT k = { S.backS k with W := { (S.backS k).W with head := min S.W.head (S.backS k).T.l.length } } := rfl
  have HS := Lib.hid hS
  rw [HL.out] at d4
  clear h3 hf3 hw3 htr3 hS c1
  generalize S.backS k = S1 at *
  generalize S.backL k = L at *
  generalize S.W.head = hd at *
  go_upto_region 2 with fail
  go_region_with (go_at_call 25; refine (len_any _ (HTM.out.sm (by first | exact Sm.trans ⟨_, rfl⟩ (Sm.drew _) | exact Sm.drew _ | exact ⟨_, rfl⟩))).mono ?_; rintro e w2 ⟨rfl, rfl⟩)
  all_goals
    go_wp2
    go_ret
    obtain ⟨hs4, hf4⟩ := H3.out.setHd (min hd S1.T.l.length)
    have hf := HF3.out.trans hf4
    rw [HS.out]
    exact ⟨a, cap, rfl, o1, ⟨lb, lvs, mb, M, hs4.sm (by first | exact Sm.drew _ | exact ⟨_, rfl⟩), (H2.out.own hf (fun h => h rfl)).same (Fr.sm (by first | exact Sm.drew _ | exact ⟨_, rfl⟩))⟩, hf.trans (Fr.sm (by first | exact Sm.drew _ | exact ⟨_, rfl⟩))⟩

/-! ## Numbers of 16 bits that came in -/
def InU16 (w : World) (v : Value) (xs : List Int) : Prop :=
  xs.length ≤ 9223372036854775807 ∧ ∃ a cap, v = .slice a xs.length cap ∧ xs.length ≤ cap ∧ (∀ x ∈ xs, 0 ≤ x ∧ x ≤ 65535) ∧ ∀ (j : Nat) x, xs[j]? = some x → ∃ a', a = some a' ∧ w.cell? (a'.add j) = some (.int .u16 x)
theorem InU16.same {w w' : World} {v : Value} {c : List Int} (h : InU16 w v c) (hs : Same w w') : InU16 w' v c := by
  obtain ⟨h0, a, cap, rfl, h1, h2, h3⟩ := h
  refine ⟨h0, a, cap, rfl, h1, h2, fun j x hj => ?_⟩
  obtain ⟨a', e, hc⟩ := h3 j x hj
  exact ⟨a', e, cell_same hs hc⟩

section
variable {w w' : World} {o : Own} {xb ab tb wb : Nat} {S : SS} {CL : List (List Int)}
theorem AllT.visits (h : AllT w o xb ab tb wb S CL) {v : Int} (hv : S.W.visits = v) : Calls Try.prog 28 #[.pointer (some ⟨wb, 0, none⟩)] w fun e w' => e = .returned (.int .i64 v) ∧ w = w' := by
  subst hv
  obtain ⟨lb, lvs, mb, M, h1, h2⟩ := h
  exact visits_any w h1
theorem AllT.len (h : AllT w o xb ab tb wb S CL) {n : Nat} (hn : S.T.l.length = n) : Calls Try.prog 25 #[.pointer (some ⟨tb, 0, none⟩)] w fun e w' => e = .returned (.int .i64 n) ∧ w = w' := by
  subst hn
  obtain ⟨vb, lv, sv, h1⟩ := h.tr
  exact len_any w h1.toTrM
theorem AllT.level (h : AllT w o xb ab tb wb S CL) {n : Nat} (hn : S.T.st.length = n) : Calls Try.prog 33 #[.pointer (some ⟨tb, 0, none⟩)] w fun e w' => e = .returned (.int .i64 n) ∧ w = w' := by
  subst hn
  obtain ⟨vb, lv, sv, h1⟩ := h.tr
  exact level_any w h1.toTrM
end

/-! ## Without clauses nothing follows -/
theorem der_none {k : List Int} {x : Int} (h : Der (fun c => c ∈ ([] : List (List Int))) k x) : x ∈ k := by
  cases h with
  | given h => exact h
  | unit h _ _ => simp at h

theorem none_prop {n : Nat} {S : SS} (h : Good n [] S) : S.propagate.2 = none ∧ S.propagate.1.T.l = S.T.l ∧ S.propagate.1.T.st = S.T.st := by
  have hw := h.wf
  have h1 : S.propagate.2 = none := by
    cases hR : S.propagate.2 with
    | none => rfl
    | some r =>
      rcases h.clashes hR with ⟨x, h1, h2⟩ | ⟨c, hc, _⟩
      · have h3 := (mem_on hw (der_none h1)).2.2
        have h4 := (mem_on hw (der_none h2)).2.2
        omega
      · simp at hc
  refine ⟨h1, ?_, h.propagate.2.ok.step.puts.st⟩
  obtain ⟨s, hs⟩ := h.propagate.2.ok.step.puts.l
  have hnd := (h.propagate.1).wf.nodup
  rw [hs] at hnd ⊢
  cases s with
  | nil => simp
  | cons a s =>
    have ha : a ∈ S.T.l := der_none (((h.follows h1).1 a).1 (by rw [hs]; simp))
    rw [List.map_append, List.nodup_append] at hnd
    exact absurd rfl (hnd.2.2 (vi a) (List.mem_map.2 ⟨a, ha, rfl⟩) _ (List.mem_map.2 ⟨a, by simp, rfl⟩))

/-- A propagator without clauses, behind at most i decisions. -/
structure NoneAt (n i : Nat) (T : SS) : Prop where
  done : Done n [] T
  vis : T.W.visits = 0
  len : T.T.st.length = T.T.l.length
  le : T.T.l.length ≤ i
  st0 : T.T.st.getD 0 0 = 0

theorem decided_cases (S : SS) (vars : Nat) (x : Int) : S.decided vars x = S ∨ (S.T.free (lit16 vars x) = true ∧ S.decided vars x = { S with T := S.T.decide_ (lit16 vars x) }) := by
  unfold SS.decided
  split
  · exact .inl rfl
  · unfold SS.dec
    split
    · rename_i h; exact .inr ⟨h, rfl⟩
    · exact .inl rfl
theorem Done.decided {n : Nat} {CL : List (List Int)} {S : SS} (h : Done n CL S) (vars : Nat) (x : Int) : Good n CL (S.decided vars x) := by
  rcases decided_cases S vars x with e | ⟨hf, e⟩
  · rw [e]; exact h.good
  · rw [e]; exact h.good.decide h.ready hf
theorem decided_W (S : SS) (vars : Nat) (x : Int) : (S.decided vars x).W = S.W := by
  rcases decided_cases S vars x with e | ⟨_, e⟩ <;> rw [e]

theorem none_begin {n : Nat} (hn : n ≤ 1000) : NoneAt n 0 (plusAll n []).propagate.1 ∧ (plusAll n []).propagate.2 = none := by
  obtain ⟨hg, hT, hv⟩ := good_built (n := n) (CL := []) (by omega) (by simp) (by simp) (by simp)
  obtain ⟨h1, h2, h3⟩ := none_prop hg
  have h4 := hg.visits (by omega) (by rw [hv]; simp)
  rw [hv] at h4
  refine ⟨⟨⟨_, hg, rfl, h1⟩, by simp at h4; omega, ?_, ?_, ?_⟩, h1⟩
  · rw [h2, h3, hT]; rfl
  · rw [h2, hT]; exact Nat.le_refl 0
  · rw [h3, hT]; rfl

theorem NoneAt.step {n i : Nat} {T : SS} (h : NoneAt n i T) (vars : Nat) (x : Int) :
    NoneAt n (i + 1) (T.decided vars x).propagate.1 ∧ (T.decided vars x).propagate.2 = none ∧ (T.decided vars x).propagate.1.T.l.length ≤ T.T.l.length + 1 := by
  have hg := h.done.decided vars x
  obtain ⟨h1, h2, h3⟩ := none_prop hg
  have hv : (T.decided vars x).W.visits = 0 := by rw [decided_W]; exact h.vis
  have h4 := hg.visits (by omega) (by rw [hv]; simp)
  rw [hv] at h4
  have hvis : (T.decided vars x).propagate.1.W.visits = 0 := by simp at h4; omega
  have hlen := h.len
  have hle := h.le
  have hst := h.st0
  refine ⟨⟨⟨_, hg, rfl, h1⟩, hvis, ?_, ?_, ?_⟩, h1, ?_⟩
  · rw [h2, h3]
    rcases decided_cases T vars x with e | ⟨_, e⟩ <;> rw [e]
    · exact hlen
    · simp [TS.decide_, TS.put, hlen]
  · rw [h2]
    rcases decided_cases T vars x with e | ⟨_, e⟩ <;> rw [e]
    · omega
    · simp [TS.decide_, TS.put]; omega
  · rw [h3]
    rcases decided_cases T vars x with e | ⟨_, e⟩ <;> rw [e]
    · exact hst
    · show (T.T.st ++ [(T.T.l.length : Int)]).getD 0 0 = 0
      cases hs : T.T.st with
      | nil => rw [hs] at hlen; simp at hlen; simp [← hlen]
      | cons a s => rw [hs] at hst; exact hst
  · rw [h2]
    rcases decided_cases T vars x with e | ⟨_, e⟩ <;> rw [e]
    · omega
    · simp [TS.decide_, TS.put]

theorem NoneAt.back {n i : Nat} {T : SS} (h : NoneAt n i T) : (T.backL 0).length = T.T.l.length ∧ (T.backT 0).T.l.length = 0 := by
  have hlen := h.len
  have hst := h.st0
  have hb : T.T.backTo 0 = 0 := by unfold TS.backTo; rw [hst]; rfl
  unfold SS.backL SS.backT
  by_cases h0 : 0 < T.T.st.length
  · simp only [if_pos h0]
    rw [hb]
    refine ⟨by simp, ?_⟩
    unfold TS.back
    rw [hb]; rfl
  · simp only [if_neg h0]
    refine ⟨?_, ?_⟩
    · simp; omega
    · omega
end Go.Proofs.Ytpjiemffkkfbkaa
