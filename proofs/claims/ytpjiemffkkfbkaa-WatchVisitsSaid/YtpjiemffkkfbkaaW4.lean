/- The walk of the propagator's visit: its parts. -/
import Derived.Test.YtpjiemffkkfbkaaW3
namespace Go.Proofs.Ytpjiemffkkfbkaa
open Go.RowKit

theorem encW_setBl (L : List Wx) (i : Nat) (b : Int) (h : i < L.length) : encW (L.set i { L.getD i default with bl := b }) = (encW L).set (i * 3 + 1) (.int .i64 b) := by
  induction L generalizing i with
  | nil => simp at h
  | cons d L ih =>
    cases i with
    | zero => simp [encW, Wx.vals]
    | succ i =>
      have e : (i + 1) * 3 + 1 = d.vals.length + (i * 3 + 1) := by simp [Wx.vals]; omega
      have hs : ∀ (A B : List Value) (k : Nat) (x : Value), (A ++ B).set (A.length + k) x = A ++ B.set k x := by
        intro A B k x; rw [List.set_append, if_neg (by omega), Nat.add_sub_cancel_left]
      have h5 := ih i (by simpa using h)
      simp only [encW, List.flatMap_cons, List.set_cons_succ, List.getD_cons_succ] at h5 ⊢
      rw [e, hs, h5]

section
variable {w w' : World} {o o' : Own} {ab tb wb : Nat} {W : WS} {lb : Nat} {lvs : List Value} {pv : Value}

/-- A watch's cells. -/
theorem WtAt.watchAt (h : WtAt w o ab tb wb W lb lvs pv) {k i lg n cap : Nat} (hv : lvs[k]? = some (.slice (some ⟨lg, 0, none⟩) n cap)) (hi : i < (W.lists.getD k []).length) :
    w.cell? ⟨lg, i * 3, none⟩ = some (.int .i64 (SS.wx W k i).ref) ∧ w.cell? ⟨lg, i * 3 + 1, none⟩ = some (.int .i64 (SS.wx W k i).bl) ∧ w.cell? ⟨lg, i * 3 + 2, none⟩ = some (.bool (SS.wx W k i).bin)
      ∧ (∀ j, w.frozen? ⟨lg, j, none⟩ = false) ∧ o lg = 100 + k ∧ n = (W.lists.getD k []).length ∧ n ≤ cap := by
  have hr := h.rows k _ hv
  obtain ⟨g', cap', e, hc, ho, _, h1, h2⟩ := Row.block hr (by omega)
  simp only [Value.slice.injEq, Option.some.injEq, Addr.mk.injEq, and_true] at e
  obtain ⟨rfl, rfl, rfl⟩ := e
  have hk : ∀ j, j < 3 → w.cell? ⟨lg, i * 3 + j, none⟩ = (SS.wx W k i).vals[j]? := by
    intro j hj
    rw [h1 _ (by omega), encW_get _ _ _ hi hj]; rfl
  exact ⟨hk 0 (by omega), hk 1 (by omega), hk 2 (by omega), h2, ho, rfl, hc⟩

/-- What is counted turns. -/
theorem WtAt.setVisits (h : WtAt w o ab tb wb W lb lvs pv) (n : Int) : WtAt (w.setCell ⟨wb, 5, none⟩ (.int .i64 n)) o ab tb wb { W with visits := n } lb lvs pv := by
  have fs : Fr (fun r => r = 8) o o w (w.setCell ⟨wb, 5, none⟩ (.int .i64 n)) := Fr.setCell _ _ h.hw
  refine ⟨?_, h.hw, ?_, h.hl, h.len, h.small, fun i v hv => (h.rows i v hv).keeps fs (by omega), h.pend.keeps fs (by decide)⟩
  · rw [heap_setCell_same _ _ _ _ _ _ h.head]; rfl
  · exact (fs.keeps h.blk (by rw [h.hl]; decide)).1

theorem WtAt.setBl (h : WtAt w o ab tb wb W lb lvs pv) {k i lg n cap : Nat} (hv : lvs[k]? = some (.slice (some ⟨lg, 0, none⟩) n cap)) (hi : i < (W.lists.getD k []).length) (b : Int) :
    WtAt (w.setCell ⟨lg, i * 3 + 1, none⟩ (.int .i64 b)) o ab tb wb (SS.setW W k i { SS.wx W k i with bl := b }) lb lvs pv := by
  obtain ⟨_, _, _, _, ho, rfl, hc⟩ := h.watchAt hv hi
  have fs : Fr (fun r => r = 100 + k) o o w (w.setCell ⟨lg, i * 3 + 1, none⟩ (.int .i64 b)) := Fr.setCell _ _ ho
  have hlen : (SS.setW W k i { SS.wx W k i with bl := b }).lists.length = W.lists.length := by simp [SS.setW]
  refine ⟨?_, h.hw, ?_, h.hl, by rw [hlen]; exact h.len, by rw [hlen]; exact h.small, ?_, h.pend.keeps fs (by omega)⟩
  · rw [hlen]; exact (fs.keeps h.head (by rw [h.hw]; omega)).1
  · exact (fs.keeps h.blk (by rw [h.hl]; omega)).1
  · intro j v hj
    by_cases e : k = j
    · subst e
      rw [hv] at hj
      simp only [Option.some.injEq] at hj
      subst hj
      have hk : k < W.lists.length := by
        by_cases hk : k < W.lists.length
        · exact hk
        · simp [List.getD_eq_getElem?_getD, List.getElem?_eq_none (Nat.le_of_not_lt hk)] at hi
      have e2 : (SS.setW W k i { SS.wx W k i with bl := b }).lists.getD k [] = (W.lists.getD k []).set i { (W.lists.getD k []).getD i default with bl := b } := by
        simp only [SS.setW, SS.wx, List.getD_eq_getElem?_getD, List.getElem?_set, if_pos hk]; simp
      rw [e2, encW_setBl _ _ _ hi, List.length_set]
      exact (h.rows k _ hv).set (i * 3 + 1) _
    · have e2 : (SS.setW W k i { SS.wx W k i with bl := b }).lists.getD j [] = W.lists.getD j [] := by
        simp only [SS.setW, List.getD_eq_getElem?_getD, List.getElem?_set, if_neg e]
      rw [e2]; exact (h.rows j v hj).keeps fs (by omega)
end

section
variable {w w' : World} {o o' : Own} {ab tb wb lb : Nat} {lvs : List Value} {S : SS}

theorem Sys.watchAt (h : Sys w o ab tb wb lb lvs S) {k i lg n cap : Nat} (hv : lvs[k]? = some (.slice (some ⟨lg, 0, none⟩) n cap)) (hi : i < (S.W.lists.getD k []).length) :
    w.cell? ⟨lg, i * 3, none⟩ = some (.int .i64 (SS.wx S.W k i).ref) ∧ w.cell? ⟨lg, i * 3 + 1, none⟩ = some (.int .i64 (SS.wx S.W k i).bl) ∧ w.cell? ⟨lg, i * 3 + 2, none⟩ = some (.bool (SS.wx S.W k i).bin)
      ∧ (∀ j, w.frozen? ⟨lg, j, none⟩ = false) ∧ o lg = 100 + k ∧ n = (S.W.lists.getD k []).length ∧ n ≤ cap := by
  obtain ⟨pv, hw⟩ := h.wt; exact hw.watchAt hv hi
theorem Sys.c0 (h : Sys w o ab tb wb lb lvs S) : w.cell? ⟨wb, 0, none⟩ = some (.pointer (some ⟨ab, 0, none⟩)) := by obtain ⟨pv, hw⟩ := h.wt; exact hw.c0
theorem Sys.c1 (h : Sys w o ab tb wb lb lvs S) : w.cell? ⟨wb, 1, none⟩ = some (.pointer (some ⟨tb, 0, none⟩)) := by obtain ⟨pv, hw⟩ := h.wt; exact hw.c1
theorem Sys.c5 (h : Sys w o ab tb wb lb lvs S) : w.cell? ⟨wb, 5, none⟩ = some (.int .i64 S.W.visits) := by obtain ⟨pv, hw⟩ := h.wt; exact hw.c5
theorem Sys.f (h : Sys w o ab tb wb lb lvs S) (i : Nat) : w.frozen? ⟨wb, i, none⟩ = false := by obtain ⟨pv, hw⟩ := h.wt; exact hw.f i

theorem Sys.setVisits (h : Sys w o ab tb wb lb lvs S) (n : Int) : Sys (w.setCell ⟨wb, 5, none⟩ (.int .i64 n)) o ab tb wb lb lvs { S with W := { S.W with visits := n } } ∧ Fr sysS o o w (w.setCell ⟨wb, 5, none⟩ (.int .i64 n)) := by
  obtain ⟨pv, hw⟩ := h.wt
  have fs : Fr (fun r => r = 8) o o w (w.setCell ⟨wb, 5, none⟩ (.int .i64 n)) := Fr.setCell _ _ hw.hw
  exact ⟨⟨h.ar.keeps fs ⟨by decide, by decide, by decide⟩, h.tr.keeps fs ⟨by decide, by decide, by decide, by decide⟩, ⟨pv, hw.setVisits n⟩, h.cl.setCell _ _⟩, fs.mono fun r hr => by unfold sysS; omega⟩

theorem Sys.setBl (h : Sys w o ab tb wb lb lvs S) {k i lg n cap : Nat} (hv : lvs[k]? = some (.slice (some ⟨lg, 0, none⟩) n cap)) (hi : i < (S.W.lists.getD k []).length) (b : Int) :
    SysPost o w ab tb wb lb lvs { S with W := SS.setW S.W k i { SS.wx S.W k i with bl := b } } (w.setCell ⟨lg, i * 3 + 1, none⟩ (.int .i64 b)) := by
  obtain ⟨pv, hw⟩ := h.wt
  obtain ⟨_, _, _, _, ho, _, _⟩ := hw.watchAt hv hi
  exact h.watch (hw.setBl hv hi b) (h.cl.setCell _ _) ((Fr.setCell (S := fun r => r = 100 + k) _ _ ho).mono fun r hr => by unfold wtS; omega)
end

/-- The system has turned; the header of list k hasn't. -/
def VisitPost (o : Own) (w : World) (ab tb wb lb : Nat) (lvs : List Value) (k : Nat) (S : SS) (w' : World) : Prop := ∃ lvs', lvs'[k]? = lvs[k]? ∧ SysPost o w ab tb wb lb lvs' S w'

theorem VisitPost.trans {w w1 w2 : World} {o o1 : Own} {ab tb wb lb k : Nat} {lvs : List Value} {S : SS} (hf : Fr sysS o o1 w w1) (h : VisitPost o1 w1 ab tb wb lb lvs k S w2) : VisitPost o w ab tb wb lb lvs k S w2 := by
  obtain ⟨l, h1, h2⟩ := h; exact ⟨l, h1, h2.trans hf⟩
theorem SysPost.visit {w w' : World} {o : Own} {ab tb wb lb k : Nat} {lvs : List Value} {S : SS} (h : SysPost o w ab tb wb lb lvs S w') : VisitPost o w ab tb wb lb lvs k S w' := ⟨lvs, rfl, h⟩

theorem ix_inj {a b : Int} (ha : a ≠ 0) (hb : b ≠ 0) (h : ix a = ix b) : a = b := by
  unfold ix at h; split at h <;> split at h <;> omega
end Go.Proofs.Ytpjiemffkkfbkaa
