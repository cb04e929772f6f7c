/- A trail in memory, and the walks of package lit and of the trail's readers. -/
import Derived.Test.YtpjiemffkkfbkaaProg
import Derived.Test.YtpjiemffkkfbkaaM0
import Derived.Test.YtpjiemffkkfbkaaPA
import Derived.Deep.QuietTactic
import Derived.BigQuiet
namespace Go.Proofs.Ytpjiemffkkfbkaa
open Go.RowKit

def Cell.vals (c : Cell) : List Value := [.int .i64 c.v, .int .i64 c.lv, .int .i64 c.rs, .int .i64 c.pl, .bool c.ph]
def encCells (vs : List Cell) : List Value := vs.flatMap Cell.vals

theorem encCells_get : ∀ (vs : List Cell) (i k : Nat), i < vs.length → k < 5 → (encCells vs)[i * 5 + k]? = (vs.getD i Cell.zero).vals[k]? := by
  intro vs
  induction vs with
  | nil => intro i k h; simp at h
  | cons c vs ih =>
    intro i k h hk
    cases i with
    | zero =>
      simp only [encCells, List.flatMap_cons, Nat.zero_mul, Nat.zero_add]
      rw [List.getElem?_append_left (by simpa [Cell.vals] using hk)]; rfl
    | succ i =>
      have := ih i k (by simpa using h) hk
      simp only [encCells, List.flatMap_cons] at this ⊢
      rw [List.getElem?_append_right (by simp [Cell.vals]; omega)]
      have e : (i + 1) * 5 + k - c.vals.length = i * 5 + k := by simp [Cell.vals]; omega
      rw [e, this]; simp

theorem encCells_length (vs : List Cell) : (encCells vs).length = vs.length * 5 := by
  induction vs with
  | nil => rfl
  | cons c vs ih => simp [encCells, Cell.vals] at ih ⊢; omega

/-- A trail's words in memory, at block tb. -/
structure TrM (w : World) (o : Own) (tb : Nat) (σ : TS) (vb : Nat) (lv sv : Value) : Prop where
  nle : σ.vars.length ≤ 100000
  lle : σ.l.length ≤ 100000
  sle : σ.st.length ≤ 100001
  head : w.heap[tb]? = some (.cells #[.slice (some ⟨vb, 0, none⟩) σ.vars.length σ.vars.length, lv, sv] 93 (0, 0))
  ht : o tb = 1
  vars : w.heap[vb]? = some (.cells (encCells σ.vars).toArray 97 (0, 0))
  hv : o vb = 2
  l : IntRow w o 3 lv σ.l
  st : IntRow w o 4 sv σ.st

/-- A trail in memory at block tb. -/
structure TrAt (w : World) (o : Own) (tb : Nat) (σ : TS) (vb : Nat) (lv sv : Value) : Prop extends TrM w o tb σ vb lv sv where
  wf : σ.WF

def Tr (w : World) (o : Own) (tb : Nat) (σ : TS) : Prop := ∃ vb lv sv, TrAt w o tb σ vb lv sv

section
variable {w w' : World} {o o' : Own} {tb : Nat} {σ : TS} {vb : Nat} {lv sv : Value}

theorem TrM.c0 (h : TrM w o tb σ vb lv sv) : w.cell? ⟨tb, 0, none⟩ = some (.slice (some ⟨vb, 0, none⟩) σ.vars.length σ.vars.length) := cell_of_row w tb 0 _ 93 _ h.head
theorem TrM.c1 (h : TrM w o tb σ vb lv sv) : w.cell? ⟨tb, 1, none⟩ = some lv := cell_of_row w tb 1 _ 93 _ h.head
theorem TrM.c2 (h : TrM w o tb σ vb lv sv) : w.cell? ⟨tb, 2, none⟩ = some sv := cell_of_row w tb 2 _ 93 _ h.head
theorem TrM.f (h : TrM w o tb σ vb lv sv) (i : Nat) : w.frozen? ⟨tb, i, none⟩ = false := frozen_of_row w tb i _ 93 h.head
theorem TrM.fv (h : TrM w o tb σ vb lv sv) (i : Nat) : w.frozen? ⟨vb, i, none⟩ = false := frozen_of_row w vb i _ 97 h.vars

theorem TrM.cell (h : TrM w o tb σ vb lv sv) {l : Int} (hl : σ.ok l = true) :
    w.cell? ⟨vb, vi l * 5, none⟩ = some (.int .i64 (σ.get l).v) ∧ w.cell? ⟨vb, vi l * 5 + 1, none⟩ = some (.int .i64 (σ.get l).lv) ∧
    w.cell? ⟨vb, vi l * 5 + 2, none⟩ = some (.int .i64 (σ.get l).rs) ∧ w.cell? ⟨vb, vi l * 5 + 3, none⟩ = some (.int .i64 (σ.get l).pl) ∧
    w.cell? ⟨vb, vi l * 5 + 4, none⟩ = some (.bool (σ.get l).ph) := by
  have hlt := vi_lt hl
  have k : ∀ k, k < 5 → w.cell? ⟨vb, vi l * 5 + k, none⟩ = (σ.get l).vals[k]? := by
    intro k hk
    rw [cell_of_row w vb _ _ 97 _ h.vars]
    simpa [TS.get] using encCells_get σ.vars (vi l) k hlt hk
  exact ⟨by simpa [Cell.vals] using k 0 (by omega), by simpa [Cell.vals] using k 1 (by omega), by simpa [Cell.vals] using k 2 (by omega), by simpa [Cell.vals] using k 3 (by omega), by simpa [Cell.vals] using k 4 (by omega)⟩

theorem TrM.keeps {S : Nat → Prop} (h : TrM w o tb σ vb lv sv) (hf : Fr S o o' w w') (hs : ¬ S 1 ∧ ¬ S 2 ∧ ¬ S 3 ∧ ¬ S 4) : TrM w' o' tb σ vb lv sv := by
  have h1 := hf.keeps h.head (by rw [h.ht]; exact hs.1)
  have h2 := hf.keeps h.vars (by rw [h.hv]; exact hs.2.1)
  exact ⟨h.nle, h.lle, h.sle, h1.1, h1.2.trans h.ht, h2.1, h2.2.trans h.hv, h.l.keeps hf hs.2.2.1, h.st.keeps hf hs.2.2.2⟩
theorem TrAt.keeps {S : Nat → Prop} (h : TrAt w o tb σ vb lv sv) (hf : Fr S o o' w w') (hs : ¬ S 1 ∧ ¬ S 2 ∧ ¬ S 3 ∧ ¬ S 4) : TrAt w' o' tb σ vb lv sv :=
  ⟨h.toTrM.keeps hf hs, h.wf⟩
theorem Tr.keeps {S : Nat → Prop} (h : Tr w o tb σ) (hf : Fr S o o' w w') (hs : ¬ S 1 ∧ ¬ S 2 ∧ ¬ S 3 ∧ ¬ S 4) : Tr w' o' tb σ := by
  obtain ⟨vb, lv, sv, h⟩ := h; exact ⟨vb, lv, sv, h.keeps hf hs⟩
theorem TrM.sm (h : TrM w o tb σ vb lv sv) (hs : Sm w w') : TrM w' o tb σ vb lv sv := h.keeps (S := fun _ => False) (Fr.sm hs) ⟨id, id, id, id⟩
theorem TrAt.sm (h : TrAt w o tb σ vb lv sv) (hs : Sm w w') : TrAt w' o tb σ vb lv sv := h.keeps (S := fun _ => False) (Fr.sm hs) ⟨id, id, id, id⟩
theorem Tr.sm (h : Tr w o tb σ) (hs : Sm w w') : Tr w' o tb σ := h.keeps (S := fun _ => False) (Fr.sm hs) ⟨id, id, id, id⟩
theorem TrM.at_ (h : TrM w o tb σ vb lv sv) (hw : σ.WF) : TrAt w o tb σ vb lv sv := ⟨h, hw⟩
end

/-! ### package lit -/

theorem ret_bool {a b : Bool} (h : a = b) : Ending.returned (.bool a) = .returned (.bool b) := by rw [h]
theorem ret_int {a b : Int} (h : a = b) : Ending.returned (.int .i64 a) = .returned (.int .i64 b) := by rw [h]

theorem right_any (l : Int) (n : Nat) (w : World) (h1 : n ≤ 100000) :
    Calls Try.prog 82 #[.int .i64 l, .int .i64 n] w fun e w' => e = .returned (.bool (litIn l n)) ∧ w = w' := by
  go_enter Try.func82, Try.ntmps82
  go_wp2
  all_goals go_ret
  all_goals refine ⟨ret_bool ?_, rfl⟩
  all_goals rw [Bool.eq_iff_iff]; simp [litIn]; omega

theorem var_any (l : Int) (w : World) (h : -9223372036854775807 ≤ l ∧ l ≤ 9223372036854775807) :
    Calls Try.prog 66 #[.int .i64 l] w fun e w' => e = .returned (.int .i64 l.natAbs) ∧ w = w' := by
  obtain ⟨h0, h1⟩ := h
  go_enter Try.func66, Try.ntmps66
  go_wp2
  all_goals go_ret
  all_goals exact ⟨by simp; omega, rfl⟩


theorem index_any (l : Int) (w : World) (h : l ≠ 0 ∧ -100000 ≤ l ∧ l ≤ 100000) :
    Calls Try.prog 80 #[.int .i64 l] w fun e w' => e = .returned (.int .i64 (ix l)) ∧ w = w' := by
  obtain ⟨h0, h1, h2⟩ := h
  go_enter Try.func80, Try.ntmps80
  go_wp2
  all_goals go_ret
  · exact ⟨by unfold ix; rw [if_pos (by assumption)]; simp; omega, rfl⟩
  · exact ⟨by unfold ix; rw [if_neg (by omega)]; simp; omega, rfl⟩

/-! ### the trail's readers -/
section
variable {o : Own} {tb : Nat} {σ : TS} {vb : Nat} {lv sv : Value}

theorem level_any (w : World) (h : TrM w o tb σ vb lv sv) :
    Calls Try.prog 33 #[.pointer (some ⟨tb, 0, none⟩)] w fun e w' => e = .returned (.int .i64 σ.st.length) ∧ w = w' := by
  obtain ⟨a, cap, rfl⟩ := h.st.form
  have c2 := h.c2
  go_enter Try.func33, Try.ntmps33
  go_wp2
  go_ret
  exact ⟨rfl, rfl⟩

theorem len_any (w : World) (h : TrM w o tb σ vb lv sv) :
    Calls Try.prog 25 #[.pointer (some ⟨tb, 0, none⟩)] w fun e w' => e = .returned (.int .i64 σ.l.length) ∧ w = w' := by
  obtain ⟨a, cap, rfl⟩ := h.l.form
  have c1 := h.c1
  go_enter Try.func25, Try.ntmps25
  go_wp2
  go_ret
  exact ⟨rfl, rfl⟩

theorem cell_no (l : Int) (w : World) (h : TrM w o tb σ vb lv sv) (hl : σ.ok l = false) :
    Calls Try.prog 61 #[.pointer (some ⟨tb, 0, none⟩), .int .i64 l] w fun e w' => e = .returned (.pointer none) ∧ w = w' := by
  have c0 := h.c0
  have hn := h.nle
  have hl' : litIn l σ.vars.length = false := hl
  clear h
  generalize σ.vars.length = n at *
  go_enter Try.func61, Try.ntmps61
  go_wp2_with (go_at_call 82; refine (right_any _ _ _ hn).mono ?_; rintro e w' ⟨rfl, rfl⟩)
  go_ret
  exact ⟨rfl, rfl⟩

theorem cell_in (l : Int) (w : World) (h : TrM w o tb σ vb lv sv) (hl : σ.ok l = true) :
    Calls Try.prog 61 #[.pointer (some ⟨tb, 0, none⟩), .int .i64 l] w fun e w' => e = .returned (.pointer (some ⟨vb, vi l * 5, none⟩)) ∧ Sm w w' := by
  have c0 := h.c0
  have hn := h.nle
  have hl' : litIn l σ.vars.length = true := hl
  clear h hl
  generalize σ.vars.length = n at *
  have hb := litIn_iff.1 hl'
  obtain ⟨hb0, hb1, hb2⟩ := hb
  go_enter Try.func61, Try.ntmps61
  go_wp2_with (go_at_call 82; refine (right_any _ _ _ hn).mono ?_; rintro e w' ⟨rfl, rfl⟩)
  go_quiet ((go_at_call 66; exact Calls.quiet_of_same ((var_any _ _ (by omega)).mono fun _ _ h => ⟨h.1, h.2.symm⟩)))
  go_wp2
  go_ret
  exact ⟨rfl, _, rfl⟩

theorem on_no (l : Int) (w : World) (h : TrAt w o tb σ vb lv sv) (hl : σ.on l = false) :
    Calls Try.prog 60 #[.pointer (some ⟨tb, 0, none⟩), .int .i64 l] w fun e w' => e = .returned (.pointer none) ∧ Sm w w' := by
  by_cases hk : σ.ok l = true
  · have c := (h.cell hk).1
    have hv : (σ.get l).v = 0 := by simpa [TS.on, hk] using hl
    rw [hv] at c
    go_enter Try.func60, Try.ntmps60
    go_wp2_with (go_at_call 61; refine (cell_in _ _ h.toTrM hk).mono ?_; rintro e w' ⟨rfl, k, rfl⟩)
    go_ret
    exact ⟨rfl, _, rfl⟩
  · go_enter Try.func60, Try.ntmps60
    go_wp2_with (go_at_call 61; refine (cell_no _ _ h.toTrM (by simpa using hk)).mono ?_; rintro e w' ⟨rfl, rfl⟩)
    go_ret
    exact ⟨rfl, Sm.refl _⟩

theorem on_yes (l : Int) (w : World) (h : TrAt w o tb σ vb lv sv) (hl : σ.on l = true) :
    Calls Try.prog 60 #[.pointer (some ⟨tb, 0, none⟩), .int .i64 l] w fun e w' => e = .returned (.pointer (some ⟨vb, vi l * 5, none⟩)) ∧ Sm w w' := by
  simp only [TS.on, Bool.and_eq_true, bne_iff_ne] at hl
  obtain ⟨hk, hv⟩ := hl
  have c := (h.cell hk).1
  generalize (σ.get l).v = v at *
  go_enter Try.func60, Try.ntmps60
  go_wp2_with (go_at_call 61; refine (cell_in _ _ h.toTrM hk).mono ?_; rintro e w' ⟨rfl, k, rfl⟩)
  go_ret
  exact ⟨rfl, _, rfl⟩

theorem levelOf_any (l : Int) (w : World) (h : TrAt w o tb σ vb lv sv) :
    Calls Try.prog 26 #[.pointer (some ⟨tb, 0, none⟩), .int .i64 l] w fun e w' => e = .returned (.int .i64 (σ.levelOf l)) ∧ Sm w w' := by
  by_cases hl : σ.on l = true
  · have c := h.cell (by simp only [TS.on, Bool.and_eq_true] at hl; exact hl.1)
    obtain ⟨c0, c1, c2, c3, c4⟩ := c
    have e : σ.levelOf l = (σ.get l).lv := by simp [TS.levelOf, hl]
    rw [e]
    go_enter Try.func26, Try.ntmps26
    go_wp2_with (go_at_call 60; refine (on_yes _ _ h hl).mono ?_; rintro e w' ⟨rfl, k, rfl⟩)
    go_ret
    exact ⟨rfl, _, rfl⟩
  · have hl : σ.on l = false := by simpa using hl
    have e : σ.levelOf l = -1 := by simp [TS.levelOf, hl]
    rw [e]
    go_enter Try.func26, Try.ntmps26
    go_wp2_with (go_at_call 60; refine (on_no _ _ h hl).mono ?_; rintro e w' ⟨rfl, k, rfl⟩)
    go_ret
    exact ⟨rfl, _, rfl⟩

theorem reason_any (l : Int) (w : World) (h : TrAt w o tb σ vb lv sv) :
    Calls Try.prog 50 #[.pointer (some ⟨tb, 0, none⟩), .int .i64 l] w fun e w' => e = .returned (.int .i64 (σ.reason l)) ∧ Sm w w' := by
  by_cases hl : σ.on l = true
  · have c := h.cell (by simp only [TS.on, Bool.and_eq_true] at hl; exact hl.1)
    obtain ⟨c0, c1, c2, c3, c4⟩ := c
    have e : σ.reason l = (σ.get l).rs := by simp [TS.reason, hl]
    rw [e]
    go_enter Try.func50, Try.ntmps50
    go_wp2_with (go_at_call 60; refine (on_yes _ _ h hl).mono ?_; rintro e w' ⟨rfl, k, rfl⟩)
    go_ret
    exact ⟨rfl, _, rfl⟩
  · have hl : σ.on l = false := by simpa using hl
    have e : σ.reason l = -1 := by simp [TS.reason, hl]
    rw [e]
    go_enter Try.func50, Try.ntmps50
    go_wp2_with (go_at_call 60; refine (on_no _ _ h hl).mono ?_; rintro e w' ⟨rfl, k, rfl⟩)
    go_ret
    exact ⟨rfl, _, rfl⟩

theorem place_any (l : Int) (w : World) (h : TrAt w o tb σ vb lv sv) :
    Calls Try.prog 44 #[.pointer (some ⟨tb, 0, none⟩), .int .i64 l] w fun e w' => e = .returned (.int .i64 (σ.place l)) ∧ Sm w w' := by
  by_cases hl : σ.on l = true
  · have c := h.cell (by simp only [TS.on, Bool.and_eq_true] at hl; exact hl.1)
    obtain ⟨c0, c1, c2, c3, c4⟩ := c
    have e : σ.place l = (σ.get l).pl := by simp [TS.place, hl]
    rw [e]
    go_enter Try.func44, Try.ntmps44
    go_wp2_with (go_at_call 60; refine (on_yes _ _ h hl).mono ?_; rintro e w' ⟨rfl, k, rfl⟩)
    go_ret
    exact ⟨rfl, _, rfl⟩
  · have hl : σ.on l = false := by simpa using hl
    have e : σ.place l = -1 := by simp [TS.place, hl]
    rw [e]
    go_enter Try.func44, Try.ntmps44
    go_wp2_with (go_at_call 60; refine (on_no _ _ h hl).mono ?_; rintro e w' ⟨rfl, k, rfl⟩)
    go_ret
    exact ⟨rfl, _, rfl⟩

theorem value_any (l : Int) (w : World) (h : TrAt w o tb σ vb lv sv) :
    Calls Try.prog 39 #[.pointer (some ⟨tb, 0, none⟩), .int .i64 l] w fun e w' => e = .returned (.int .i64 (σ.value l)) ∧ Sm w w' := by
  by_cases hl : σ.on l = true
  · have hok : σ.ok l = true := by simp only [TS.on, Bool.and_eq_true] at hl; exact hl.1
    have c := (h.cell hok).1
    have hv := h.wf.vals _ (TS.get_mem hok)
    have e : σ.value l = if l < 0 then -(σ.get l).v else (σ.get l).v := by simp [TS.value, hl]
    rw [e]
    generalize (σ.get l).v = v at *
    go_enter Try.func39, Try.ntmps39
    go_wp2_with (go_at_call 60; refine (on_yes _ _ h hl).mono ?_; rintro e w' ⟨rfl, k, rfl⟩)
    all_goals go_ret
    · exact ⟨rfl, _, rfl⟩
    · exact ⟨rfl, _, rfl⟩
  · have hl : σ.on l = false := by simpa using hl
    have e : σ.value l = 0 := by simp [TS.value, hl]
    rw [e]
    go_enter Try.func39, Try.ntmps39
    go_wp2_with (go_at_call 60; refine (on_no _ _ h hl).mono ?_; rintro e w' ⟨rfl, k, rfl⟩)
    go_ret
    exact ⟨rfl, _, rfl⟩

theorem at_any (i : Int) (w : World) (h : TrAt w o tb σ vb lv sv) :
    Calls Try.prog 27 #[.pointer (some ⟨tb, 0, none⟩), .int .i64 i] w fun e w' => e = .returned (.int .i64 (σ.at_ i)) ∧ Sm w w' := by
  have hlen : (σ.l.length : Int) ≤ 100000 := by have := h.wf.len; have := h.wf.nle; omega
  have c1 := h.c1
  by_cases hi : 0 ≤ i ∧ i < σ.l.length
  · obtain ⟨g, cap, rfl, _, _, hc, _⟩ := h.l.block (by omega)
    have e : σ.at_ i = σ.l.getD i.toNat 0 := by simp only [TS.at_]; rw [if_pos hi]
    have hc' := hc i.toNat (by omega)
    rw [e]
    clear h hc
    generalize σ.l.length = n at *
    obtain ⟨h0, h1⟩ := hi
    go_enter Try.func27, Try.ntmps27
    go_wp2
    go_ret
    exact ⟨ret_int (by simp), Sm.refl _⟩
  · have e : σ.at_ i = 0 := by simp only [TS.at_]; rw [if_neg hi]
    rw [e]
    obtain ⟨a, cap, rfl⟩ := h.l.form
    clear h
    generalize σ.l.length = n at *
    by_cases h0 : i < 0
    · go_enter Try.func27, Try.ntmps27
      go_wp2
      go_ret
      exact ⟨rfl, Sm.refl _⟩
    · have h1 : (n : Int) ≤ i := by omega
      go_enter Try.func27, Try.ntmps27
      go_wp2
      go_ret
      exact ⟨rfl, Sm.refl _⟩

theorem full_any (w : World) (h : TrM w o tb σ vb lv sv) :
    Calls Try.prog 30 #[.pointer (some ⟨tb, 0, none⟩)] w fun e w' => e = .returned (.bool σ.full) ∧ Sm w w' := by
  obtain ⟨a, cap, rfl⟩ := h.l.form
  have c0 := h.c0
  have c1 := h.c1
  have e : σ.full = ((σ.l.length : Int) == (σ.vars.length : Int)) := by unfold TS.full; rw [Bool.eq_iff_iff]; simp; omega
  rw [e]
  clear h e
  generalize σ.l.length = n at *
  generalize σ.vars.length = m at *
  go_enter Try.func30, Try.ntmps30
  go_wp2
  go_quiet (fail)
  go_wp2
  go_ret
  exact ⟨rfl, _, rfl⟩
end
end Go.Proofs.Ytpjiemffkkfbkaa
