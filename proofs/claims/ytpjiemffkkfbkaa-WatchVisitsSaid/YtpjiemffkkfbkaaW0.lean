/- A propagator in memory; the whole system: arena, trail, propagator. -/
import Derived.Test.YtpjiemffkkfbkaaT1
import Derived.Test.YtpjiemffkkfbkaaA1
import Derived.Test.YtpjiemffkkfbkaaM3
import Derived.Test.YtpjiemffkkfbkaaPA
namespace Go.Proofs.Ytpjiemffkkfbkaa
open Go.RowKit

def Wx.vals (x : Wx) : List Value := [.int .i64 x.ref, .int .i64 x.bl, .bool x.bin]
def encW (L : List Wx) : List Value := L.flatMap Wx.vals

theorem encW_length (L : List Wx) : (encW L).length = L.length * 3 := by
  induction L with
  | nil => rfl
  | cons c L ih => simp [encW, Wx.vals] at ih ⊢; omega

theorem encW_append (a b : List Wx) : encW (a ++ b) = encW a ++ encW b := by simp [encW]

theorem encW_get : ∀ (L : List Wx) (i k : Nat), i < L.length → k < 3 → (encW L)[i * 3 + k]? = (L.getD i default).vals[k]? := by
  intro L
  induction L with
  | nil => intro i k h; simp at h
  | cons c L ih =>
    intro i k h hk
    cases i with
    | zero =>
      simp only [encW, List.flatMap_cons, Nat.zero_mul, Nat.zero_add]
      rw [List.getElem?_append_left (by simpa [Wx.vals] using hk)]; rfl
    | succ i =>
      have := ih i k (by simpa using h) hk
      simp only [encW, List.flatMap_cons] at this ⊢
      rw [List.getElem?_append_right (by simp [Wx.vals]; omega)]
      have e : (i + 1) * 3 + k - c.vals.length = i * 3 + k := by simp [Wx.vals]; omega
      rw [e, this]; simp

theorem encW_set : ∀ (L : List Wx) (i : Nat) (x : Wx), i < L.length →
    (((encW L).set (i * 3) (.int .i64 x.ref)).set (i * 3 + 1) (.int .i64 x.bl)).set (i * 3 + 2) (.bool x.bin) = encW (L.set i x) := by
  intro L
  induction L with
  | nil => intro i c h; simp at h
  | cons d L ih =>
    intro i c h
    cases i with
    | zero => simp [encW, Wx.vals]
    | succ i =>
      have e : ∀ k, (i + 1) * 3 + k = d.vals.length + (i * 3 + k) := by intro k; simp [Wx.vals]; omega
      have e0 := e 0
      simp only [Nat.add_zero] at e0
      have hs : ∀ (A B : List Value) (k : Nat) (x : Value), (A ++ B).set (A.length + k) x = A ++ B.set k x := by
        intro A B k x; rw [List.set_append, if_neg (by omega), Nat.add_sub_cancel_left]
      have h5 := ih i c (by simpa using h)
      simp only [encW, List.flatMap_cons, List.set_cons_succ] at h5 ⊢
      rw [e 1, e 2, e0, hs, hs, hs, h5]

/-- A propagator in memory, at block wb. -/
structure WtAt (w : World) (o : Own) (ab tb wb : Nat) (W : WS) (lb : Nat) (lvs : List Value) (pv : Value) : Prop where
  head : w.heap[wb]? = some (.cells #[.pointer (some ⟨ab, 0, none⟩), .pointer (some ⟨tb, 0, none⟩), .slice (some ⟨lb, 0, none⟩) W.lists.length W.lists.length, pv, .int .i64 W.head, .int .i64 W.visits] 89 (0, 0))
  hw : o wb = 8
  blk : w.heap[lb]? = some (.cells lvs.toArray 116 (0, 0))
  hl : o lb = 9
  len : lvs.length = W.lists.length
  small : W.lists.length ≤ 200000
  rows : ∀ i v, lvs[i]? = some v → Row w o (100 + i) 111 3 v (W.lists.getD i []).length (encW (W.lists.getD i []))
  pend : ORow w o 10 pv W.pend

def wtS (r : Nat) : Prop := 8 ≤ r ∧ r ≤ 10 ∨ 100 ≤ r

section
variable {w w' : World} {o o' : Own} {ab tb wb : Nat} {W : WS} {lb : Nat} {lvs : List Value} {pv : Value}

theorem WtAt.keeps {S : Nat → Prop} (h : WtAt w o ab tb wb W lb lvs pv) (hf : Fr S o o' w w') (hs : ∀ r, wtS r → ¬ S r) : WtAt w' o' ab tb wb W lb lvs pv := by
  have h1 := hf.keeps h.head (by rw [h.hw]; exact hs 8 (by unfold wtS; omega))
  have h2 := hf.keeps h.blk (by rw [h.hl]; exact hs 9 (by unfold wtS; omega))
  exact ⟨h1.1, h1.2.trans h.hw, h2.1, h2.2.trans h.hl, h.len, h.small, fun i v hv => (h.rows i v hv).keeps hf (hs _ (by unfold wtS; omega)), h.pend.keeps hf (hs 10 (by unfold wtS; omega))⟩

theorem WtAt.sm (h : WtAt w o ab tb wb W lb lvs pv) (hs : Sm w w') : WtAt w' o ab tb wb W lb lvs pv := h.keeps (S := fun _ => False) (Fr.sm hs) (fun _ _ => id)

theorem WtAt.c0 (h : WtAt w o ab tb wb W lb lvs pv) : w.cell? ⟨wb, 0, none⟩ = some (.pointer (some ⟨ab, 0, none⟩)) := cell_of_row w wb 0 _ 89 _ h.head
theorem WtAt.c1 (h : WtAt w o ab tb wb W lb lvs pv) : w.cell? ⟨wb, 1, none⟩ = some (.pointer (some ⟨tb, 0, none⟩)) := cell_of_row w wb 1 _ 89 _ h.head
theorem WtAt.c2 (h : WtAt w o ab tb wb W lb lvs pv) : w.cell? ⟨wb, 2, none⟩ = some (.slice (some ⟨lb, 0, none⟩) W.lists.length W.lists.length) := cell_of_row w wb 2 _ 89 _ h.head
theorem WtAt.c3 (h : WtAt w o ab tb wb W lb lvs pv) : w.cell? ⟨wb, 3, none⟩ = some pv := cell_of_row w wb 3 _ 89 _ h.head
theorem WtAt.c4 (h : WtAt w o ab tb wb W lb lvs pv) : w.cell? ⟨wb, 4, none⟩ = some (.int .i64 W.head) := cell_of_row w wb 4 _ 89 _ h.head
theorem WtAt.c5 (h : WtAt w o ab tb wb W lb lvs pv) : w.cell? ⟨wb, 5, none⟩ = some (.int .i64 W.visits) := cell_of_row w wb 5 _ 89 _ h.head
theorem WtAt.f (h : WtAt w o ab tb wb W lb lvs pv) (i : Nat) : w.frozen? ⟨wb, i, none⟩ = false := frozen_of_row w wb i _ 89 h.head
theorem WtAt.lst (h : WtAt w o ab tb wb W lb lvs pv) {i : Nat} (hi : i < W.lists.length) : ∃ v, lvs[i]? = some v ∧ w.cell? ⟨lb, i, none⟩ = some v ∧ w.frozen? ⟨lb, i, none⟩ = false := by
  have hi2 : i < lvs.length := by rw [h.len]; exact hi
  refine ⟨lvs[i], List.getElem?_eq_getElem hi2, ?_, frozen_of_row w lb i _ 116 h.blk⟩
  rw [cell_of_row w lb i _ 116 _ h.blk]
  simp [hi2]
end

/-- The whole system in memory. -/
structure Sys (w : World) (o : Own) (ab tb wb lb : Nat) (lvs : List Value) (S : SS) : Prop where
  ar : Ar w o ab S.A
  tr : Tr w o tb S.T
  wt : ∃ pv, WtAt w o ab tb wb S.W lb lvs pv
  cl : Cl o w

def sysS (r : Nat) : Prop := r ≠ 0
/-- The system is now S; nothing but its blocks has turned. -/
def SysPost (o : Own) (w : World) (ab tb wb lb : Nat) (lvs : List Value) (S : SS) (w' : World) : Prop := ∃ o', Sys w' o' ab tb wb lb lvs S ∧ Fr sysS o o' w w'

theorem Sys.keeps {T : Nat → Prop} {w w' : World} {o o' : Own} {ab tb wb lb : Nat} {lvs : List Value} {S : SS} (h : Sys w o ab tb wb lb lvs S) (hf : Fr T o o' w w') (hc : Cl o' w') (hs : ∀ r, r ≠ 0 → ¬ T r) : Sys w' o' ab tb wb lb lvs S := by
  obtain ⟨pv, hw⟩ := h.wt
  exact ⟨h.ar.keeps hf ⟨hs _ (by decide), hs _ (by decide), hs _ (by decide)⟩, h.tr.keeps hf ⟨hs _ (by decide), hs _ (by decide), hs _ (by decide), hs _ (by decide)⟩,
    ⟨pv, hw.keeps hf (fun r hr => hs r (by unfold wtS at hr; omega))⟩, hc⟩
theorem Sys.sm {w w' : World} {o : Own} {ab tb wb lb : Nat} {lvs : List Value} {S : SS} (h : Sys w o ab tb wb lb lvs S) (hs : Sm w w') : Sys w' o ab tb wb lb lvs S :=
  h.keeps (T := fun _ => False) (Fr.sm hs) (h.cl.sm hs) (fun _ _ => id)
theorem SysPost.trans {w w1 w2 : World} {o o1 : Own} {ab tb wb lb : Nat} {lvs : List Value} {S : SS} (hf : Fr sysS o o1 w w1) (h : SysPost o1 w1 ab tb wb lb lvs S w2) : SysPost o w ab tb wb lb lvs S w2 := by
  obtain ⟨o2, h2, hf2⟩ := h; exact ⟨o2, h2, hf.trans hf2⟩
theorem SysPost.after {w w1 w2 : World} {o : Own} {ab tb wb lb : Nat} {lvs : List Value} {S : SS} (hs : Sm w w1) (h : SysPost o w1 ab tb wb lb lvs S w2) : SysPost o w ab tb wb lb lvs S w2 := SysPost.trans (Fr.sm hs) h

/-- A turn of the trail alone. -/
theorem Sys.trail {w w' : World} {o : Own} {ab tb wb lb : Nat} {lvs : List Value} {S : SS} {T : TS} (h : Sys w o ab tb wb lb lvs S) (hp : TrPost o w tb T w') : SysPost o w ab tb wb lb lvs { S with T := T } w' := by
  obtain ⟨o', h1, h2, h3⟩ := hp
  obtain ⟨pv, hw⟩ := h.wt
  exact ⟨o', ⟨h.ar.keeps h3 ⟨by unfold trS; omega, by unfold trS; omega, by unfold trS; omega⟩, h1, ⟨pv, hw.keeps h3 (fun r hr => by unfold wtS at hr; unfold trS; omega)⟩, h2⟩, h3.mono fun r hr => by unfold trS at hr; unfold sysS; omega⟩

/-- A turn of the arena alone. -/
theorem Sys.arena {w w' : World} {o : Own} {ab tb wb lb : Nat} {lvs : List Value} {S : SS} {A : AS} (h : Sys w o ab tb wb lb lvs S) (hp : ArPost o w ab A w') : SysPost o w ab tb wb lb lvs { S with A := A } w' := by
  obtain ⟨o', h1, h2, h3⟩ := hp
  obtain ⟨pv, hw⟩ := h.wt
  exact ⟨o', ⟨h1, h.tr.keeps h3 ⟨by unfold arS; omega, by unfold arS; omega, by unfold arS; omega, by unfold arS; omega⟩, ⟨pv, hw.keeps h3 (fun r hr => by unfold wtS at hr; unfold arS; omega)⟩, h2⟩, h3.mono fun r hr => by unfold arS at hr; unfold sysS; omega⟩

/-- A turn of the propagator alone. -/
theorem Sys.watch {w w' : World} {o o' : Own} {ab tb wb lb : Nat} {lvs lvs' : List Value} {S : SS} {W : WS} {pv : Value} (h : Sys w o ab tb wb lb lvs S) (hw : WtAt w' o' ab tb wb W lb lvs' pv) (hc : Cl o' w') (hf : Fr wtS o o' w w') : SysPost o w ab tb wb lb lvs' { S with W := W } w' :=
  ⟨o', ⟨h.ar.keeps hf ⟨by unfold wtS; omega, by unfold wtS; omega, by unfold wtS; omega⟩, h.tr.keeps hf ⟨by unfold wtS; omega, by unfold wtS; omega, by unfold wtS; omega, by unfold wtS; omega⟩, ⟨pv, hw⟩, hc⟩, hf.mono fun r hr => by unfold wtS at hr; unfold sysS; omega⟩

theorem Sys.put {w w' : World} {o : Own} {ab tb wb lb : Nat} {lvs : List Value} {S : SS} {l r : Int} (h : Sys w o ab tb wb lb lvs S) (hf : S.T.free l = true) (hp : TrPost o w tb (S.T.put l r) w') : SysPost o w ab tb wb lb lvs (S.put l r) w' := by
  have : S.put l r = { S with T := S.T.put l r } := by unfold SS.put; rw [if_pos hf]
  rw [this]; exact h.trail hp

/-- A quiet call in the middle of a region that draws: the world is a world of draws already. -/
theorem quietA {P : Program} {f : FuncId} {args : Array Value} {w : World} {a x : Nat} {v : Value} (h : Calls P f args (w.drewN (a + x)) fun e w' => e = .returned v ∧ Sm (w.drewN (a + x)) w') :
    Calls P f args (w.drewN (a + x)) fun e w'' => e = .returned v ∧ ∃ n, w'' = w.drewN (a + n) :=
  h.mono fun _ _ ⟨he, m, hm⟩ => ⟨he, x + m, by rw [hm, World.drewN_drewN, Nat.add_assoc]⟩
theorem quietS {P : Program} {f : FuncId} {args : Array Value} {w : World} {x : Nat} {v : Value} (h : Calls P f args (w.drewN x) fun e w' => e = .returned v ∧ Sm (w.drewN x) w') :
    Calls P f args (w.drewN x) fun e w'' => e = .returned v ∧ ∃ n, w'' = w.drewN n :=
  h.mono fun _ _ ⟨he, m, hm⟩ => ⟨he, x + m, by rw [hm, World.drewN_drewN]⟩
theorem Calls.ofEq {P : Program} {f : FuncId} {args : Array Value} {w : World} {v : Value} (h : Calls P f args w fun e w' => e = .returned v ∧ w = w') : Calls P f args w fun e w' => e = .returned v ∧ Sm w w' :=
  h.mono fun _ _ ⟨he, hm⟩ => ⟨he, hm ▸ Sm.refl _⟩
end Go.Proofs.Ytpjiemffkkfbkaa
