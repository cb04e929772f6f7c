/- slices.Clone by the kit's contract. -/
import Derived.Test.YtpjiemffkkfbkaaN4
import Derived.Test.YtpjiemffkkfbkaaA0
import Derived.Shelf.Slices.Clone
namespace Go.Proofs.Ytpjiemffkkfbkaa
open Go.RowKit Go.Shelf

def Try.renClone : Ren := ⟨fun n => if n = 15 then 87 else n, fun t => if t = 22 then 32 else t, fun x => x⟩

theorem Try.laysClone : Lays2.n15 Try.prog Try.renClone where
  mixed := by kernel_rfl
  f15 := by kernel_rfl
  t3 := by kernel_rfl
  a3 := fun _ => by kernel_rfl
  z3 := fun _ => by kernel_rfl
  v3 := fun _ => by kernel_rfl
  t4 := by kernel_rfl
  a4 := fun _ => by kernel_rfl
  z4 := fun _ => by kernel_rfl
  v4 := fun _ => by kernel_rfl
  t22 := by kernel_rfl
  a22 := fun _ => by kernel_rfl
  z22 := fun _ => by kernel_rfl
  v22 := fun _ => by kernel_rfl
  i3 := by kernel_rfl

/-- Numbers that are read, at a plain address. -/
def Rf (w : World) (v : Value) (xs : List Int) : Prop :=
  (v = .slice none 0 0 ∧ xs = []) ∨ ∃ b off cap, v = .slice (some ⟨b, off, none⟩) xs.length cap ∧ ∀ (j : Nat) x, xs[j]? = some x → w.cell? ⟨b, off + j, none⟩ = some (.int .i64 x)

/-- A row of the call's own, in blocks that are new. -/
theorem newInts_of {w w' : World} {v : Value} {xs : List Int} (h : w'.ownsRow w.heap.size 3 1 v xs.length (xs.map (Value.int .i64))) (hb : Below w.heap.size w w') : NewInts w xs (.returned v) w' := by
  have hsame : Same w w' := ⟨hb.os, hb.tape, hb.output, hb.size, fun _ _ => rfl, fun k hk _ => hb.block k hk⟩
  rcases h with ⟨h1, ⟨rfl, hn⟩ | ⟨g, cap, cur, rfl, hg, hh, h2⟩⟩
  · have : xs = [] := List.eq_nil_of_length_eq_zero hn
    subst this
    exact ⟨_, fun _ => 0, rfl, IntRow.nil _ _ _, Cl.zero _, fun _ _ => rfl, hsame⟩
  · refine ⟨_, fun k => if k = g then 1 else 0, rfl, ⟨⟨h1, .inr ⟨g, cap, cur, rfl, Nat.zero_le _, hh, h2⟩⟩, fun k hk => ?_⟩, fun k hk => ?_, fun k hk => ?_, hsame⟩
    · simp only [Value.ownBlock, Option.some.injEq] at hk
      simp [hk]
    · have := (Array.getElem?_eq_some_iff.1 hh).1
      show ite _ _ _ = 0
      rw [if_neg (by omega)]
    · show ite _ _ _ = 0
      rw [if_neg (by omega)]

theorem clone_any (v : Value) (xs : List Int) (w : World) (h : Rf w v xs) (hl : xs.length ≤ 1000000000) : Calls Try.prog 87 #[v] w (NewInts w xs) := by
  rcases h with ⟨rfl, rfl⟩ | ⟨b, off, cap, rfl, hc⟩
  · have hc := Any.slices_Clone_int_nil Try.laysClone 0 0 w
    refine Calls.mono (P := Try.prog) hc ?_
    rintro e w' ⟨rfl, rfl⟩
    exact ⟨_, fun _ => 0, rfl, IntRow.nil _ _ _, Cl.zero _, fun _ _ => rfl, Fr.refl _ _ _⟩
  · have hc := Any.slices_Clone_int Try.laysClone b off xs.length cap xs w (Nat.le_refl _) (by omega) (fun j hj => by
      have := hc j xs[j] (List.getElem?_eq_getElem hj)
      rw [this, List.getD_eq_getElem?_getD, List.getElem?_eq_getElem hj]; rfl)
    refine Calls.mono (P := Try.prog) hc ?_
    rintro e w' ⟨v', rfl, hr, _, hb⟩
    rw [List.take_length] at hr
    exact newInts_of hr hb
end Go.Proofs.Ytpjiemffkkfbkaa
