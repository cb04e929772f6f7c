/- The walks of cmp.Compare and lit.Compare. -/
import Derived.Test.YtpjiemffkkfbkaaT0
namespace Go.Proofs.Ytpjiemffkkfbkaa
open Go.RowKit

def cmpI (x y : Int) : Int := if x < y then -1 else if y < x then 1 else 0

theorem nan_any (x : Int) (w : World) : Calls Try.prog 105 #[.int .i64 x] w fun e w' => e = .returned (.bool false) ∧ w = w' := by
  go_enter Try.func105, Try.ntmps105
  go_wp2
  go_ret
  exact ⟨rfl, rfl⟩

theorem cmp_any (x y : Int) (w : World) : Calls Try.prog 94 #[.int .i64 x, .int .i64 y] w fun e w' => e = .returned (.int .i64 (cmpI x y)) ∧ w = w' := by
  by_cases h1 : x < y
  · have e : cmpI x y = -1 := by unfold cmpI; rw [if_pos h1]
    rw [e]
    go_enter Try.func94, Try.ntmps94
    go_wp2_with (go_at_call 105; refine (nan_any _ _).mono ?_; rintro e w' ⟨rfl, rfl⟩)
    go_ret
    exact ⟨rfl, rfl⟩
  · by_cases h2 : y < x
    · have e : cmpI x y = 1 := by unfold cmpI; rw [if_neg h1, if_pos h2]
      rw [e]
      have h3 : y ≤ x := by omega
      go_enter Try.func94, Try.ntmps94
      go_wp2_with (go_at_call 105; refine (nan_any _ _).mono ?_; rintro e w' ⟨rfl, rfl⟩)
      go_ret
      exact ⟨rfl, rfl⟩
    · have h3 : x = y := by omega
      subst h3
      have e : cmpI x x = 0 := by unfold cmpI; simp
      rw [e]
      go_enter Try.func94, Try.ntmps94
      go_wp2_with (go_at_call 105; refine (nan_any _ _).mono ?_; rintro e w' ⟨rfl, rfl⟩)
      go_ret
      exact ⟨rfl, rfl⟩

/-- Literals are compared by their places. -/
theorem litCompare_any (x y : Int) (w : World) (hx : x ≠ 0 ∧ -100000 ≤ x ∧ x ≤ 100000) (hy : y ≠ 0 ∧ -100000 ≤ y ∧ y ≤ 100000) :
    Calls Try.prog 89 #[.int .i64 x, .int .i64 y] w fun e w' => e = .returned (.int .i64 (cmpI (ix x) (ix y))) ∧ w = w' := by
  have HX := Lib.hid (index_any x w hx)
  have HY := Lib.hid (index_any y w hy)
  have HC := Lib.hid (cmp_any (ix x) (ix y) w)
  clear hx hy
  go_enter Try.func89, Try.ntmps89
  go_wp2_with (first
    | (go_at_call 80; first | ((with_reducible refine HX.out.mono ?_); rintro e w' ⟨rfl, rfl⟩) | ((with_reducible refine HY.out.mono ?_); rintro e w' ⟨rfl, rfl⟩))
    | (go_at_call 94; refine HC.out.mono ?_; rintro e w' ⟨rfl, rfl⟩))
  go_ret
  exact ⟨rfl, rfl⟩
end Go.Proofs.Ytpjiemffkkfbkaa
