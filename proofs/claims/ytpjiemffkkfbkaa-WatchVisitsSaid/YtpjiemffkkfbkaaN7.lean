/- The walk of Tautology. -/
import Derived.Test.YtpjiemffkkfbkaaN6
import Derived.IntWalk
import Derived.Test.YtpjiemffkkfbkaaPB
namespace Go.Proofs.Ytpjiemffkkfbkaa
open Go.RowKit

def SameBool (w : World) (b : Bool) (e : Ending) (w' : World) : Prop := e = .returned (.bool b) ∧ Same w w'

theorem wadd (i n : Nat) (h : i ≤ n) (hn : n ≤ 1000000000) : IntKind.i64.wrap ((i : Int) + 1) = ((i + 1 : Nat) : Int) := by
  rw [IntWalk.i64_in _ (by omega)]; omega
theorem wsub (i : Nat) (h : 1 ≤ i) (hn : i ≤ 1000000000) : IntKind.i64.wrap ((i : Int) - 1) = ((i - 1 : Nat) : Int) := by
  rw [IntWalk.i64_in _ (by omega)]; omega

structure TautRel (w1 : World) (d : List Int) (k : Nat) (i : Value) (wr : World) : Prop where
  sm : Sm w1 wr
  st : ∃ i' : Nat, i = .int .i64 i' ∧ 1 ≤ i' ∧ (k = d.length - i') ∧ nbrGo d k i' = nbrGo d (d.length - 1) 1

theorem taut_any (v : Value) (c : List Int) (w : World) (h : Rf w v c) (hb : ∀ l ∈ c, l ≠ 0 ∧ -100000 ≤ l ∧ l ≤ 100000) (h12 : c.length ≤ 12) : Calls Try.prog 77 #[v] w (SameBool w (taut c)) := by
  have h0 : ∀ x ∈ c, x ≠ 0 := fun x hx => (hb x hx).1
  have hnt := nbr_taut h0
  have hdl := normC_length c
  have hd0 : ∀ x ∈ normC c, -100000 ≤ x ∧ x ≤ 100000 := fun x hx => (hb x (((normC_spec h0).2 x).1 hx)).2
  go_enter Try.func77, Try.ntmps77
  go_wp2_with fail
  refine (clause_any v c _ h hb h12).mono ?_
  clear hb h0
  generalize normC c = d at *
  rintro e w1 ⟨v1, p, rfl, hrow, hcp, hnew, hsame⟩
  have HNT := Lib.hid hnt
  have HSAME := Lib.hid hsame
  have HD0 := Lib.hid hd0
  clear hnt hsame hcp hnew h hd0
  obtain ⟨a, cap, rfl⟩ := hrow.form
  have HROW := Lib.hid hrow
  clear hrow
  go_wp2
  go_loopg [4] (d.length - 1) (fun k i wr => TautRel w1 d k i wr)
  case atStart => exact ⟨Sm.refl _, 1, rfl, by omega, rfl, rfl⟩
  case round =>
    obtain ⟨hsm, i, rfl, hi1, hk, hgo⟩ := hrel
    have HSM := Lib.hid hsm
    have HGO := Lib.hid hgo
    have HK := Lib.hid hk
    clear hsm hgo hk
    by_cases hlt : i < d.length
    · have hk := HK.out
      obtain ⟨k', rfl⟩ : ∃ k', gk = k' + 1 := ⟨gk - 1, by omega⟩
      have hr := HROW.out.sm HSM.out
      obtain ⟨g, cap', e1, _, _, hc, _⟩ := hr.block (by omega)
      simp only [Value.slice.injEq] at e1
      obtain ⟨rfl, _, rfl⟩ := e1
      have c1 := hc i hlt
      have c2 := hc (i - 1) (by omega)
      have b2 := HD0.out (d.getD (i - 1) 0) (getD_mem (by omega))
      obtain ⟨b2a, b2b⟩ := b2
      have hgo := HGO.out
      rw [show nbrGo d (k' + 1) i = if nbr d i = true then true else nbrGo d k' (i + 1) from rfl] at hgo
      have hnb : nbr d i = (d.getD i 0 == -(d.getD (i - 1) 0)) := rfl
      have HNB := Lib.hid hnb
      have HGO2 := Lib.hid hgo
      clear hgo hc hr hk hnb
      generalize hx : d.getD i 0 = x at *
      generalize hy : d.getD (i - 1) 0 = y at *
      have HX := Lib.hid hx
      have HY := Lib.hid hy
      clear hx hy
      generalize hn : d.length = n at *
      have HN := Lib.hid hn
      clear hn
      have hlen : n ≤ 12 := by omega
      clear hdl
      have e1 : IntKind.i64.wrap ((i : Int) - 1) = (i : Int) - 1 := IntWalk.i64_in _ (by omega)
      have e2 : ((i : Int) - 1).toNat = i - 1 := by omega
      have e3 : (0 : Int) ≤ (i : Int) - 1 := by omega
      have e4 : (i : Int) - 1 < (n : Int) := by omega
      by_cases hxy : x = -y
      · subst hxy
        go_wp2
        go_quiet (fail)
        clear e1 e2 e3 e4
        go_wp2
        go_ret
        refine ⟨?_, HSAME.out.trans (Fr.sm (HSM.out.trans ⟨_, rfl⟩))⟩
        show Ending.returned (.bool true) = _
        have h1 := HGO2.out
        have h2 := HNT.out
        rw [HNB.out] at h1
        simp only [beq_self_eq_true, if_true] at h1
        rw [← h2, ← h1]
      · have hne : (x == -y) = false := by simpa using hxy
        go_wp2
        go_quiet (fail)
        clear e1 e2 e3 e4
        go_wp2
        go_roundg k'
        case measure => omega
        case rel =>
          have h1 := HGO2.out
          rw [HNB.out, hne] at h1
          have hk := HK.out
          exact ⟨HSM.out.trans ⟨_, rfl⟩, i + 1, by go_num, by omega, by rw [HN.out]; omega, by rw [HN.out]; simpa using h1⟩
    · have hk := HK.out
      have hg : gk = 0 := by omega
      subst hg
      have hgo := HGO.out
      rw [show nbrGo d 0 i = false from rfl] at hgo
      have hni : (d.length : Int) ≤ (i : Int) := by omega
      have HGO2 := Lib.hid hgo
      clear hgo hk
      go_wp2
      go_ret
      refine ⟨?_, HSAME.out.trans (Fr.sm HSM.out)⟩
      show Ending.returned (.bool false) = _
      rw [HGO2.out, HNT.out]
end Go.Proofs.Ytpjiemffkkfbkaa
