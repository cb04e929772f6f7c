/- The walk of Holds: does an assignment satisfy a formula. -/
import Derived.Test.YtpjiemffkkfbkaaR1
import Derived.Test.YtpjiemffkkfbkaaT3
import Derived.Test.YtpjiemffkkfbkaaN7
namespace Go.Proofs.Ytpjiemffkkfbkaa
open Go.RowKit

def litHolds (A : List Bool) (l : Int) : Bool := if 0 < l then A.getD (l.toNat - 1) false else !A.getD ((-l).toNat - 1) false
def clHolds (A : List Bool) (c : List Int) : Bool := c.any (litHolds A)
def holdsF (A : List Bool) (F : List (List Int)) : Bool := F.all (clHolds A)

structure HoldsRel (w0 : World) (A : List Bool) (F : List (List Int)) (k : Nat) (i : Value) (wr : World) : Prop where
  st : ∃ i' : Nat, i = .int .i64 i' ∧ i' + k = F.length ∧ (F.drop i').all (clHolds A) = F.all (clHolds A)
  wr : wr = w0

structure SomeRel (w0 : World) (A : List Bool) (c : List Int) (k : Nat) (s i : Value) (wr : World) : Prop where
  st : ∃ (i' : Nat) (s' : Bool), i = .int .i64 i' ∧ s = .bool s' ∧ i' + k = c.length ∧ (s' || (c.drop i').any (litHolds A)) = clHolds A c
  wr : wr = w0

theorem BoolRow.at' {w : World} {p : Own} {r : Nat} {v : Value} {A : List Bool} (h : BoolRow w p r v A) {j : Nat} (hj : j < A.length) :
    ∃ g cap, v = .slice (some ⟨g, 0, none⟩) A.length cap ∧ w.cell? ⟨g, j, none⟩ = some (.bool (A.getD j false)) := by
  obtain ⟨g, cap, e, _, _, _, hc, _⟩ := Row.block h (by omega)
  refine ⟨g, cap, e, ?_⟩
  have := hc j (by omega)
  simpa [List.getD_eq_getElem?_getD, List.getElem?_eq_getElem hj] using this

set_option maxHeartbeats 4000000 in
set_option maxRecDepth 100000 in
theorem holds_any {Z : Nat → Prop} {p : Own} (n : Nat) (v u : Value) (F : List (List Int)) (A : List Bool) (w : World) (h : Rm w Z v F) (hA : BoolRow w p 1 u A) (hAl : A.length = n) (hn : n ≤ 100000)
    (hF : ∀ c ∈ F, ∀ l ∈ c, litIn l n = true) (hFl : F.length ≤ 1000000) (hcl : ∀ c ∈ F, c.length ≤ 1000000) :
    Calls Try.prog 31 #[.agg #[.int .i64 n, v], u] w (SameBool w (holdsF A F)) := by
  obtain ⟨fa, fcap, rfl⟩ := h.form
  obtain ⟨aa, acap, rfl⟩ := hA.form
  have H := Lib.hid h
  have HA := Lib.hid hA
  have HF := Lib.hid hF
  have HCL := Lib.hid hcl
  subst hAl
  clear h hA hF hcl
  go_enter Try.func31, Try.ntmps31
  go_upto_region 1 with fail
  generalize hW : w.alloc (.cells #[.int .i64 A.length, .slice fa F.length fcap] 30) = w0
  have hs0 : Same w w0 := by rw [← hW]; exact Fr.alloc0 _
  have c1 : w0.cell? ⟨w.heap.size, 1, none⟩ = some (.slice fa F.length fcap) := by rw [← hW]; simp
  have hm : Rm w0 Z (.slice fa F.length fcap) F := H.out.same hs0
  have hb : BoolRow w0 p 1 (.slice aa A.length acap) A := Row.keeps (S := fun _ => False) HA.out (hs0.any _ p) id
  have HM := Lib.hid hm
  have HB := Lib.hid hb
  have HS0 := Lib.hid hs0
  clear hW hm hb hs0 H HA
  go_wp2
  go_loopg [6, 7, 9, 13, 19] (F.length) (fun k _ _ _ i _ wr => HoldsRel w0 A F k i wr)
  case atStart => exact ⟨⟨0, rfl, by omega, rfl⟩, rfl⟩
  case round =>
    obtain ⟨⟨i, rfl, hik, hgo⟩, rfl⟩ := hrel
    have HIK := Lib.hid hik
    have HGO := Lib.hid hgo
    clear hik hgo
    by_cases hlt : i < F.length
    · obtain ⟨k', rfl⟩ : ∃ k', gk = k' + 1 := ⟨gk - 1, by have := HIK.out; omega⟩
      obtain ⟨b, off, cap', e1, _, _, hc⟩ := HM.out.block (by omega)
      simp only [Value.slice.injEq] at e1
      obtain ⟨rfl, _, rfl⟩ := e1
      obtain ⟨hv, hcell, hrl⟩ := hc i hlt
      have hg := HGO.out
      rw [drop_consL hlt, List.all_cons] at hg
      have hlit := HF.out _ (getDL_mem hlt)
      have hclen := HCL.out _ (getDL_mem hlt)
      have HG := Lib.hid hg
      have HLIT := Lib.hid hlit
      have HRL := Lib.hid hrl
      obtain ⟨ca, ccap, rfl⟩ := hrl.form
      clear hg hc hlit hrl
      generalize F.getD i [] = c at *
      obtain ⟨wo, rfl⟩ : ∃ wo : World, wo = wr := ⟨_, rfl⟩
      go_wp2
      go_loopg [7, 9, 19] (c.length) (fun k s _ j wr2 => SomeRel wo A c k s j wr2)
      case atStart => exact ⟨⟨0, false, rfl, rfl, by omega, by simp [clHolds]⟩, rfl⟩
      case round =>
        obtain ⟨⟨j, s, rfl, rfl, hjk, hso⟩, rfl⟩ := hrel
        have HJK := Lib.hid hjk
        have HSO := Lib.hid hso
        clear hjk hso
        by_cases hlt2 : j < c.length
        · obtain ⟨k2, rfl⟩ : ∃ k2, gk = k2 + 1 := ⟨gk - 1, by have := HJK.out; omega⟩
          obtain ⟨b2, off2, cap2, e2, _, _, hc2⟩ := HRL.out.block (by omega)
          simp only [Value.slice.injEq] at e2
          obtain ⟨rfl, _, rfl⟩ := e2
          have hcell2 := hc2 j hlt2
          have hso := HSO.out
          rw [drop_cons hlt2, List.any_cons] at hso
          have hl := HLIT.out _ (getD_mem' hlt2)
          have HSO2 := Lib.hid hso
          clear hc2 hso
          generalize c.getD j 0 = l at *
          rw [litIn_iff] at hl
          obtain ⟨hl0, hl1, hl2⟩ := hl
          cases s with
          | true =>
            have hso : (true || (c.drop (j + 1)).any (litHolds A)) = clHolds A c := by simpa using HSO2.out
            have HSO3 := Lib.hid hso
            clear hso
            go_wp2
            go_roundg k2
            case measure => omega
            case rel => exact ⟨⟨j + 1, true, by go_num, rfl, by have := HJK.out; omega, HSO3.out⟩, rfl⟩
          | false =>
            have hso : (litHolds A l || (c.drop (j + 1)).any (litHolds A)) = clHolds A c := by simpa using HSO2.out
            have HSO3 := Lib.hid hso
            clear hso
            by_cases hp : 0 < l
            · obtain ⟨g, cap3, e3, hcell3⟩ := HB.out.at' (j := (l.toNat - 1)) (by omega)
              simp only [Value.slice.injEq] at e3
              obtain ⟨rfl, _, rfl⟩ := e3
              have hlh : litHolds A l = A.getD (l.toNat - 1) false := by unfold litHolds; rw [if_pos hp]
              have hso := HSO3.out
              rw [hlh] at hso
              have HSO4 := Lib.hid hso
              have hl1' : l - 1 < A.length := by omega
              have hln : ¬ l < 0 := by omega
              clear hlh hso
              generalize A.getD (l.toNat - 1) false = x at *
              cases x with
              | true =>
                go_wp2
                go_roundg k2
                case measure => omega
                case rel => exact ⟨⟨j + 1, true, by go_num, rfl, by have := HJK.out; omega, HSO4.out⟩, rfl⟩
              | false =>
                go_wp2
                go_roundg k2
                case measure => omega
                case rel => exact ⟨⟨j + 1, false, by go_num, rfl, by have := HJK.out; omega, HSO4.out⟩, rfl⟩
            · obtain ⟨g, cap3, e3, hcell3⟩ := HB.out.at' (j := ((-l).toNat - 1)) (by omega)
              simp only [Value.slice.injEq] at e3
              obtain ⟨rfl, _, rfl⟩ := e3
              have hlh : litHolds A l = !A.getD ((-l).toNat - 1) false := by unfold litHolds; rw [if_neg hp]
              have hso := HSO3.out
              rw [hlh] at hso
              have HSO4 := Lib.hid hso
              have hl1' : -l - 1 < A.length := by omega
              have hln : l < 0 := by omega
              clear hlh hso
              generalize A.getD ((-l).toNat - 1) false = x at *
              cases x with
              | true =>
                go_wp2
                go_roundg k2
                case measure => omega
                case rel => exact ⟨⟨j + 1, false, by go_num, rfl, by have := HJK.out; omega, HSO4.out⟩, rfl⟩
              | false =>
                go_wp2
                go_roundg k2
                case measure => omega
                case rel => exact ⟨⟨j + 1, true, by go_num, rfl, by have := HJK.out; omega, HSO4.out⟩, rfl⟩
        · have hj : j = c.length := by have := HJK.out; omega
          subst hj
          have hnj : (c.length : Int) ≤ (c.length : Int) := Int.le_refl _
          have hso := HSO.out
          rw [List.drop_length] at hso
          have hso2 : s = clHolds A c := by simpa using hso
          have HSO2 := Lib.hid hso2
          clear hso hso2
          cases s with
          | true =>
            have hg := HG.out
            rw [← HSO2.out, Bool.true_and] at hg
            have HG2 := Lib.hid hg
            clear hg
            go_wp2
            go_roundg k'
            case measure => omega
            case rel => exact ⟨⟨i + 1, by go_num, by have := HIK.out; omega, HG2.out⟩, rfl⟩
          | false =>
            have hg := HG.out
            rw [← HSO2.out, Bool.false_and] at hg
            have HG2 := Lib.hid hg
            clear hg
            go_wp2
            go_ret
            exact ⟨ret_bool HG2.out, HS0.out⟩
    · have hi : i = F.length := by have := HIK.out; omega
      subst hi
      have hni : (F.length : Int) ≤ (F.length : Int) := Int.le_refl _
      have hg := HGO.out
      rw [List.drop_length] at hg
      have hg2 : true = F.all (clHolds A) := hg
      have HG := Lib.hid hg2
      clear hg hg2
      go_wp2
      go_ret
      exact ⟨ret_bool HG.out, HS0.out⟩
end Go.Proofs.Ytpjiemffkkfbkaa
