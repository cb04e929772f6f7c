/- The walks of the reference's In and Same. -/
import Derived.Test.YtpjiemffkkfbkaaM4
import Derived.Deep.LoopGhost
import Derived.Deep.CutBlock
import Derived.Deep.DeepCutAuto
namespace Go.Proofs.Ytpjiemffkkfbkaa
open Go.RowKit

structure InRel (w0 : World) (xs : List Int) (x : Int) (k : Nat) (i : Value) (wr : World) : Prop where
  st : ∃ i' : Nat, i = .int .i64 i' ∧ i' + k = xs.length ∧ (xs.drop i').contains x = xs.contains x
  wr : wr = w0

theorem in_any {Z : Nat → Prop} (v : Value) (xs : List Int) (x : Int) (w : World) (h : Rl w Z v xs) (hl : xs.length ≤ 1000000000) :
    Calls Try.prog 43 #[v, .int .i64 x] w fun e w' => e = .returned (.bool (xs.contains x)) ∧ w = w' := by
  obtain ⟨a, cap, rfl⟩ := h.form
  have H := Lib.hid h
  clear h
  go_enter Try.func43, Try.ntmps43
  go_wp2
  go_loopg [5] (xs.length) (fun k i wr => InRel w xs x k i wr)
  case atStart => exact ⟨⟨0, rfl, by omega, rfl⟩, rfl⟩
  case round =>
    obtain ⟨⟨i, rfl, hik, hgo⟩, rfl⟩ := hrel
    have HIK := Lib.hid hik
    have HGO := Lib.hid hgo
    clear hik hgo
    by_cases hlt : i < xs.length
    · obtain ⟨k', rfl⟩ : ∃ k', gk = k' + 1 := ⟨gk - 1, by have := HIK.out; omega⟩
      obtain ⟨b, off, cap', e1, _, _, hc⟩ := H.out.block (by omega)
      simp only [Value.slice.injEq] at e1
      obtain ⟨rfl, _, rfl⟩ := e1
      have hcell := hc i hlt
      have hd : xs.drop i = xs.getD i 0 :: xs.drop (i + 1) := by
        rw [List.drop_eq_getElem_cons hlt, List.getD_eq_getElem?_getD, List.getElem?_eq_getElem hlt]; rfl
      have hg := HGO.out
      rw [hd, List.contains_cons] at hg
      have HG := Lib.hid hg
      clear hd hg hc
      generalize xs.getD i 0 = y at *
      by_cases e : y = x
      · subst e
        have hg := HG.out
        simp only [beq_self_eq_true, Bool.true_or] at hg
        have HG2 := Lib.hid hg
        clear hg
        go_wp2
        go_ret
        exact ⟨ret_bool HG2.out, rfl⟩
      · have hne : (y == x) = false := by simpa using e
        go_wp2
        go_roundg k'
        case measure => omega
        case rel =>
          have hg := HG.out
          have hne2 : (x == y) = false := by simpa using fun h => e h.symm
          rw [hne2, Bool.false_or] at hg
          exact ⟨⟨i + 1, by go_num, by have := HIK.out; omega, hg⟩, rfl⟩
    · have hi : i = xs.length := by have := HIK.out; omega
      subst hi
      have hni : (xs.length : Int) ≤ (xs.length : Int) := Int.le_refl _
      have hg := HGO.out
      rw [List.drop_length] at hg
      have hg2 : false = xs.contains x := hg
      have HG := Lib.hid hg2
      clear hg hg2
      go_wp2
      go_ret
      exact ⟨ret_bool HG.out, rfl⟩

/-- Just the same literals? -/
def sameL (c d : List Int) : Bool := c.all (fun x => d.contains x) && d.all fun x => c.contains x
theorem sameL_iff (c d : List Int) : sameL c d = true ↔ ∀ x, x ∈ c ↔ x ∈ d := by
  simp only [sameL, Bool.and_eq_true, List.all_eq_true, List.contains_iff_mem]
  exact ⟨fun h x => ⟨h.1 x, h.2 x⟩, fun h => ⟨fun x => (h x).1, fun x => (h x).2⟩⟩

structure AllRel (w0 : World) (c d : List Int) (k : Nat) (i : Value) (wr : World) : Prop where
  st : ∃ i' : Nat, i = .int .i64 i' ∧ i' + k = c.length ∧ (c.drop i').all (fun x => d.contains x) = c.all fun x => d.contains x
  wr : wr = w0

theorem drop_cons {xs : List Int} {i : Nat} (hlt : i < xs.length) : xs.drop i = xs.getD i 0 :: xs.drop (i + 1) := by
  rw [List.drop_eq_getElem_cons hlt, List.getD_eq_getElem?_getD, List.getElem?_eq_getElem hlt]; rfl

theorem same_any {Z Y : Nat → Prop} (v u : Value) (c d : List Int) (w : World) (h : Rl w Z v c) (hd : Rl w Y u d) (hl : c.length ≤ 1000000000) (hl2 : d.length ≤ 1000000000) :
    Calls Try.prog 20 #[v, u] w fun e w' => e = .returned (.bool (sameL c d)) ∧ w = w' := by
  obtain ⟨a, cap, rfl⟩ := h.form
  obtain ⟨a2, cap2, rfl⟩ := hd.form
  have H := Lib.hid h
  have HD := Lib.hid hd
  clear h hd
  go_enter Try.func20, Try.ntmps20
  go_wp2
  go_loopg [5] (c.length) (fun k i wr => AllRel w c d k i wr)
  case atStart => exact ⟨⟨0, rfl, by omega, rfl⟩, rfl⟩
  case round =>
    obtain ⟨⟨i, rfl, hik, hgo⟩, rfl⟩ := hrel
    have HIK := Lib.hid hik
    have HGO := Lib.hid hgo
    clear hik hgo
    by_cases hlt : i < c.length
    · obtain ⟨k', rfl⟩ : ∃ k', gk = k' + 1 := ⟨gk - 1, by have := HIK.out; omega⟩
      obtain ⟨b, off, cap', e1, _, _, hc⟩ := H.out.block (by omega)
      simp only [Value.slice.injEq] at e1
      obtain ⟨rfl, _, rfl⟩ := e1
      have hcell := hc i hlt
      have hg := HGO.out
      rw [drop_cons hlt, List.all_cons] at hg
      have HG := Lib.hid hg
      clear hg hc
      generalize c.getD i 0 = y at *
      cases hy : d.contains y with
      | true =>
        have hg := HG.out
        rw [hy, Bool.true_and] at hg
        have HG2 := Lib.hid hg
        have HY := Lib.hid hy
        clear hg hy
        go_wp2_with fail
        refine (in_any _ d y _ HD.out hl2).mono ?_
        rintro e w1 ⟨rfl, rfl⟩
        rw [HY.out]
        go_wp2
        go_roundg k'
        case measure => omega
        case rel => exact ⟨⟨i + 1, by go_num, by have := HIK.out; omega, HG2.out⟩, rfl⟩
      | false =>
        have hg := HG.out
        rw [hy, Bool.false_and] at hg
        have HG2 := Lib.hid hg
        have HY := Lib.hid hy
        clear hg hy
        go_wp2_with fail
        refine (in_any _ d y _ HD.out hl2).mono ?_
        rintro e w1 ⟨rfl, rfl⟩
        rw [HY.out]
        go_wp2
        go_ret
        refine ⟨ret_bool ?_, rfl⟩
        unfold sameL; rw [← HG2.out, Bool.false_and]
    · have hi : i = c.length := by have := HIK.out; omega
      subst hi
      have hni : (c.length : Int) ≤ (c.length : Int) := Int.le_refl _
      have hg := HGO.out
      rw [List.drop_length] at hg
      have hg2 : true = c.all (fun x => d.contains x) := hg
      have HG := Lib.hid hg2
      clear hg hg2 HGO HIK
      obtain ⟨wo, rfl⟩ : ∃ wo : World, wo = wr := ⟨_, rfl⟩
      go_wp2
      go_loopg [6] (d.length) (fun k i wr2 => AllRel wo d c k i wr2)
      case atStart => exact ⟨⟨0, rfl, by omega, rfl⟩, rfl⟩
      case round =>
        obtain ⟨⟨i, rfl, hik, hgo⟩, rfl⟩ := hrel
        have HIK := Lib.hid hik
        have HGO := Lib.hid hgo
        clear hik hgo
        by_cases hlt : i < d.length
        · obtain ⟨k', rfl⟩ : ∃ k', gk = k' + 1 := ⟨gk - 1, by have := HIK.out; omega⟩
          obtain ⟨b, off, cap', e1, _, _, hc⟩ := HD.out.block (by omega)
          simp only [Value.slice.injEq] at e1
          obtain ⟨rfl, _, rfl⟩ := e1
          have hcell := hc i hlt
          have hg := HGO.out
          rw [drop_cons hlt, List.all_cons] at hg
          have HG3 := Lib.hid hg
          clear hg hc
          generalize d.getD i 0 = y at *
          cases hy : c.contains y with
          | true =>
            have hg := HG3.out
            rw [hy, Bool.true_and] at hg
            have HG2 := Lib.hid hg
            have HY := Lib.hid hy
            clear hg hy
            go_wp2_with fail
            refine (in_any _ c y _ H.out hl).mono ?_
            rintro e w1 ⟨rfl, rfl⟩
            rw [HY.out]
            go_wp2
            go_roundg k'
            case measure => omega
            case rel => exact ⟨⟨i + 1, by go_num, by have := HIK.out; omega, HG2.out⟩, rfl⟩
          | false =>
            have hg := HG3.out
            rw [hy, Bool.false_and] at hg
            have HG2 := Lib.hid hg
            have HY := Lib.hid hy
            clear hg hy
            go_wp2_with fail
            refine (in_any _ c y _ H.out hl).mono ?_
            rintro e w1 ⟨rfl, rfl⟩
            rw [HY.out]
            go_wp2
            go_ret
            refine ⟨ret_bool ?_, rfl⟩
            unfold sameL; rw [← HG2.out, Bool.and_false]
        · have hi : i = d.length := by have := HIK.out; omega
          subst hi
          have hni : (d.length : Int) ≤ (d.length : Int) := Int.le_refl _
          have hg := HGO.out
          rw [List.drop_length] at hg
          have hg2 : true = d.all (fun x => c.contains x) := hg
          have HG2 := Lib.hid hg2
          clear hg hg2
          go_wp2
          go_ret
          refine ⟨ret_bool ?_, rfl⟩
          unfold sameL; rw [← HG2.out, ← HG.out]; rfl
end Go.Proofs.Ytpjiemffkkfbkaa
