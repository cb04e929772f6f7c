/- The walk of the reference's Follow. -/
import Derived.Test.YtpjiemffkkfbkaaR0
import Derived.Test.YtpjiemffkkfbkaaPA
import Derived.Test.YtpjiemffkkfbkaaM5
import Derived.IntWalk
namespace Go.Proofs.Ytpjiemffkkfbkaa
open Go.RowKit

def FollowPost (w : World) (R : Option (List Int)) (e : Ending) (w' : World) : Prop :=
  match R with
  | none => e = .returned (.tuple #[.slice none 0 0, .bool false]) ∧ Same w w'
  | some k => ∃ v q, e = .returned (.tuple #[v, .bool true]) ∧ IntRow w' q 1 v k ∧ Cl q w' ∧ New q w.heap.size ∧ Same w w'

structure FollRel (w0 : World) (C : List (List Int)) (n : Nat) (R : Option (List Int)) (f : Nat) (kv : Value) (wr : World) : Prop where
  st : ∃ k q, IntRow wr q 1 kv k ∧ Cl q wr ∧ New q w0.heap.size ∧ (∀ x ∈ k, litIn x n = true) ∧ k.length + miss n k ≤ 2000000 ∧ miss n k < f ∧ followF f C k = R
  sm : Same w0 wr

structure ClashRel (w0 : World) (k : List Int) (d : Nat) (i : Value) (wr : World) : Prop where
  st : ∃ i' : Nat, i = .int .i64 i' ∧ i' + d = k.length ∧ (k.drop i').any (fun x => k.contains (-x)) = clashF k
  wr : wr = w0

structure PassRel (w0 : World) (C : List (List Int)) (n : Nat) (k0 : List Int) (d : Nat) (kv g i : Value) (wr : World) : Prop where
  st : ∃ (i' : Nat) (k : List Int) (g' : Bool) (q : Own), i = .int .i64 i' ∧ i' + d = C.length ∧ g = .bool g' ∧ IntRow wr q 1 kv k ∧ Cl q wr ∧ New q w0.heap.size ∧ (∀ x ∈ k, litIn x n = true) ∧ k.length + miss n k ≤ 2000000 ∧
    passF (C.drop i') k g' = passF C k0 false
  sm : Same w0 wr

structure ScanRel (w0 : World) (k c : List Int) (d : Nat) (left last i : Value) (wr : World) : Prop where
  st : ∃ (i' l' : Nat) (x' : Int), i = .int .i64 i' ∧ left = .int .i64 l' ∧ last = .int .i64 x' ∧ i' + d = c.length ∧ l' ≤ i' ∧ scanF k (c.drop i') l' x' = scanF k c 0 0
  wr : wr = w0

theorem drop_consL {C : List (List Int)} {i : Nat} (hlt : i < C.length) : C.drop i = C.getD i [] :: C.drop (i + 1) := by
  rw [List.drop_eq_getElem_cons hlt, List.getD_eq_getElem?_getD, List.getElem?_eq_getElem hlt]; rfl
theorem getDL_mem {C : List (List Int)} {i : Nat} (hlt : i < C.length) : C.getD i [] ∈ C := by
  rw [List.getD_eq_getElem?_getD, List.getElem?_eq_getElem hlt]; exact List.getElem_mem hlt
theorem getD_mem' {L : List Int} {i : Nat} (h : i < L.length) : L.getD i 0 ∈ L := by
  rw [List.getD_eq_getElem?_getD, List.getElem?_eq_getElem h]; exact List.getElem_mem h

theorem IntRow.rl' {w : World} {q : Own} {v : Value} {xs : List Int} (h : IntRow w q 1 v xs) : Rl w (fun _ => True) v xs :=
  (h.rl (by decide) (n := 0) (fun b hb => by omega)).mono fun _ _ _ => trivial

set_option maxHeartbeats 4000000 in
set_option maxRecDepth 100000 in
theorem follow_any {Z Y : Nat → Prop} (v u : Value) (C : List (List Int)) (k : List Int) (n : Nat) (w : World) (h : Rm w Z v C) (hk : Rl w Y u k) (hn : n ≤ 100000) (hC : ∀ c ∈ C, ∀ l ∈ c, litIn l n = true) (hnd : ∀ c ∈ C, c.Nodup) (hkl : ∀ l ∈ k, litIn l n = true)
    (hCl : C.length ≤ 1000000) (hcl : ∀ c ∈ C, c.length ≤ 1000000) (hkl2 : k.length ≤ 1000000) :
    Calls Try.prog 23 #[v, u] w (FollowPost w (follow n C k)) := by
  have H := Lib.hid h
  have HC := Lib.hid hC
  have HND := Lib.hid hnd
  have HCC := Lib.hid hcl
  have HKL := Lib.hid hkl
  have HU := Lib.hid hk
  obtain ⟨ca, ccap, rfl⟩ := h.form
  clear hC hkl hcl h hk hnd
  have HRES : Hid (followF (2 * n + 1) C k = follow n C k) := rfl
  have HM : Hid (miss n k ≤ 2 * n) := miss_le n k
  generalize follow n C k = R at *
  go_enter Try.func23, Try.ntmps23
  go_wp2_with
    (at_builtin
     refine append_rl (IntRow.nil _ (fun _ => 0) 1) (Cl.zero _) (by simp) (by omega) HU.out rfl (.const (.slice none 0 0)) (.tmp 14) rfl rfl rfl ?_
     intro kv w1 ha
     have HA := Lib.hid ha
     clear ha)
  go_loopg [6, 7, 8, 9, 10, 11, 12, 13] (2 * n + 1) (fun f kv _ _ _ _ _ _ _ wr => FollRel w C n R f kv wr)
  case atStart =>
    obtain ⟨q, hr, hc, hf⟩ := HA.out
    exact ⟨⟨k, q, by simpa using hr, hc, fun b hb => (hf.role b hb).trans rfl, HKL.out, by have := HM.out; omega, by have := HM.out; omega, HRES.out⟩, ⟨hf.os, hf.tape, hf.output, hf.size, fun _ _ => rfl, fun b hb _ => hf.block b hb (by decide)⟩⟩
  case round =>
    clear HA HU HKL HRES HM hkl2
    obtain ⟨⟨k, q, hrow, hcq, hnq, hlits, hbd, hms, hR⟩, hsame⟩ := hrel
    have HROW := Lib.hid hrow
    have HCQ := Lib.hid hcq
    have HNQ := Lib.hid hnq
    have HLITS := Lib.hid hlits
    have HSAME := Lib.hid hsame
    have HBD := Lib.hid hbd
    have HMS := Lib.hid hms
    have hkl : k.length ≤ 2000000 := by omega
    obtain ⟨f, rfl⟩ : ∃ f, gk = f + 1 := ⟨gk - 1, by omega⟩
    have hR2 : (if clashF k then none else match passF C k false with | none => none | some (k', g) => if g then followF f C k' else some k') = R := hR
    have HR2 := Lib.hid hR2
    obtain ⟨ka, kcap, rfl⟩ := hrow.form
    clear hrow hcq hnq hlits hbd hms hR hR2 hsame
    obtain ⟨wo, rfl⟩ : ∃ wo : World, wo = wr := ⟨_, rfl⟩
    go_wp2
    go_loopg [8] (k.length) (fun d i wr2 => ClashRel wo k d i wr2)
    case atStart => exact ⟨⟨0, rfl, by omega, rfl⟩, rfl⟩
    case round =>
      obtain ⟨⟨i, rfl, hik, hgo⟩, rfl⟩ := hrel
      have HIK := Lib.hid hik
      have HGO := Lib.hid hgo
      clear hik hgo
      by_cases hlt : i < k.length
      · obtain ⟨d', rfl⟩ : ∃ d', gk = d' + 1 := ⟨gk - 1, by have := HIK.out; omega⟩
        obtain ⟨g, cap', e1, _, _, hc, _⟩ := HROW.out.block (by omega)
        simp only [Value.slice.injEq] at e1
        obtain ⟨rfl, _, rfl⟩ := e1
        have hcell := hc i hlt
        have hg := HGO.out
        rw [drop_cons hlt, List.any_cons] at hg
        have hb := HLITS.out _ (getD_mem' hlt)
        have HG := Lib.hid hg
        clear hg hc
        generalize k.getD i 0 = y at *
        rw [litIn_iff] at hb
        obtain ⟨hb0, hb1, hb2⟩ := hb
        cases hy : k.contains (-y) with
        | true =>
          have hg := HG.out
          rw [hy, Bool.true_or] at hg
          have hr := HR2.out
          rw [← hg] at hr
          have hr2 : R = none := hr.symm
          have HRN := Lib.hid hr2
          have HY := Lib.hid hy
          clear hg hy hr hr2
          go_wp2_with fail
          refine (in_any _ k (-y) _ HROW.out.rl' (by omega)).mono ?_
          rintro e w1 ⟨rfl, rfl⟩
          rw [HY.out]
          go_wp2
          go_ret2
          rw [HRN.out]
          exact ⟨rfl, HSAME.out⟩
        | false =>
          have hg := HG.out
          rw [hy, Bool.false_or] at hg
          have HG2 := Lib.hid hg
          have HY := Lib.hid hy
          clear hg hy
          go_wp2_with fail
          refine (in_any _ k (-y) _ HROW.out.rl' (by omega)).mono ?_
          rintro e w1 ⟨rfl, rfl⟩
          rw [HY.out]
          go_wp2
          go_roundg d'
          case measure => omega
          case rel => exact ⟨⟨i + 1, by go_num, by have := HIK.out; omega, HG2.out⟩, rfl⟩
      · have hi : i = k.length := by have := HIK.out; omega
        subst hi
        have hni : (k.length : Int) ≤ (k.length : Int) := Int.le_refl _
        have hg := HGO.out
        rw [List.drop_length] at hg
        have hr := HR2.out
        have hcf : clashF k = false := hg.symm
        rw [hcf] at hr
        simp only [Bool.false_eq_true, if_false] at hr
        have HR3 := Lib.hid hr
        clear hg hr hcf HGO HIK HR2
        obtain ⟨wo, rfl⟩ : ∃ wo : World, wo = wr := ⟨_, rfl⟩
        go_wp2
        go_loopg [6, 7, 9, 10, 11, 12, 13] (C.length) (fun d kv g i _ _ _ _ wr2 => PassRel w C n k d kv g i wr2)
        case atStart => exact ⟨⟨0, k, false, q, rfl, by omega, rfl, HROW.out, HCQ.out, HNQ.out, HLITS.out, HBD.out, rfl⟩, HSAME.out⟩
        case round =>
          clear HROW HCQ HNQ HLITS HBD hni
          obtain ⟨⟨i, k2, g, q2, rfl, hik, rfl, hrow, hcq, hnq, hlits, hbd, hgo⟩, hsame2⟩ := hrel
          have HIK := Lib.hid hik
          have HROW := Lib.hid hrow
          have HCQ := Lib.hid hcq
          have HNQ := Lib.hid hnq
          have HLITS := Lib.hid hlits
          have HBD := Lib.hid hbd
          have HGO := Lib.hid hgo
          have HS2 := Lib.hid hsame2
          have hk2l : k2.length ≤ 2000000 := by omega
          obtain ⟨kb, kcap2, rfl⟩ := hrow.form
          clear hik hrow hcq hnq hlits hbd hgo hsame2
          by_cases hlt : i < C.length
          · obtain ⟨d', rfl⟩ : ∃ d', gk = d' + 1 := ⟨gk - 1, by have := HIK.out; omega⟩
            obtain ⟨b, off, cap', e1, _, _, hc⟩ := (H.out.same HS2.out).block (by omega)
            simp only [Value.slice.injEq] at e1
            obtain ⟨rfl, _, rfl⟩ := e1
            obtain ⟨hv, hcell, hrl⟩ := hc i hlt
            have hcm := getDL_mem hlt
            have hg := HGO.out
            rw [drop_consL hlt] at hg
            have hcl := HC.out _ hcm
            have hcc := HCC.out _ hcm
            generalize C.getD i [] = c at *
            have hg2 : (if (scanF k2 c 0 0).1 = 0 then none else if (scanF k2 c 0 0).1 = 1 ∧ k2.contains (scanF k2 c 0 0).2 = false then passF (C.drop (i + 1)) (k2 ++ [(scanF k2 c 0 0).2]) true else passF (C.drop (i + 1)) k2 g) = passF C k false := hg
            have HG := Lib.hid hg2
            have HCL := Lib.hid hcl
            have HRL := Lib.hid hrl
            clear hg hg2 hc hcm hcl hrl HGO
            obtain ⟨da, dcap, rfl⟩ := HRL.out.form
            obtain ⟨wo, rfl⟩ : ∃ wo : World, wo = wr := ⟨_, rfl⟩
            go_wp2
            go_loopg [10, 11, 12, 13] (c.length) (fun d l x i _ wr2 => ScanRel wo k2 c d l x i wr2)
            case atStart => exact ⟨⟨0, 0, 0, rfl, rfl, rfl, by omega, by omega, rfl⟩, rfl⟩
            case round =>
              obtain ⟨⟨j, l, x, rfl, rfl, rfl, hjk, hlj, hgo⟩, rfl⟩ := hrel
              have HJK := Lib.hid hjk
              have HGO := Lib.hid hgo
              clear hjk hgo
              by_cases hj : j < c.length
              · obtain ⟨d2, rfl⟩ : ∃ d2, gk = d2 + 1 := ⟨gk - 1, by have := HJK.out; omega⟩
                obtain ⟨b2, off2, cap2, e2, _, _, hc2⟩ := HRL.out.block (by omega)
                simp only [Value.slice.injEq] at e2
                obtain ⟨rfl, _, rfl⟩ := e2
                have hcell2 := hc2 j hj
                have hg := HGO.out
                rw [drop_cons hj] at hg
                have hb := HCL.out _ (getD_mem' hj)
                generalize c.getD j 0 = y at *
                have hg2 : (if freeF k2 y && (l == 0 || y != x) then scanF k2 (c.drop (j + 1)) (l + 1) y else scanF k2 (c.drop (j + 1)) l x) = scanF k2 c 0 0 := hg
                have HG2 := Lib.hid hg2
                rw [litIn_iff] at hb
                obtain ⟨hb0, hb1, hb2⟩ := hb
                clear hg hg2 hc2
                have hbound : (l : Int) + 1 ≤ 1000001 := by omega
                cases hy : k2.contains (-y) with
                | true =>
                  have hg := HG2.out
                  have hf : freeF k2 y = false := by unfold freeF; rw [hy]; rfl
                  rw [hf] at hg
                  simp only [Bool.false_and, Bool.false_eq_true, if_false] at hg
                  have HG3 := Lib.hid hg
                  have HY := Lib.hid hy
                  clear hg hy hf
                  go_wp2_with fail
                  refine (in_any _ k2 (-y) _ HROW.out.rl' (by omega)).mono ?_
                  rintro e w1 ⟨rfl, rfl⟩
                  rw [HY.out]
                  go_wp2
                  go_roundg d2
                  case measure => omega
                  case rel => exact ⟨⟨j + 1, l, x, by go_num, rfl, rfl, by have := HJK.out; omega, by omega, HG3.out⟩, rfl⟩
                | false =>
                  have hf : freeF k2 y = true := by unfold freeF; rw [hy]; rfl
                  have hg := HG2.out
                  rw [hf, Bool.true_and] at hg
                  have HG3 := Lib.hid hg
                  have HY := Lib.hid hy
                  clear hg hy hf
                  go_wp2_with fail
                  refine (in_any _ k2 (-y) _ HROW.out.rl' (by omega)).mono ?_
                  rintro e w1 ⟨rfl, rfl⟩
                  rw [HY.out]
                  by_cases hl0 : l = 0
                  · subst hl0
                    go_wp2
                    go_roundg d2
                    case measure => omega
                    case rel =>
                      have hg := HG3.out
                      simp only [beq_self_eq_true, Bool.true_or, if_true] at hg
                      exact ⟨⟨j + 1, 1, y, by go_num, by go_num, rfl, by have := HJK.out; omega, by omega, hg⟩, rfl⟩
                  · have hl1 : ((l : Int) == 0) = false := by simp; omega
                    by_cases hxy : y = x
                    · subst hxy
                      go_wp2
                      go_roundg d2
                      case measure => omega
                      case rel =>
                        have hg := HG3.out
                        have e : (l == 0 || y != y) = false := by simp [hl0]
                        rw [e] at hg
                        simp only [Bool.false_eq_true, if_false] at hg
                        exact ⟨⟨j + 1, l, y, by go_num, rfl, rfl, by have := HJK.out; omega, by omega, hg⟩, rfl⟩
                    · have hxy2 : (y != x) = true := by simpa using hxy
                      have hxy3 : (y == x) = false := by simpa using hxy
                      go_wp2
                      go_roundg d2
                      case measure => omega
                      case rel =>
                        have hg := HG3.out
                        rw [hxy2, Bool.or_true] at hg
                        simp only [if_true] at hg
                        exact ⟨⟨j + 1, l + 1, y, by go_num, by go_num, rfl, by have := HJK.out; omega, by omega, hg⟩, rfl⟩
              · have hj2 : j = c.length := by have := HJK.out; omega
                subst hj2
                have hni2 : (c.length : Int) ≤ (c.length : Int) := Int.le_refl _
                have hg := HGO.out
                rw [List.drop_length] at hg
                have hsc : scanF k2 c 0 0 = (l, x) := hg.symm
                have hg2 := HG.out
                rw [hsc] at hg2
                simp only at hg2
                have HG2 := Lib.hid hg2
                have hxok : l = 1 → x ∈ c := by
                  intro e
                  have h0 : ∀ (c : List Int) (l : Nat) (x : Int), scanF k2 c l x = (scanF k2 c l x) → (scanF k2 c l x).2 = x ∨ (scanF k2 c l x).2 ∈ c := by
                    intro c
                    induction c with
                    | nil => intro l x _; exact .inl rfl
                    | cons a c ih =>
                      intro l x _
                      unfold scanF
                      split
                      · rcases ih (l + 1) a rfl with h | h
                        · exact .inr (by rw [h]; simp)
                        · exact .inr (by simp [h])
                      · rcases ih l x rfl with h | h
                        · exact .inl h
                        · exact .inr (by simp [h])
                  have h1 : ∀ (c : List Int) (l : Nat) (x : Int), (scanF k2 c l x).1 = l → (scanF k2 c l x).2 = x := by
                    intro c
                    induction c with
                    | nil => intro l x _; rfl
                    | cons a c ih =>
                      intro l x
                      have hge : ∀ (c : List Int) (l : Nat) (x : Int), l ≤ (scanF k2 c l x).1 := by
                        intro c
                        induction c with
                        | nil => intro l x; exact Nat.le_refl _
                        | cons b c ih2 =>
                          intro l x
                          unfold scanF
                          split
                          · have := ih2 (l + 1) b; omega
                          · exact ih2 l x
                      unfold scanF
                      split
                      · intro h; have := hge c (l + 1) a; omega
                      · exact ih l x
                  have h2 : ∀ (c : List Int) (l : Nat) (x : Int), (scanF k2 c l x).1 ≠ l → (scanF k2 c l x).2 ∈ c := by
                    intro c
                    induction c with
                    | nil => intro l x h; exact absurd rfl h
                    | cons a c ih =>
                      intro l x
                      unfold scanF
                      split
                      · intro h
                        rcases h0 c (l + 1) a rfl with e | e
                        · rw [e]; simp
                        · simp [e]
                      · intro h; exact List.mem_cons_of_mem _ (ih l x h)
                  have := h2 c 0 0 (by rw [hsc]; omega)
                  rw [hsc] at this; exact this
                have HX := Lib.hid hxok
                clear hg hg2 hsc hxok HG HGO
                by_cases hl0 : l = 0
                · subst hl0
                  have hg := HG2.out
                  simp only [if_true] at hg
                  have hr := HR3.out
                  rw [← hg] at hr
                  have hr2 : R = none := hr.symm
                  have HRN := Lib.hid hr2
                  clear hg hr hr2
                  go_wp2
                  go_ret2
                  rw [HRN.out]
                  exact ⟨rfl, HS2.out⟩
                · have hl0' : ((l : Int) == 0) = false := by simp; omega
                  have hg := HG2.out
                  rw [if_neg hl0] at hg
                  have HG3 := Lib.hid hg
                  clear hg HG2
                  by_cases hl1 : l = 1
                  · subst hl1
                    have hxc := HCL.out _ (HX.out rfl)
                    cases hy : k2.contains x with
                    | true =>
                      have hg := HG3.out
                      rw [if_neg (by rw [hy]; simp)] at hg
                      have HG4 := Lib.hid hg
                      have HY := Lib.hid hy
                      clear hg hy
                      go_wp2_with fail
                      refine (in_any _ k2 x _ HROW.out.rl' (by omega)).mono ?_
                      rintro e w1 ⟨rfl, rfl⟩
                      rw [HY.out]
                      go_wp2
                      go_roundg d'
                      case measure => omega
                      case rel => exact ⟨⟨i + 1, k2, g, q2, by go_num, by have := HIK.out; omega, rfl, HROW.out, HCQ.out, HNQ.out, HLITS.out, HBD.out, HG4.out⟩, HS2.out⟩
                    | false =>
                      have hg := HG3.out
                      rw [if_pos ⟨rfl, hy⟩] at hg
                      have HG4 := Lib.hid hg
                      have HY := Lib.hid hy
                      have hms := miss_add hxc hy
                      have HMS2 := Lib.hid hms
                      have HXC := Lib.hid hxc
                      clear hg hy hms hxc
                      go_wp2_with fail
                      refine (in_any _ k2 x _ HROW.out.rl' (by omega)).mono ?_
                      rintro e w1 ⟨rfl, rfl⟩
                      rw [HY.out]
                      go_wp2_with
                        (at_builtin
                         refine append_int (xs := k2) (HROW.out.keeps (S := fun _ => False) (Fr.alloc0 _) id) (HCQ.out.alloc0 _) (by omega) rfl (.tmp 78) (.tmp 80) rfl rfl rfl (World.cell?_alloc_new ..) ?_
                         intro g2 cap2 w2 q3 hr2 hcl2 hfr2
                         have hf12 : Fr (fun r => r = 1) q2 q3 wr w2 := (Fr.alloc0 _).trans hfr2
                         have HR4 := Lib.hid hr2
                         have HCL4 := Lib.hid hcl2
                         have HF4 := Lib.hid hf12
                         clear hr2 hcl2 hf12 hfr2)
                      go_roundg d'
                      case measure => omega
                      case rel =>
                        refine ⟨⟨i + 1, k2 ++ [x], true, q3, by go_num, by have := HIK.out; omega, rfl, ?_, HCL4.out, HNQ.out.fr HF4.out HS2.out.size, ?_, ?_, HG4.out⟩, HS2.out.thenNew HF4.out HNQ.out (by decide)⟩
                        · have := HR4.out; simpa using this
                        · intro y hy
                          rcases List.mem_append.1 hy with hy | hy
                          · exact HLITS.out y hy
                          · simp at hy; subst hy; exact HXC.out
                        · have := HMS2.out; have := HBD.out; simp only [List.length_append, List.length_singleton]; omega
                  · have hl1' : ((l : Int) == 1) = false := by simp; omega
                    have hg := HG3.out
                    rw [if_neg (by intro h; exact hl1 h.1)] at hg
                    have HG4 := Lib.hid hg
                    clear hg
                    go_wp2
                    go_roundg d'
                    case measure => omega
                    case rel => exact ⟨⟨i + 1, k2, g, q2, by go_num, by have := HIK.out; omega, rfl, HROW.out, HCQ.out, HNQ.out, HLITS.out, HBD.out, HG4.out⟩, HS2.out⟩
          · have hi : i = C.length := by have := HIK.out; omega
            subst hi
            have hni : (C.length : Int) ≤ (C.length : Int) := Int.le_refl _
            have hg := HGO.out
            rw [List.drop_length] at hg
            have hp : passF C k false = some (k2, g) := hg.symm
            have hr := HR3.out
            rw [hp] at hr
            simp only at hr
            have HP := Lib.hid hp
            have HR4 := Lib.hid hr
            clear hg hp hr HGO
            cases g with
            | true =>
              go_wp2
              go_roundg f
              case measure => omega
              case rel =>
                have P := passF_some (D := C) (n := n) (k0 := k) C k false k2 true (fun c h => h) HND.out HC.out HP.out
                have h1 := P.grown rfl
                simp at h1
                have := HMS.out
                exact ⟨⟨k2, q2, HROW.out, HCQ.out, HNQ.out, HLITS.out, HBD.out, by omega, HR4.out⟩, HS2.out⟩
            | false =>
              have hr2 : R = some k2 := HR4.out.symm
              have HRN := Lib.hid hr2
              clear hr2
              go_wp2
              go_ret2
              rw [HRN.out]
              exact ⟨_, q2, rfl, HROW.out, HCQ.out, HNQ.out, HS2.out⟩
end Go.Proofs.Ytpjiemffkkfbkaa
