/- The walks of package norm: Clause, Tautology. -/
import Derived.Test.YtpjiemffkkfbkaaN5
import Derived.Test.YtpjiemffkkfbkaaPB
import Derived.Deep.LoopGhost
import Derived.Deep.QuietTactic
import Derived.BigQuiet
namespace Go.Proofs.Ytpjiemffkkfbkaa
open Go.RowKit

theorem insSort_nil (w : World) : Calls Try.prog 95 #[.slice none 0 0, .int .i64 0, .int .i64 0, .func (.func 89) #[] #[]] w fun e w' => e = .returned (.tuple #[]) ∧ w = w' := by
  go_enter Try.func95, Try.ntmps95
  go_wp2
  go_loop [8] (fun i => i = .int .i64 1) (fun _ => 0)
  case atStart => rfl
  case round =>
    subst hrel
    go_wp2
    go_end0
    exact ⟨rfl, rfl⟩

theorem pdq_nil (l : Int) (w : World) : Calls Try.prog 92 #[.slice none 0 0, .int .i64 0, .int .i64 0, .int .i64 l, .func (.func 89) #[] #[]] w fun e w' => e = .returned (.tuple #[]) ∧ w = w' := by
  go_enter Try.func92, Try.ntmps92
  go_wp2
  refine wp_loop_rounds 1 ?_
  rw [rounds_succ]
  go_wp2_with (go_at_call 95; refine (insSort_nil _).mono ?_; rintro e w' ⟨rfl, rfl⟩)
  (try simp only [Exit.inBlock, Exit.then]); refine bodyPost_ret (results_none rfl _ _ _) rfl ?_
  exact ⟨rfl, rfl⟩

theorem sortFunc_nil (w : World) : Calls Try.prog 88 #[.slice none 0 0, .func (.func 89) #[] #[]] w fun e w' => e = .returned (.tuple #[]) ∧ Sm w w' := by
  go_enter Try.func88, Try.ntmps88
  go_wp2_with (first | (go_at_call 93; refine (bitsLen_small 0 (by omega) _).mono ?_; rintro e w' ⟨⟨l, rfl⟩, rfl⟩) | (go_at_call 92; refine (pdq_nil _ _).mono ?_; rintro e w' ⟨rfl, rfl⟩))
  go_end0
  exact ⟨rfl, Sm.refl _⟩

theorem sorted_prefix {L : List Int} (hs : L.Pairwise (fun a b => ix a ≤ ix b)) (h0 : ∀ x ∈ L, x ≠ 0) : ∀ m, m ≤ L.length →
    Rising (Lib.compactUpTo L.toArray m) ∧ (∀ x, x ∈ Lib.compactUpTo L.toArray m ↔ x ∈ L.take m) := by
  intro m
  induction m with
  | zero => intro _; simp [Lib.compactUpTo, Rising]
  | succ m ih =>
    intro hm
    obtain ⟨h1, h2⟩ := ih (by omega)
    have hml : m < L.length := by omega
    have eg : L.toArray[m]! = L[m] := by simp [getElem!_pos, hml]
    have ht : L.take (m + 1) = L.take m ++ [L[m]] := List.take_succ_eq_append_getElem hml
    have hle : ∀ x ∈ L.take m, ix x ≤ ix L[m] := by
      intro x hx
      obtain ⟨j, hj, rfl⟩ := List.mem_iff_getElem.1 hx
      rw [List.length_take] at hj
      rw [List.getElem_take]
      exact List.pairwise_iff_getElem.1 hs j m (by omega) hml (by omega)
    rw [Lib.compactUpTo_succ, ht]
    by_cases hk : Lib.keeps L.toArray m = true
    · rw [if_pos hk, eg]
      refine ⟨?_, fun x => by simp only [List.mem_append, h2]⟩
      unfold Rising
      rw [List.pairwise_append]
      refine ⟨h1, by simp, fun a ha b hb => ?_⟩
      simp only [List.mem_singleton] at hb
      subst hb
      rw [h2] at ha
      have h3 := hle a ha
      rcases Nat.lt_or_ge (ix a) (ix L[m]) with h4 | h4
      · exact h4
      · exfalso
        have hm0 : m ≠ 0 := by rintro rfl; simp at ha
        have e1 := ix_inj' (h0 a (List.mem_of_mem_take ha)) (h0 _ (List.getElem_mem hml)) (by omega)
        have hml1 : m - 1 < L.length := by omega
        have eg1 : L.toArray[m - 1]! = L[m - 1] := by simp [getElem!_pos, hml1]
        obtain ⟨j, hj, ej⟩ := List.mem_iff_getElem.1 ha
        rw [List.length_take] at hj
        rw [List.getElem_take] at ej
        have h5 : ix L[j] ≤ ix L[m - 1] := by
          rcases Nat.lt_or_ge j (m - 1) with h6 | h6
          · exact List.pairwise_iff_getElem.1 hs j (m - 1) (by omega) hml1 h6
          · have : j = m - 1 := by omega
            subst this; omega
        have h6 : ix L[m - 1] ≤ ix L[m] := List.pairwise_iff_getElem.1 hs (m - 1) m hml1 hml (by omega)
        have e2 : L[m - 1] = L[m] := by
          rw [ej] at h5
          exact ix_inj' (h0 _ (List.getElem_mem hml1)) (h0 _ (List.getElem_mem hml)) (by omega)
        simp only [Lib.keeps, eg, eg1, e2] at hk
        simp [hm0] at hk
    · rw [if_neg hk, List.append_nil]
      refine ⟨h1, fun x => ?_⟩
      rw [h2, List.mem_append, List.mem_singleton]
      refine ⟨.inl, fun h => h.elim id fun e => ?_⟩
      subst e
      simp only [Lib.keeps, Bool.not_eq_true, decide_eq_false_iff_not, not_or, ne_eq, Decidable.not_not] at hk
      obtain ⟨hm0, e⟩ := hk
      have hml1 : m - 1 < L.length := by omega
      have eg1 : L.toArray[m - 1]! = L[m - 1] := by simp [getElem!_pos, hml1]
      rw [eg, eg1] at e
      rw [e]
      exact List.mem_iff_getElem.2 ⟨m - 1, by rw [List.length_take]; omega, by rw [List.getElem_take]⟩

theorem compact_norm {c L : List Int} (h0 : ∀ x ∈ c, x ≠ 0) (hp : L.Perm c) (hs : L.Pairwise (fun a b => ix a ≤ ix b)) : Lib.compact L = normC c := by
  obtain ⟨h1, h2⟩ := sorted_prefix hs (fun x hx => h0 x (hp.mem_iff.1 hx)) L.length (Nat.le_refl _)
  exact normC_eq h0 h1 fun x => by
    unfold Lib.compact at *
    rw [h2, List.take_length]; exact hp.mem_iff

theorem compact_length_le {c L : List Int} (h0 : ∀ x ∈ c, x ≠ 0) (hp : L.Perm c) (hs : L.Pairwise (fun a b => ix a ≤ ix b)) : (Lib.compact L).length ≤ L.length := by
  rw [compact_norm h0 hp hs, hp.length_eq]; exact normC_length c

theorem clause_any (v : Value) (c : List Int) (w : World) (h : Rf w v c) (hb : ∀ l ∈ c, l ≠ 0 ∧ -100000 ≤ l ∧ l ≤ 100000) (h12 : c.length ≤ 12) : Calls Try.prog 78 #[v] w (NewInts w (normC c)) := by
  have HB := Lib.hid hb
  clear hb
  go_enter Try.func78, Try.ntmps78
  go_wp2_with fail
  refine (clone_any v c _ h (by omega)).mono ?_
  rintro e w1 ⟨v1, p, rfl, hrow, hcp, hnew, hsame⟩
  have HROW := Lib.hid hrow
  have HCP := Lib.hid hcp
  have HNEW := Lib.hid hnew
  have HSAME := Lib.hid hsame
  clear hcp hnew hsame h
  rcases hrow.1.2 with ⟨e1, hn⟩ | ⟨g, cap, cur, e1, _⟩
  · have e2 : v1 = .slice none 0 0 := by rw [e1]
    have hc : c = [] := List.eq_nil_of_length_eq_zero hn
    subst hc
    clear hrow
    subst e2
    go_wp2_with (first | (go_at_call 88; refine (sortFunc_nil _).mono ?_; rintro e w2 ⟨rfl, k, rfl⟩) | (go_at_call 90; refine (Calls.mono (P := Try.prog) (Any.slices_Compact_int_empty Try.laysCompact none 0 _) ?_); rintro e w3 ⟨rfl, rfl⟩))
    go_ret
    exact ⟨_, p, rfl, HROW.out.sm ⟨k, rfl⟩, HCP.out.sm ⟨k, rfl⟩, HNEW.out, HSAME.out.trans (Fr.sm ⟨k, rfl⟩)⟩
  · subst e1
    clear hrow
    go_wp2_with fail
    refine (sortFunc_any c _ HROW.out HB.out h12).mono ?_
    rintro e w2 ⟨rfl, L, hp, hs, hr2, hf2⟩
    have h0 : ∀ x ∈ c, x ≠ 0 := fun x hx => (HB.out x hx).1
    have hcn := compact_norm h0 hp hs
    have hle := compact_length_le h0 hp hs
    have hLl := hp.length_eq
    have HF2 := Lib.hid hf2
    have HCN := Lib.hid hcn
    have HR2 := Lib.hid hr2
    have HLE := Lib.hid hle
    have HLL := Lib.hid hLl
    clear hp hs hf2 hcn hr2 hle h0
    rw [← hLl]
    clear hLl
    go_wp2_with fail
    refine (compact_any L _ HR2.out (by rw [HLL.out]; omega) HLE.out).mono ?_
    rintro e w3 ⟨rfl, hr3, hf3⟩
    go_wp2
    go_ret
    have e4 := HCN.out
    rw [e4] at hr3 ⊢
    have hf : Fr (fun r => r = 1) p p w1 w3 := HF2.out.trans hf3
    exact ⟨_, p, rfl, hr3, HCP.out.size hf.size, HNEW.out, HSAME.out.thenNew hf HNEW.out (by decide)⟩
end Go.Proofs.Ytpjiemffkkfbkaa
