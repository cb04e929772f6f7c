/- What a formula is made of: inputs that are read; the walk of Light. -/
import Derived.Test.YtpjiemffkkfbkaaN8
namespace Go.Proofs.Ytpjiemffkkfbkaa
open Go.RowKit

/-- Numbers of 16 bits that came in. -/
def In16 (w : World) (v : Value) (c : List Int) : Prop :=
  c.length ≤ 140737488351232 ∧ ∃ a cap, v = .slice a c.length cap ∧ c.length ≤ cap ∧ (∀ x ∈ c, -32768 ≤ x ∧ x ≤ 32767) ∧ ∀ (j : Nat) x, c[j]? = some x → ∃ a', a = some a' ∧ w.cell? (a'.add j) = some (.int .i16 x)
/-- Lists of them. -/
def InRaw (w : World) (v : Value) (L : List (List Int)) : Prop :=
  L.length ≤ 140737488351232 ∧ ∃ a cap, v = .slice a L.length cap ∧ L.length ≤ cap ∧ ∀ (j : Nat) c, L[j]? = some c → ∃ a' hv, a = some a' ∧ w.cell? (a'.add j) = some hv ∧ In16 w hv c

theorem cell_same {w w' : World} (h : Same w w') {a : Addr} {x : Value} (hc : w.cell? a = some x) : w'.cell? a = some x := by
  rw [World.cell?_of_block (w := w)]
  · exact hc
  · exact h.block _ (World.block_lt_of_cell? w _ hc) id
theorem In16.same {w w' : World} {v : Value} {c : List Int} (h : In16 w v c) (hs : Same w w') : In16 w' v c := by
  obtain ⟨h0, a, cap, rfl, h1, h2, h3⟩ := h
  refine ⟨h0, a, cap, rfl, h1, h2, fun j x hj => ?_⟩
  obtain ⟨a', e, hc⟩ := h3 j x hj
  exact ⟨a', e, cell_same hs hc⟩
theorem InRaw.same {w w' : World} {v : Value} {L : List (List Int)} (h : InRaw w v L) (hs : Same w w') : InRaw w' v L := by
  obtain ⟨h0, a, cap, rfl, h1, h3⟩ := h
  refine ⟨h0, a, cap, rfl, h1, fun j x hj => ?_⟩
  obtain ⟨a', hv, e, hc, h⟩ := h3 j x hj
  exact ⟨a', hv, e, cell_same hs hc, h.same hs⟩

/-- Light: not too many clauses and literals. -/
def lightGo (lim : Nat) : Nat → List (List Int) → Bool
  | _, [] => true
  | m, c :: L => if lim < m + 1 + c.length then false else lightGo lim (m + 1 + c.length) L
def light (L : List (List Int)) (k : Nat) : Bool := lightGo (10 * k) 0 L && decide (L.length ≤ k)

structure LightRel (w0 : World) (L : List (List Int)) (lim : Nat) (k : Nat) (m i : Value) (wr : World) : Prop where
  st : ∃ i' m' : Nat, i = .int .i64 i' ∧ m = .int .i64 m' ∧ i' + k = L.length ∧ m' ≤ lim ∧ lightGo lim m' (L.drop i') = lightGo lim 0 L
  wr : wr = w0

set_option maxHeartbeats 1000000 in
theorem light_any (vn v : Value) (L : List (List Int)) (k : Nat) (w : World) (h : InRaw w v L) (hk : k ≤ 1000) :
    Calls Try.prog 16 #[.agg #[vn, v], .int .i64 k] w (SameBool w (light L k)) := by
  have H := Lib.hid h
  obtain ⟨h0, a, cap, rfl, h1, _⟩ := h
  go_enter Try.func16, Try.ntmps16
  go_wp2
  generalize hW : w.alloc (.cells #[vn, .slice a L.length cap] 24) = w1
  have hs1 : Same w w1 := by rw [← hW]; exact Fr.alloc0 _
  have c1 : w1.cell? ⟨w.heap.size, 1, none⟩ = some (.slice a L.length cap) := by rw [← hW]; simp
  have HS1 := Lib.hid hs1
  clear hs1 hW
  go_loopg [5, 7, 11] (L.length) (fun k' m _ i wr => LightRel w1 L (10 * k) k' m i wr)
  case atStart => exact ⟨⟨0, 0, rfl, rfl, by omega, by omega, rfl⟩, rfl⟩
  case round =>
    obtain ⟨⟨i, m, rfl, rfl, hik, hm, hgo⟩, rfl⟩ := hrel
    have HIK := Lib.hid hik
    have HGO := Lib.hid hgo
    clear hik hgo
    by_cases hlt : i < L.length
    · obtain ⟨k', rfl⟩ : ∃ k', gk = k' + 1 := ⟨gk - 1, by have := HIK.out; omega⟩
      obtain ⟨_, a2, cap2, e2, _, hc⟩ := H.out.same HS1.out
      simp only [Value.slice.injEq] at e2
      obtain ⟨rfl, _, rfl⟩ := e2
      obtain ⟨a', hv, rfl, hcell, hin⟩ := hc i _ (List.getElem?_eq_getElem hlt)
      have hdr : L.drop i = L[i] :: L.drop (i + 1) := List.drop_eq_getElem_cons hlt
      have HDR := Lib.hid hdr
      clear hdr hc
      generalize L[i] = c at *
      obtain ⟨hcl, ca, ccap, rfl, hcc, -, -⟩ := hin
      have hgo2 : (if 10 * k < m + 1 + c.length then false else lightGo (10 * k) (m + 1 + c.length) (L.drop (i + 1))) = lightGo (10 * k) 0 L := by rw [← HGO.out, HDR.out]; rfl
      have HG := Lib.hid hgo2
      clear hgo2
      by_cases hbig : 10 * k < m + 1 + c.length
      · have hb : (10 : Int) * (k : Int) < (m : Int) + (1 + (c.length : Int)) := by omega
        go_wp2
        go_ret
        refine ⟨?_, HS1.out⟩
        show Ending.returned (.bool false) = _
        have := HG.out
        rw [if_pos hbig] at this
        unfold light
        rw [← this]; rfl
      · have hb : ¬ (10 : Int) * (k : Int) < (m : Int) + (1 + (c.length : Int)) := by omega
        go_wp2
        go_roundg k'
        case measure => omega
        case rel =>
          have := HG.out
          rw [if_neg hbig] at this
          exact ⟨⟨i + 1, m + 1 + c.length, by go_num, by congr 1; omega, by have := HIK.out; omega, by omega, this⟩, rfl⟩
    · have hi : i = L.length := by have := HIK.out; omega
      subst hi
      have hni : (L.length : Int) ≤ (L.length : Int) := Int.le_refl _
      have hg := HGO.out
      rw [List.drop_length] at hg
      have hg2 : lightGo (10 * k) 0 L = true := hg.symm
      have HG := Lib.hid hg2
      clear hg hg2
      go_wp2
      go_ret
      refine ⟨?_, HS1.out⟩
      unfold light
      rw [HG.out, Bool.true_and]
      show Ending.returned (.bool _) = _
      refine ret_bool ?_
      first | rfl | (rw [Bool.eq_iff_iff]; simp)
theorem light_len {L : List (List Int)} {k : Nat} (h : light L k = true) : L.length ≤ k := by
  unfold light at h; simp at h; exact h.2
theorem lightGo_tot {lim : Nat} : ∀ (L : List (List Int)) (m : Nat), lightGo lim m L = true → ∀ c ∈ L, c.length ≤ lim := by
  intro L
  induction L with
  | nil => intro m _ c hc; simp at hc
  | cons d L ih =>
    intro m h c hc
    unfold lightGo at h
    split at h
    · cases h
    · rcases List.mem_cons.1 hc with rfl | hc
      · omega
      · exact ih _ h c hc
theorem light_mem {L : List (List Int)} {k : Nat} (h : light L k = true) : ∀ c ∈ L, c.length ≤ 10 * k := by
  unfold light at h; simp at h; exact lightGo_tot L 0 h.1
end Go.Proofs.Ytpjiemffkkfbkaa
