/- An arena in memory, and the walks of its readers. -/
import Derived.Test.YtpjiemffkkfbkaaT0
import Derived.Test.YtpjiemffkkfbkaaM1
import Derived.Test.YtpjiemffkkfbkaaM2
import Derived.Test.YtpjiemffkkfbkaaPA
namespace Go.Proofs.Ytpjiemffkkfbkaa
open Go.RowKit

structure ArAt (w : World) (o : Own) (ab : Nat) (A : AS) (wv : Value) (mb : Nat) : Prop where
  small : A.words.length ≤ 1000000000
  head : w.heap[ab]? = some (.cells #[wv, .int .i64 A.limit, .int .i64 A.count, .map (some mb)] 113 (0, 0))
  ha : o ab = 5
  ws : IntRow w o 6 wv A.words
  mp : IMap w mb ((liveRefs 0 A.cs).map fun r => (r, Value.bool true))
  hm : o mb = 7

def Ar (w : World) (o : Own) (ab : Nat) (A : AS) : Prop := ∃ wv mb, ArAt w o ab A wv mb

section
variable {w w' : World} {o o' : Own} {ab : Nat} {A : AS} {wv : Value} {mb : Nat}

theorem ArAt.keeps {S : Nat → Prop} (h : ArAt w o ab A wv mb) (hf : Fr S o o' w w') (hs : ¬ S 5 ∧ ¬ S 6 ∧ ¬ S 7) : ArAt w' o' ab A wv mb := by
  have h1 := hf.keeps h.head (by rw [h.ha]; exact hs.1)
  have h2 : o' mb = o mb := hf.role mb h.mp.lt
  exact ⟨h.small, h1.1, h1.2.trans h.ha, h.ws.keeps hf hs.2.1, h.mp.keeps hf (by rw [h.hm]; exact hs.2.2), h2.trans h.hm⟩
theorem Ar.keeps {S : Nat → Prop} (h : Ar w o ab A) (hf : Fr S o o' w w') (hs : ¬ S 5 ∧ ¬ S 6 ∧ ¬ S 7) : Ar w' o' ab A := by
  obtain ⟨wv, mb, h⟩ := h; exact ⟨wv, mb, h.keeps hf hs⟩
theorem ArAt.sm (h : ArAt w o ab A wv mb) (hs : Sm w w') : ArAt w' o ab A wv mb := h.keeps (S := fun _ => False) (Fr.sm hs) ⟨id, id, id⟩
theorem Ar.sm (h : Ar w o ab A) (hs : Sm w w') : Ar w' o ab A := h.keeps (S := fun _ => False) (Fr.sm hs) ⟨id, id, id⟩

theorem ArAt.c0 (h : ArAt w o ab A wv mb) : w.cell? ⟨ab, 0, none⟩ = some wv := cell_of_row w ab 0 _ 113 _ h.head
theorem ArAt.c1 (h : ArAt w o ab A wv mb) : w.cell? ⟨ab, 1, none⟩ = some (.int .i64 A.limit) := cell_of_row w ab 1 _ 113 _ h.head
theorem ArAt.c2 (h : ArAt w o ab A wv mb) : w.cell? ⟨ab, 2, none⟩ = some (.int .i64 A.count) := cell_of_row w ab 2 _ 113 _ h.head
theorem ArAt.c3 (h : ArAt w o ab A wv mb) : w.cell? ⟨ab, 3, none⟩ = some (.map (some mb)) := cell_of_row w ab 3 _ 113 _ h.head
theorem ArAt.f (h : ArAt w o ab A wv mb) (i : Nat) : w.frozen? ⟨ab, i, none⟩ = false := frozen_of_row w ab i _ 113 h.head

theorem zeroBool (w : World) : (zeroValue 4).run Try.prog w = .ok (.bool false) w := by kernel_rfl

theorem mget_set (L : List Int) (x : Value) (r : Int) : mget (L.map fun r => (r, x)) r = if r ∈ L then some x else none := by
  induction L with
  | nil => rfl
  | cons a L ih =>
    unfold mget at ih ⊢
    simp only [List.map_cons, mfind]
    by_cases e : r = a
    · rw [if_pos e, if_pos (by simp [e])]; rfl
    · rw [if_neg e]
      simp only [Option.map_map] at ih ⊢
      have : (r ∈ a :: L) ↔ r ∈ L := by simp [e]
      simp only [this]
      exact ih

theorem has_any (r : Int) (w : World) (h : ArAt w o ab A wv mb) :
    Calls Try.prog 57 #[.pointer (some ⟨ab, 0, none⟩), .int .i64 r] w fun e w' => e = .returned (.bool (A.has r)) ∧ w = w' := by
  have c3 := h.c3
  have hl := h.mp.lookup (P := Try.prog) (t := 100) Try.underlying100 Try.underlying3 zeroBool r
  have e : ((mget ((liveRefs 0 A.cs).map fun r => (r, Value.bool true)) r).getD (.bool false)) = .bool (A.has r) := by
    rw [mget_set]
    have := liveRefs_mem A.cs 0 r
    unfold AS.has AS.get
    by_cases hh : r ∈ liveRefs 0 A.cs
    · rw [if_pos hh, this.1 hh]; rfl
    · rw [if_neg hh]
      have : (liveAt 0 A.cs r).isSome = false := by
        cases hs : (liveAt 0 A.cs r).isSome with
        | false => rfl
        | true => exact absurd (this.2 hs) hh
      rw [this]; rfl
  rw [e] at hl
  clear h e
  generalize A.has r = b at *
  go_enter Try.func57, Try.ntmps57
  go_wp2
  go_ret
  exact ⟨rfl, rfl⟩

/-- A clause's words in memory. -/
theorem ArAt.clause (h : ArAt w o ab A wv mb) {r : Int} {c : Cz} (hc : A.get r = some c) :
    ∃ g cap, wv = .slice (some ⟨g, 0, none⟩) A.words.length cap ∧ o g = 6 ∧ A.words.length ≤ cap ∧ 0 ≤ r ∧ r + c.size ≤ A.words.length ∧
      w.cell? ⟨g, r.toNat, none⟩ = some (.int .i64 c.head) ∧ (∀ i, i < c.lits.length → w.cell? ⟨g, r.toNat + 3 + i, none⟩ = some (.int .i64 (c.lits.getD i 0))) ∧
      (∀ i, w.frozen? ⟨g, i, none⟩ = false) := by
  have h1 := liveAt_ge _ _ _ _ hc
  have h2 := liveAt_words _ _ _ _ hc
  have hsz : c.size = 3 + c.lits.length := rfl
  have hwl : A.words.length = (wordsOf A.cs).length := rfl
  obtain ⟨g, cap, hv, ho, hg, hcl, hf⟩ := h.ws.block (by omega)
  have e0 : (r - (0 : Nat)).toNat = r.toNat := by omega
  rw [e0] at h2
  subst hv
  refine ⟨g, cap, rfl, ho, ?_, by omega, by omega, ?_, ?_, hf⟩
  · obtain ⟨g', cap', e, hc, _⟩ := Row.block h.ws (by omega)
    simp only [Value.slice.injEq, Option.some.injEq, Addr.mk.injEq, and_true] at e
    omega
  · have h3 : A.words[r.toNat]? = some c.head := by exact h2 0 (by omega)
    exact (h.ws.at h3).1
  · intro i hi
    have h3 : A.words[r.toNat + 3 + i]? = some (c.lits.getD i 0) := by
      have := h2 (3 + i) (by omega)
      rw [← Nat.add_assoc] at this
      refine this.trans ?_
      have e : 3 + i = i + 1 + 1 + 1 := by omega
      rw [e]
      simp [Cz.words, List.getD, hi]
    exact (h.ws.at h3).1

theorem wraps_i64 (n : Int) (h₀ : 0 ≤ n) (h₁ : n < 2 ^ 62) : IntKind.i64.wrap n = n := by rw [IntKind.wrap_i64]; omega

theorem and_mask (c : Cz) (hd : c.dropped = false) (hl : c.lits.length ≤ 1000000000) : bits .and .i64 c.head 1099511627775 = c.lits.length := by
  have h0 : 0 ≤ c.head ∧ c.head < 2 ^ 62 := by
    unfold Cz.head; rw [hd]; simp; split <;> omega
  have := bits_mask .i64 62 (by decide) wraps_i64 40 (by decide) c.head h0.1 h0.2
  refine this.trans ?_
  unfold Cz.head; rw [hd]; simp; split <;> omega

theorem len_no (r : Int) (w : World) (h : ArAt w o ab A wv mb) (hc : A.get r = none) :
    Calls Try.prog 73 #[.pointer (some ⟨ab, 0, none⟩), .int .i64 r] w fun e w' => e = .returned (.int .i64 0) ∧ w = w' := by
  have hh : A.has r = false := by simp [AS.has, hc]
  have HH := Lib.hid hh
  clear hh
  go_enter Try.func73, Try.ntmps73
  go_wp2_with (go_at_call 57; refine (has_any _ _ h).mono ?_; rintro e w' ⟨rfl, rfl⟩; rw [HH.out])
  go_ret
  exact ⟨rfl, rfl⟩

theorem len_yes (r : Int) (w : World) (h : ArAt w o ab A wv mb) {c : Cz} (hc : A.get r = some c) (hd : c.dropped = false) :
    Calls Try.prog 73 #[.pointer (some ⟨ab, 0, none⟩), .int .i64 r] w fun e w' => e = .returned (.int .i64 c.lits.length) ∧ Sm w w' := by
  have hh : A.has r = true := by simp [AS.has, hc]
  have HH := Lib.hid hh
  clear hh
  have c0 := h.c0
  obtain ⟨g, cap, rfl, ho, hcap, hr0, hr1, k0, kl, kf⟩ := h.clause hc
  have hrs : r < A.words.length := by have : c.size = 3 + c.lits.length := rfl; omega
  have hr1' := hr1
  clear kl kf ho
  have hsm := h.small
  have hll : c.lits.length ≤ 1000000000 := by have : c.size = 3 + c.lits.length := rfl; omega
  have HLL := Lib.hid hll
  have H := Lib.hid h
  clear h hc hll
  generalize A.words.length = n at *
  go_enter Try.func73, Try.ntmps73
  go_wp2_with (go_at_call 57; refine (has_any _ _ H.out).mono ?_; rintro e w' ⟨rfl, rfl⟩; rw [HH.out])
  go_ret
  exact ⟨ret_int (and_mask c hd HLL.out), Sm.refl _⟩

theorem ArAt.cntle (h : ArAt w o ab A wv mb) : A.count ≤ 1000000000 := by
  have hg : ∀ (cs : List Cz) (s : Nat), (liveRefs s cs).length ≤ (wordsOf cs).length := by
    intro cs
    induction cs with
    | nil => intro s; simp [liveRefs]
    | cons d cs ih =>
      intro s
      have := ih (s + d.size)
      have hsz : 3 ≤ d.size := by unfold Cz.size; omega
      rw [wordsOf_cons, List.length_append, Cz.words_length]
      simp only [liveRefs]
      split
      · omega
      · simp only [List.length_cons]; omega
  exact Nat.le_trans (hg A.cs 0) h.small

theorem alen_any (r : Int) (w : World) (h : ArAt w o ab A wv mb) :
    Calls Try.prog 73 #[.pointer (some ⟨ab, 0, none⟩), .int .i64 r] w fun e w' => e = .returned (.int .i64 (A.len r)) ∧ Sm w w' := by
  cases hc : A.get r with
  | none =>
    have e : A.len r = 0 := by simp [AS.len, AS.lits, hc]
    rw [e]
    exact (len_no r w h hc).mono fun e w' ⟨h1, h2⟩ => ⟨h1, h2 ▸ Sm.refl _⟩
  | some c =>
    have e : A.len r = c.lits.length := by simp [AS.len, AS.lits, hc]
    rw [e]
    exact len_yes r w h hc (liveAt_dropped _ _ _ _ hc)

theorem ArAt.lenle (h : ArAt w o ab A wv mb) (r : Int) : A.len r ≤ 1000000000 := by
  unfold AS.len AS.lits
  cases hc : A.get r with
  | none => simp
  | some c =>
    have h1 := liveAt_ge _ _ _ _ hc
    have : c.size = 3 + c.lits.length := rfl
    have := h.small
    have hwl : A.words.length = (wordsOf A.cs).length := rfl
    simp; omega

theorem lit_any (r i : Int) (w : World) (h : ArAt w o ab A wv mb) :
    Calls Try.prog 75 #[.pointer (some ⟨ab, 0, none⟩), .int .i64 r, .int .i64 i] w fun e w' => e = .returned (.int .i64 (A.lit r i)) ∧ Sm w w' := by
  have hle := h.lenle r
  by_cases h0 : i < 0
  · have e : A.lit r i = 0 := by unfold AS.lit; rw [if_neg (by omega)]
    rw [e]
    go_enter Try.func75, Try.ntmps75
    go_wp2
    go_ret
    exact ⟨rfl, Sm.refl _⟩
  · by_cases h1 : (A.len r : Int) ≤ i
    · have e : A.lit r i = 0 := by unfold AS.lit; rw [if_neg (by omega)]
      rw [e]
      have H := Lib.hid h
      clear h e
      have hi0 : 0 ≤ i := by omega
      go_enter Try.func75, Try.ntmps75
      go_wp2_with (go_at_call 73; refine (alen_any _ _ H.out).mono ?_; rintro e w' ⟨rfl, k, rfl⟩)
      go_ret
      exact ⟨rfl, _, rfl⟩
    · have e : A.lit r i = (A.lits r).getD i.toNat 0 := by unfold AS.lit; rw [if_pos (by omega)]
      rw [e]
      cases hc : A.get r with
      | none => simp [AS.len, AS.lits, hc] at h1; omega
      | some c =>
        have hl : A.lits r = c.lits := by simp [AS.lits, hc]
        have hlen : A.len r = c.lits.length := by unfold AS.len; rw [hl]
        rw [hl]
        have c0 := h.c0
        obtain ⟨g, cap, rfl, ho, hcap, hr0, hr1, k0, kl, kf⟩ := h.clause hc
        have hx := kl i.toNat (by omega)
        have hsz : c.size = 3 + c.lits.length := rfl
        have hsm := h.small
        have hi0 : 0 ≤ i := by omega
        have hi1 : i < (A.len r : Int) := by omega
        have hrn : r + 3 + i < (A.words.length : Int) := by omega
        have ht : (r + 3 + i).toNat = r.toNat + 3 + i.toNat := by omega
        rw [← ht] at hx
        have H := Lib.hid h
        clear h e k0 kl kf ho hc hl hlen hr1 h0 h1 ht hsz
        generalize A.words.length = n at *
        generalize c.lits.getD i.toNat 0 = x at *
        go_enter Try.func75, Try.ntmps75
        go_wp2_with (go_at_call 73; refine (alen_any _ _ H.out).mono ?_; rintro e w' ⟨rfl, k, rfl⟩)
        go_ret
        exact ⟨rfl, _, rfl⟩

/-- A list of numbers in new memory; what was there is as it was. -/
def NewInts (w : World) (xs : List Int) (e : Ending) (w' : World) : Prop := ∃ v p, e = .returned v ∧ IntRow w' p 1 v xs ∧ Cl p w' ∧ New p w.heap.size ∧ Same w w'

theorem alits_any (r : Int) (w : World) (h : ArAt w o ab A wv mb) :
    Calls Try.prog 68 #[.pointer (some ⟨ab, 0, none⟩), .int .i64 r] w (NewInts w (A.lits r)) := by
  have hle := h.lenle r
  by_cases h0 : A.len r = 0
  · have e : A.lits r = [] := List.eq_nil_of_length_eq_zero h0
    rw [e]
    have H := Lib.hid h
    clear h e
    go_enter Try.func68, Try.ntmps68
    go_wp2_with (go_at_call 73; refine (alen_any _ _ H.out).mono ?_; rintro e w' ⟨rfl, k, rfl⟩)
    go_ret
    exact ⟨_, fun _ => 0, rfl, IntRow.nil _ _ _, Cl.zero _, fun _ _ => rfl, Fr.sm ⟨k, rfl⟩⟩
  · cases hc : A.get r with
    | none => simp [AS.len, AS.lits, hc] at h0
    | some c =>
      have hl : A.lits r = c.lits := by simp [AS.lits, hc]
      have hlen : A.len r = c.lits.length := by unfold AS.len; rw [hl]
      rw [hl]
      have c0 := h.c0
      obtain ⟨g, cap, rfl, ho, hcap, hr0, hr1, k0, kl, kf⟩ := h.clause hc
      have hsz : c.size = 3 + c.lits.length := rfl
      have hsm := h.small
      have hrn : r + 3 + (A.len r : Int) ≤ (A.words.length : Int) := by omega
      have hrc : r + 3 + (A.len r : Int) ≤ (cap : Int) := by omega
      have hlp : (0 : Int) < (A.len r : Int) := by omega
      have hll : c.lits.length ≤ 1000000000 := by omega
      have hcp : 0 < c.lits.length := by omega
      have hrt : (r + 3).toNat = r.toNat + 3 := by omega
      have hln : (r + 3 + (A.len r : Int)).toNat - (r + 3).toNat = c.lits.length := by omega
      have SRC : Hid (∀ k : Nat, ∀ (j : Nat) x, c.lits[j]? = some x → (w.drewN k).cell? ((⟨g, (r + 3).toNat, none⟩ : Addr).add j) = some (.int .i64 x)) := by
        intro k j x hx
        have hj := (List.getElem?_eq_some_iff.1 hx).1
        have := kl j hj
        rw [List.getD_eq_getElem?_getD, hx] at this
        have e : (⟨g, (r + 3).toNat, none⟩ : Addr).add j = ⟨g, r.toNat + 3 + j, none⟩ := by
          unfold Addr.add
          split
          · rename_i h0; subst h0; rw [hrt]
          · rw [hrt]
        rw [e]; exact this
      have HLN := Lib.hid hln
      have HLL := Lib.hid hll
      have HCP := Lib.hid hcp
      have H := Lib.hid h
      clear h k0 kl kf ho hc hl hlen hr1 hsz hll hcp hrt hln
      generalize A.words.length = n at *
      go_enter Try.func68, Try.ntmps68
      go_wp2_with (first
        | (go_at_call 73; refine (alen_any _ _ H.out).mono ?_; rintro e w' ⟨rfl, k, rfl⟩)
        | (at_builtin
           refine append_ints (O := fun _ => 0) (r := 1) (ys := c.lits) (xs := []) (IntRow.nil _ _ _) (Cl.zero _) (by decide) HLL.out HCP.out rfl (.const (.slice none 0 0)) (.tmp 25) rfl rfl (by rw [← HLN.out]; rfl) (SRC.out _) ?_
           intro g2 cap2 w2 p2 hr2 hcl2 hfr2
           have HR2 := Lib.hid hr2
           have HC2 := Lib.hid hcl2
           have HF2 := Lib.hid hfr2
           clear hr2 hcl2 hfr2))
      go_ret
      have hnew : New (fun _ => 0) w.heap.size := fun _ _ => rfl
      have hr3 : IntRow w2 p2 1 (.slice (some ⟨g2, 0, none⟩) c.lits.length cap2) c.lits := by simpa using HR2.out
      exact ⟨_, p2, rfl, hr3, HC2.out, hnew.fr HF2.out (Nat.le_refl _), Fr.thenNew (Fr.sm ⟨_, rfl⟩) HF2.out hnew (by decide)⟩

end
end Go.Proofs.Ytpjiemffkkfbkaa
