/- The walks of the arena's writers. -/
import Derived.Test.YtpjiemffkkfbkaaA0
import Derived.BigRegion
import Derived.Deep.RegionLaw
namespace Go.Proofs.Ytpjiemffkkfbkaa
open Go.RowKit

/-- The roles of an arena's blocks. -/
def arS (r : Nat) : Prop := 5 ≤ r ∧ r ≤ 7
def ArPost (o : Own) (w : World) (ab : Nat) (A : AS) (w' : World) : Prop := ∃ o', Ar w' o' ab A ∧ Cl o' w' ∧ Fr arS o o' w w'

section
variable {o : Own} {ab : Nat} {A : AS} {wv : Value} {mb : Nat}

theorem arFit (g : Int) (w : World) (h : -4611686018427387904 ≤ g ∧ g ≤ 4611686018427387904) : Calls Try.prog 79 #[.int .i64 g] w fun e w' => e = .returned (.int .i64 (AS.fit g)) ∧ w = w' := by
  obtain ⟨h0, h1⟩ := h
  go_enter Try.func79, Try.ntmps79
  go_wp2
  all_goals go_ret
  all_goals exact ⟨ret_int (by unfold AS.fit; omega), rfl⟩

theorem ArAt.swapped {w : World} (h : ArAt w o ab A wv mb) {r : Int} {c : Cz} (hc : A.get r = some c) {i k : Nat} (hi : i < c.lits.length) (hk : k < c.lits.length) {g cap : Nat}
    (hv : wv = .slice (some ⟨g, 0, none⟩) A.words.length cap) (hg : o g = 6) :
    ArAt ((w.setCell ⟨g, r.toNat + 3 + i, none⟩ (.int .i64 (c.lits.getD k 0))).setCell ⟨g, r.toNat + 3 + k, none⟩ (.int .i64 (c.lits.getD i 0))) o ab (A.swap r i k) wv mb := by
  subst hv
  have hfr : Fr (fun r => r = 6) o o w ((w.setCell ⟨g, r.toNat + 3 + i, none⟩ (.int .i64 (c.lits.getD k 0))).setCell ⟨g, r.toNat + 3 + k, none⟩ (.int .i64 (c.lits.getD i 0))) :=
    (Fr.setCell _ _ hg).trans (Fr.setCell _ _ hg)
  have hlen : (A.swap r i k).words.length = A.words.length := by rw [AS.words_swap hc hi hk]; simp
  have h1 := hfr.keeps h.head (by rw [h.ha]; decide)
  have hrefs : liveRefs 0 (A.swap r i k).cs = liveRefs 0 A.cs := liveRefs_upd _ (by intro c; simp [Cz.size, AS.swapL_length]) (by intro c; rfl) _ _ _
  refine ⟨by rw [hlen]; exact h.small, ?_, h.ha, ?_, ?_, h.hm⟩
  · rw [h1.1]; unfold AS.count; rw [hrefs]; rfl
  · have := (IntRow.set h.ws (r.toNat + 3 + i) (c.lits.getD k 0))
    have h2 : IntRow (w.setCell ⟨g, r.toNat + 3 + i, none⟩ (.int .i64 (c.lits.getD k 0))) o 6 (.slice (some ⟨g, 0, none⟩) (A.words.set (r.toNat + 3 + i) (c.lits.getD k 0)).length cap) (A.words.set (r.toNat + 3 + i) (c.lits.getD k 0)) := by
      rw [List.length_set]; exact this
    have h3 := IntRow.set h2 (r.toNat + 3 + k) (c.lits.getD i 0)
    rw [← AS.words_swap hc hi hk, List.length_set] at h3
    exact h3
  · rw [hrefs]; exact h.mp.keeps hfr (by rw [h.hm]; decide)

set_option maxHeartbeats 400000 in
theorem swap_yes (r : Int) (i k : Nat) (w : World) (h : ArAt w o ab A wv mb) (hcl : Cl o w) (hi : i < A.len r) (hk : k < A.len r) (hi0 : A.lit r i ≠ 0) (hk0 : A.lit r k ≠ 0) :
    Calls Try.prog 86 #[.pointer (some ⟨ab, 0, none⟩), .int .i64 r, .int .i64 i, .int .i64 k] w fun e w' => e = .returned (.bool true) ∧ ArPost o w ab (A.swap r i k) w' := by
  cases hc : A.get r with
  | none => simp [AS.len, AS.lits, hc] at hi
  | some c =>
    have hl : A.lits r = c.lits := by simp [AS.lits, hc]
    have hlen : A.len r = c.lits.length := by unfold AS.len; rw [hl]
    have c0 := h.c0
    obtain ⟨g, cap, hv, ho, hcap, hr0, hr1, k0, kl, kf⟩ := h.clause hc
    have hsm := h.small
    have hsz : c.size = 3 + c.lits.length := rfl
    have x1 := kl i (by omega)
    have x2 := kl k (by omega)
    have f1 := kf (r.toNat + 3 + i)
    have f2 := kf (r.toNat + 3 + k)
    have hrt : (r + 3).toNat = r.toNat + 3 := by omega
    have hrn : r + 3 + (i : Int) < (A.words.length : Int) := by omega
    have hrk : r + 3 + (k : Int) < (A.words.length : Int) := by omega
    have hrl : r + 3 ≤ (A.words.length : Int) := by omega
    have hrc : r + 3 < (cap : Int) := by omega
    have hrc2 : ¬ cap = (r + 3).toNat := by omega
    have hrc3 : ¬ (r + 3).toNat = cap := by omega
    have S := h.swapped hc (i := i) (k := k) (by omega) (by omega) hv ho
    have HS := Lib.hid S
    have H := Lib.hid h
    have CL := Lib.hid hcl
    have HV := Lib.hid hv
    have HO := Lib.hid ho
    rw [hv] at c0
    have hik : A.lit r i ≠ 0 ∧ A.lit r k ≠ 0 := ⟨hi0, hk0⟩
    clear h S k0 kl kf ho hc hl hlen hr1 hsz hi hk hcl hv hcap
    have e1 : (A.lit r i == 0) = false := by simpa using hi0
    have e2 : (A.lit r k == 0) = false := by simpa using hk0
    have ht1 : (r + 3).toNat + i = r.toNat + 3 + i := by omega
    have ht2 : (r + 3).toNat + k = r.toNat + 3 + k := by omega
    rw [← ht1] at x1 f1
    rw [← ht2] at x2 f2
    have HS2 : Hid (ArAt ((w.setCell ⟨g, (r + 3).toNat + i, none⟩ (.int .i64 (c.lits.getD k 0))).setCell ⟨g, (r + 3).toNat + k, none⟩ (.int .i64 (c.lits.getD i 0))) o ab (A.swap r i k) wv mb) := by
      show ArAt _ _ _ _ _ _; rw [ht1, ht2]; exact HS.out
    clear HS ht1 ht2 hrt hi0 hk0 hik
    have hxy : Hid (i = k → c.lits.getD i 0 = c.lits.getD k 0) := fun e => by rw [e]
    generalize A.words.length = n at *
    generalize c.lits.getD i 0 = x at *
    generalize c.lits.getD k 0 = y at *
    have fin : ∀ (w2 : World) (q : Nat), w2 = ((w.setCell ⟨g, (r + 3).toNat + i, none⟩ (.int .i64 y)).setCell ⟨g, (r + 3).toNat + k, none⟩ (.int .i64 x)).drewN q → ArPost o w ab (A.swap r i k) w2 := by
      intro w2 q hw
      subst hw
      refine ⟨o, ⟨_, _, HS2.out.sm ⟨q, rfl⟩⟩, ((CL.out.setCell _ _).setCell _ _).sm ⟨q, rfl⟩, ?_⟩
      exact ((Fr.setCell _ _ (by rw [HO.out]; unfold arS; omega)).trans (Fr.setCell _ _ (by rw [HO.out]; unfold arS; omega))).trans (Fr.sm ⟨q, rfl⟩)
    have FIN := Lib.hid fin
    clear fin
    by_cases hik : i = k
    · subst hik
      have hxy2 := hxy.out rfl
      subst hxy2
      clear x2 f2 e2 hxy
      go_enter Try.func86, Try.ntmps86
      go_wp2_with fail
      refine (lit_any _ _ _ H.out).mono ?_
      rintro e w' ⟨rfl, q, rfl⟩
      go_wp2_with fail
      refine (lit_any _ _ _ (H.out.sm ⟨q, rfl⟩)).mono ?_
      rintro e w' ⟨rfl, q2, rfl⟩
      go_wp2
      go_region
      go_wp2
      go_ret
      exact ⟨rfl, FIN.out _ _ rfl⟩
    · have hne : ¬ ((r + 3).toNat + i = (r + 3).toNat + k) := by omega
      go_enter Try.func86, Try.ntmps86
      go_wp2_with fail
      refine (lit_any _ _ _ H.out).mono ?_
      rintro e w' ⟨rfl, q, rfl⟩
      go_wp2_with fail
      refine (lit_any _ _ _ (H.out.sm ⟨q, rfl⟩)).mono ?_
      rintro e w' ⟨rfl, q2, rfl⟩
      go_wp2
      go_region
      go_wp2
      go_ret
      exact ⟨rfl, FIN.out _ _ rfl⟩

theorem arFit0 (w : World) : Calls Try.prog 79 #[.int .i64 0] w fun e w' => e = .returned (.int .i64 0) ∧ w = w' := arFit 0 w (by decide)

theorem ints_at {w : World} {x y z : Int} {t : TypeId} : ∀ (j : Nat) u, [x, y, z][j]? = some u → (w.alloc (.cells #[.int .i64 x, .int .i64 y, .int .i64 z] t)).cell? ((⟨w.heap.size, 0, none⟩ : Addr).add j) = some (.int .i64 u) := by
  intro j u hj
  refine words_of j _ ?_
  match j, hj with
  | 0, hj => simp at hj; subst hj; rfl
  | 1, hj => simp at hj; subst hj; rfl
  | 2, hj => simp at hj; subst hj; rfl

theorem mput_set (L : List Int) (x : Value) (r : Int) (h : r ∉ L) : mput (L.map fun r => (r, x)) r x = (L ++ [r]).map fun r => (r, x) := by
  have : mfind (L.map fun r => (r, x)) r = none := by rw [mfind_none]; simpa using h
  simp [mput, this]

/-- What Add leaves, shut. -/
theorem ArAt.added {w0 w w3 w5 : World} {o o3 : Own} {ab : Nat} {A : AS} {wv v3 : Value} {mb n m : Nat} {c : List Int} (h : ArAt w o ab A wv mb) (h0 : Fr (fun _ => False) o o w0 w) (_hlim : A.limit = 0) (hn : A.words.length = n) (hm : c.length = m)
    (hf3 : Fr (fun r => r = 6) o o3 w w3) (hr3 : IntRow w3 o3 6 v3 (A.words ++ [(m : Int), 0, 0] ++ c)) (hc3 : Cl o3 w3)
    (hm5 : IMap w5 mb (mput ((liveRefs 0 A.cs).map fun r => (r, Value.bool true)) n (.bool true)))
    (hf5 : Fr (fun r => r = 7) o3 o3 ((w3.setCell ⟨ab, 0, none⟩ v3).setCell ⟨ab, 2, none⟩ (.int .i64 (A.count + 1))) w5) (hsm : n + 3 + m ≤ 1000000000) :
    ArPost o w0 ab (A.add c false 0) w5 := by
  have d3 := hf3.keeps h.head (by rw [h.ha]; decide)
  have ha3 : o3 ab = 5 := d3.2.trans h.ha
  have fr4 : Fr (fun r => r = 5) o3 o3 w3 ((w3.setCell ⟨ab, 0, none⟩ v3).setCell ⟨ab, 2, none⟩ (.int .i64 (A.count + 1))) := (Fr.setCell _ _ ha3).trans (Fr.setCell _ _ ha3)
  have hw : (A.add c false 0).words = A.words ++ [(m : Int), 0, 0] ++ c := by
    rw [AS.words_add]; have e : AS.fit 0 = 0 := by decide
    simp [Cz.words, Cz.head, e, hm]
  have hrefs : liveRefs 0 (A.add c false 0).cs = liveRefs 0 A.cs ++ [(n : Int)] := by
    show liveRefs 0 (A.cs ++ [_]) = _
    rw [liveRefs_append _ _ _ rfl]
    have : (wordsOf A.cs).length = n := hn
    rw [this]; simp
  have hni : (n : Int) ∉ liveRefs 0 A.cs := by
    intro hi
    have := (liveRefs_nodup A.cs 0).2 _ hi
    have h2 : (wordsOf A.cs).length = n := hn
    omega
  have hm3 : o3 mb = 7 := (hf3.role mb h.mp.lt).trans h.hm
  have hlen : ((w3.setCell ⟨ab, 0, none⟩ v3).setCell ⟨ab, 2, none⟩ (.int .i64 (A.count + 1))).heap.size = w3.heap.size := by simp
  refine ⟨o3, ⟨v3, mb, ?_, ?_, ha3, ?_, ?_, hm3⟩, (hc3.size (by rw [hlen]; exact Nat.le_refl _)).size hf5.size, ?_⟩
  · rw [hw]; simp [hn, hm]; omega
  · have h1 := heap_setCell_same w3 ab 0 _ 113 v3 d3.1
    have h2 := heap_setCell_same _ ab 2 _ 113 (.int .i64 (A.count + 1)) h1
    rw [(hf5.keeps h2 (by rw [ha3]; decide)).1]
    have hcnt : (A.add c false 0).count = A.count + 1 := by unfold AS.count; rw [hrefs]; simp
    rw [hcnt]; simp [AS.add]
  · rw [hw]; exact (hr3.keeps fr4 (by decide)).keeps hf5 (by decide)
  · rw [hrefs, ← mput_set _ _ _ hni]; exact hm5
  · exact (((h0.mono fun _ h => h.elim).trans (hf3.mono fun _ h => by unfold arS; omega)).trans (fr4.mono fun _ h => by unfold arS; omega)).trans (hf5.mono fun _ h => by unfold arS; omega)

set_option maxHeartbeats 1000000 in
set_option maxRecDepth 100000 in
theorem add_yes (cv : Value) (c : List Int) (w : World) (h : ArAt w o ab A wv mb) (hcl : Cl o w) (hlim : A.limit = 0) (hc : Rd w o cv c) (hcne : 0 < c.length) (hsm : A.words.length + 3 + c.length ≤ 1000000000) :
    Calls Try.prog 56 #[.pointer (some ⟨ab, 0, none⟩), cv, .bool false, .int .i64 0] w fun e w' =>
      e = .returned (.tuple #[.int .i64 A.words.length, .bool true]) ∧ ArPost o w ab (A.add c false 0) w' := by
  obtain ⟨ad, ccap, rfl⟩ : ∃ ad cap, cv = .slice (some ad) c.length cap := by
    rcases hc with ⟨_, rfl⟩ | ⟨ad, cap, h, _⟩
    · simp at hcne
    · exact ⟨ad, cap, h⟩
  have c0 := h.c0
  have c1 := h.c1
  have c2 := h.c2
  have c3 := h.c3
  rw [hlim] at c1
  obtain ⟨wa, wcap, rfl⟩ := h.ws.form
  have hlw : A.words.length ≤ 1000000000 := by omega
  have hlc : c.length ≤ 1000000000 := by omega
  have hab : ab < w.heap.size := (Array.getElem?_eq_some_iff.1 h.head).1
  have hcnt : A.count ≤ 1000000000 := h.cntle
  have H := Lib.hid h
  have CL := Lib.hid hcl
  have HC := Lib.hid hc
  have HCNE := Lib.hid hcne
  have HSM := Lib.hid hsm
  clear h hcl hc hcne hsm
  generalize hN : A.words.length = n at *
  generalize hM : c.length = m at *
  have HN := Lib.hid hN
  have HM := Lib.hid hM
  clear hN hM
  go_enter Try.func56, Try.ntmps56
  go_wp2
  have H1 : Hid (ArAt w.drew o ab A (.slice wa n wcap) mb) := H.out.sm (Sm.drew w)
  have CL1 : Hid (Cl o w.drew) := CL.out.sm (Sm.drew w)
  have HC1 : Hid (Rd w.drew o (.slice (some ad) m ccap) c) := HC.out.keeps (S := fun _ => False) (Fr.sm (Sm.drew w)) id
  have c0d : ∀ X, (w.drew.alloc X).cell? ⟨ab, 0, none⟩ = some (.slice wa n wcap) := fun X => (World.cell?_alloc_past _ _ _ hab).trans c0
  go_region_law (first
    | (go_simp; go_at_call 79; refine (arFit0 _).mono ?_; rintro e w' ⟨rfl, rfl⟩)
    | (refine append_ints_step (ys := [(m : Int), 0, 0]) (H1.out.ws.keeps (S := fun _ => False) (Fr.alloc0 _) id) (CL1.out.alloc0 _) (by rw [HN.out]; exact hlw) (Nat.le_of_ble_eq_true rfl) (Nat.le_of_ble_eq_true rfl) rfl (.tmp 43) (.tmp 47) rfl rfl rfl ints_at ?_
       intro g2 cap2 w2 o2 hr2 hcl2 hfr2
       have fr12 : Fr (fun r => r = 6) o o2 w.drew w2 := (Fr.alloc0 _).trans hfr2
       have HR2 := Lib.hid hr2
       have CL2 := Lib.hid hcl2
       have F2 := Lib.hid fr12
       clear hr2 hcl2 fr12 hfr2)
    | (refine append_ints_step (ys := c) HR2.out CL2.out (by have := HSM.out; rw [List.length_append, HN.out]; simp; omega) (by rw [HM.out]; exact hlc) (by rw [HM.out]; exact HCNE.out) rfl (.tmp 48) (.tmp 49) rfl rfl (by rw [HM.out]; rfl) (HC1.out.keeps F2.out (by decide)).src ?_
       intro g3 cap3 w3 o3 hr3 hcl3 hfr3
       have fr13 : Fr (fun r => r = 6) o o3 w.drew w3 := F2.out.trans hfr3
       have d3 := fr13.keeps H1.out.head (by rw [H.out.ha]; decide)
       have k0 : w3.cell? ⟨ab, 0, none⟩ = some (.slice wa n wcap) := cell_of_row w3 ab 0 _ 113 _ d3.1
       have k2 : w3.cell? ⟨ab, 2, none⟩ = some (.int .i64 A.count) := cell_of_row w3 ab 2 _ 113 _ d3.1
       have k3 : w3.cell? ⟨ab, 3, none⟩ = some (.map (some mb)) := cell_of_row w3 ab 3 _ 113 _ d3.1
       have kf0 : w3.frozen? ⟨ab, 0, none⟩ = false := frozen_of_row w3 ab 0 _ 113 d3.1
       have kf2 : w3.frozen? ⟨ab, 2, none⟩ = false := frozen_of_row w3 ab 2 _ 113 d3.1
       have HR3 : Hid (IntRow w3 o3 6 (.slice (some ⟨g3, 0, none⟩) (A.words.length + 3 + c.length) cap3) (A.words ++ [(m : Int), 0, 0] ++ c)) := by have hh := hr3; rw [List.length_append] at hh; exact hh
       have CL3 := Lib.hid hcl3
       have F3 := Lib.hid fr13
       have D3 := Lib.hid d3
       clear hr3 hcl3 fr13 d3 hfr3))
  all_goals
    have ha3 : o3 ab = 5 := D3.out.2.trans H.out.ha
    have M4 : Hid (∀ v x, IMap ((w3.setCell ⟨ab, 0, none⟩ v).setCell ⟨ab, 2, none⟩ x) mb ((liveRefs 0 A.cs).map fun r => (r, Value.bool true))) := fun v x =>
      (H1.out.mp.keeps F3.out (by rw [H.out.hm]; decide)).keeps (o := o3) (o' := o3) (S := fun r => r = 5) ((Fr.setCell (S := fun r => r = 5) _ _ ha3).trans (Fr.setCell (S := fun r => r = 5) _ _ ha3)) (by rw [F3.out.role mb H1.out.mp.lt, H.out.hm]; decide)
    clear ha3
    have hm3 : Hid (o3 mb = 7) := (F3.out.role mb H1.out.mp.lt).trans H.out.hm
    go_wp2_with
      (at_mapUpdate
       refine imapUpdate_list (S := fun r => r = 7) (O := o3) rfl (M4.out _ _) Try.underlying100 Try.underlying3 (.tmp 63) (.tmp 64) (.const (.bool true)) rfl rfl rfl rfl hm3.out ?_
       intro w5 hm5 hf5
       have HM5 := Lib.hid hm5
       have HF5 := Lib.hid hf5
       clear hm5 hf5)
    go_ret2
    refine ⟨rfl, ?_⟩
    exact ArAt.added H1.out (Fr.sm (Sm.drew w)) hlim HN.out HM.out F3.out HR3.out CL3.out HM5.out HF5.out (by have := HSM.out; omega)
end

/-- What is made is told by an owner of its own. -/
def NewAr (w : World) (A : AS) (e : Ending) (w' : World) : Prop :=
  ∃ ab p, e = .returned (.pointer (some ⟨ab, 0, none⟩)) ∧ Ar w' p ab A ∧ Cl p w' ∧ New p w.heap.size ∧ Same w w'

theorem newArena (w : World) : Calls Try.prog 52 #[.int .i64 0] w (NewAr w (AS.new 0)) := by
  have hmm := @run_makeMap Try.prog
  go_enter Try.func52, Try.ntmps52
  go_wp2
  go_ret
  have hs1 : (w.alloc (.map #[] 0)).heap.size = w.heap.size + 1 := by simp
  have hm := IMap.new w
  refine ⟨w.heap.size + 1, fun k => if k = w.heap.size then 7 else if k = w.heap.size + 1 then 5 else 0, rfl, ⟨.slice none 0 0, w.heap.size, ?_⟩, ?_, ?_, ?_⟩
  · refine ⟨by simp [AS.new, AS.words, wordsOf], ?_, by simp, IntRow.nil .., ?_, by simp⟩
    · have h := heap_alloc_new (w.alloc (.map #[] 0)) (.cells #[.slice none 0 0, .int .i64 0, .int .i64 0, .map (some w.heap.size)] 113)
      rw [hs1] at h
      rw [h]; rfl
    · exact hm.keeps (S := fun _ => False) (o := fun _ => 0) (o' := fun _ => 0) (Fr.alloc0 _) id
  · intro k hk
    simp at hk
    show ite _ _ _ = 0
    rw [if_neg (by omega), if_neg (by omega)]
  · intro k hk
    show ite _ _ _ = 0
    rw [if_neg (by omega), if_neg (by omega)]
  · exact (Fr.alloc0 _).trans (Fr.alloc0 _)
end Go.Proofs.Ytpjiemffkkfbkaa
