/- The walks of the propagator's small functions: rank, bring, add, unit, look. -/
import Derived.Test.YtpjiemffkkfbkaaW0
import Derived.Deep.LoopGhost
import Derived.Deep.RegionWith
namespace Go.Proofs.Ytpjiemffkkfbkaa
open Go.RowKit

section
variable {o : Own} {ab tb wb lb : Nat} {lvs : List Value} {S : SS}

theorem rank_any (l : Int) (w : World) (h : Sys w o ab tb wb lb lvs S) :
    Calls Try.prog 85 #[.pointer (some ⟨wb, 0, none⟩), .int .i64 l] w fun e w' => e = .returned (.int .i64 (SS.rank S.T l)) ∧ Sm w w' := by
  obtain ⟨pv, hw⟩ := h.wt
  obtain ⟨vb, lv, sv, ht⟩ := h.tr
  have c1 := hw.c1
  have hsl := ht.sle
  have HT := Lib.hid ht
  clear hw ht h
  by_cases hv : S.T.value l < 0
  · have e : SS.rank S.T l = S.T.levelOf l := by unfold SS.rank; rw [if_pos hv]
    rw [e]
    clear e
    go_enter Try.func85, Try.ntmps85
    go_wp2_with (first
      | (go_at_call 39; refine (value_any _ _ HT.out).mono ?_; rintro e w' ⟨rfl, q, rfl⟩)
      | (go_at_call 26; refine (levelOf_any _ _ (HT.out.sm ⟨q, rfl⟩)).mono ?_; rintro e w' ⟨rfl, q2, rfl⟩))
    go_ret
    exact ⟨rfl, _, rfl⟩
  · have e : SS.rank S.T l = S.T.st.length + 1 := by unfold SS.rank; rw [if_neg hv]
    rw [e]
    clear e
    go_enter Try.func85, Try.ntmps85
    go_wp2_with (first
      | (go_at_call 39; refine (value_any _ _ HT.out).mono ?_; rintro e w' ⟨rfl, q, rfl⟩)
      | (go_at_call 33; refine (level_any _ (HT.out.toTrM.sm ⟨q, rfl⟩)).mono ?_; rintro e w' ⟨rfl, rfl⟩))
    go_ret
    exact ⟨rfl, _, rfl⟩

theorem lit_nat (A : AS) (r : Int) (i : Nat) (h : i < A.len r) : A.lit r i = (A.lits r).getD i 0 := by
  unfold AS.lit; rw [if_pos (by omega)]; rfl

/-- What the loop of bring keeps: the search goes on from i with the best b, to the same end. -/
structure BringRel (w0 : World) (T : TS) (L : List Int) (tgt k : Nat) (b i : Value) (wr : World) : Prop where
  sm : Sm w0 wr
  st : ∃ b' i' : Nat, b = .int .i64 b' ∧ i = .int .i64 i' ∧ i' + k = L.length ∧ b' < L.length ∧ SS.bestGo (SS.rank T) L k i' b' = SS.best T L tgt

set_option maxHeartbeats 1000000 in
set_option maxRecDepth 100000 in
theorem bring_any (r : Int) (tgt : Nat) (w : World) (h : Sys w o ab tb wb lb lvs S) (hto : tgt < S.A.len r) (hlit : ∀ i : Nat, i < S.A.len r → S.A.lit r i ≠ 0) :
    Calls Try.prog 74 #[.pointer (some ⟨wb, 0, none⟩), .int .i64 r, .int .i64 tgt] w fun e w' => e = .returned (.tuple #[]) ∧ SysPost o w ab tb wb lb lvs (S.bring r tgt) w' := by
  obtain ⟨pv, hw⟩ := h.wt
  obtain ⟨wv, mb, ha⟩ := h.ar
  have c0 := hw.c0
  have hle := ha.lenle r
  have H := Lib.hid h
  have HA := Lib.hid ha
  have HLIT := Lib.hid hlit
  clear hw ha h hlit
  have hlen : (S.A.lits r).length = S.A.len r := rfl
  have HLEN := Lib.hid hlen
  clear hlen
  have htl : (tgt : Int) ≤ 1000000000 := by omega
  go_enter Try.func74, Try.ntmps74
  go_wp2
  go_loopg [6, 7] (S.A.len r - (tgt + 1)) (fun k b i wr => BringRel w S.T (S.A.lits r) tgt k b i wr)
  case atStart =>
    refine ⟨Sm.refl _, tgt, tgt + 1, rfl, rfl, ?_, ?_, ?_⟩
    · rw [HLEN.out]; omega
    · rw [HLEN.out]; exact hto
    · unfold SS.best; rw [HLEN.out]
  case round =>
    obtain ⟨⟨q0, rfl⟩, b, i, rfl, rfl, hik, hbl, hgo⟩ := hrel
    rw [HLEN.out] at hik hbl
    have HGO := Lib.hid hgo
    clear hgo
    have hik2 := hik
    clear hik
    have hi1 : (i : Int) ≤ 1000000000 := by omega
    by_cases hk : gk = 0
    · subst hk
      have hil : (S.A.len r : Int) ≤ (i : Int) := by omega
      have hb0 : SS.best S.T (S.A.lits r) tgt = b := HGO.out.symm
      have HB0 := Lib.hid hb0
      have hl1 : S.A.lit r tgt ≠ 0 := HLIT.out tgt hto
      have hl2 : S.A.lit r b ≠ 0 := HLIT.out b hbl
      clear hb0
      have HL1 := Lib.hid hl1
      have HL2 := Lib.hid hl2
      clear hl1 hl2
      go_wp2_with (first
        | (go_at_call 73; refine (alen_any _ _ (HA.out.sm ⟨q0, rfl⟩)).mono ?_; rintro e w' ⟨rfl, q, rfl⟩)
        | (go_at_call 86; refine (swap_yes r tgt b _ (HA.out.sm ⟨q0 + q, rfl⟩) (H.out.cl.sm ⟨q0 + q, rfl⟩) hto hbl HL1.out HL2.out).mono ?_; rintro e w2 ⟨rfl, HP⟩))
      go_end0
      have hs : SysPost o (w.drewN (q0 + q)) ab tb wb lb lvs (S.bring r tgt) w2 := by
        unfold SS.bring; rw [HB0.out]; exact (H.out.sm ⟨q0 + q, rfl⟩).arena HP
      exact ⟨rfl, hs.after ⟨q0 + q, rfl⟩⟩
    · have hil : (i : Int) < (S.A.len r : Int) := by omega
      obtain ⟨k', rfl⟩ : ∃ k', gk = k' + 1 := ⟨gk - 1, by omega⟩
      go_wp2_with (go_at_call 73; refine (alen_any _ _ (HA.out.sm ⟨q0, rfl⟩)).mono ?_; rintro e w' ⟨rfl, q, rfl⟩)
      go_quiet ((first
        | (go_at_call 75; exact quietA (lit_any _ _ _ (HA.out.sm ⟨_, rfl⟩)))
        | (go_at_call 85; exact quietA (rank_any _ _ (H.out.sm ⟨_, rfl⟩)))))
      have hbb : (S.A.lits r).getD b 0 = S.A.lit r b := (lit_nat _ _ _ hbl).symm
      have hbi : (S.A.lits r).getD i 0 = S.A.lit r i := (lit_nat _ _ _ (by omega)).symm
      have HBB := Lib.hid hbb
      have HBI := Lib.hid hbi
      clear hbb hbi
      go_wp2
      · have ht : SS.rank S.T (S.A.lit r b) < SS.rank S.T (S.A.lit r i) := by assumption
        go_roundg k'
        case measure => omega
        case rel =>
          refine ⟨⟨_, rfl⟩, i, i + 1, rfl, rfl, by rw [HLEN.out]; omega, by rw [HLEN.out]; omega, ?_⟩
          have := HGO.out
          unfold SS.bestGo at this
          rw [HBB.out, HBI.out, if_pos ht] at this
          exact this
      · have ht : ¬ SS.rank S.T (S.A.lit r b) < SS.rank S.T (S.A.lit r i) := by omega
        go_roundg k'
        case measure => omega
        case rel =>
          refine ⟨⟨_, rfl⟩, b, i + 1, rfl, rfl, by rw [HLEN.out]; omega, by rw [HLEN.out]; omega, ?_⟩
          have := HGO.out
          unfold SS.bestGo at this
          rw [HBB.out, HBI.out, if_neg ht] at this
          exact this

/-- A clause is looked at when a literal becomes false: one watch more. -/
theorem Try.info111 : (Try.prog.info? 111).map (fun i => (i.zero, i.size, i.bytes)) = some (some (.agg #[.int .i64 0, .int .i64 0, .bool false]), 3, 24) := by kernel_rfl

theorem ix_lt {l : Int} {n : Nat} (h : litIn l n = true) : ix l < 2 * n := by
  rw [litIn_iff] at h; unfold ix; split <;> omega

section
variable {w : World} {O : Own} {rl : Nat} {v : Value} {L : List Wx} {x : Wx} {b : Nat} {oo : Oper} {a : Act} {Q : Exit → Act → World → Prop}

theorem appendW_run (hr : Row w O rl 111 3 v L.length (encW L)) (hcl : Cl O w) (hlen : L.length ≤ 1000000000) (hc : ∀ (j : Nat) u, x.vals[j]? = some u → w.cell? ((⟨b, 0, none⟩ : Addr).add j) = some u) (ty : TypeId) :
    ∃ g cap w' O', (Builtin.append_ #[116, 116] ty #[v, .slice (some ⟨b, 0, none⟩) 1 1]).run Try.prog w = .ok (.slice (some ⟨g, 0, none⟩) (L.length + 1) cap) w' ∧
      Row w' O' rl 111 3 (.slice (some ⟨g, 0, none⟩) (L.length + 1) cap) (L.length + 1) (encW (L ++ [x])) ∧ Cl O' w' ∧ Fr (fun k => k = rl) O O' w w' := by
  obtain ⟨i0, hi, hz0, hz1, hz2⟩ := info_parts Try.info111
  obtain ⟨g, cap, w', O', h1, h2, h3, h4⟩ := Row.append_run (P := Try.prog) (t := 116) (ty := ty) Try.underlying116 hi hz0 hz1 hz2 rfl (by decide) hr hcl ⟨b, 0, none⟩ 1 1 x.vals rfl hc
    (by intro u hu; simp [Wx.vals] at hu; rcases hu with rfl | rfl | rfl <;> rfl) (by decide) (by unfold maxLen; omega) (by omega)
  refine ⟨g, cap, w', O', h1, ?_, h3, h4⟩
  rw [encW_append]; simpa [encW] using h2

theorem appendW_step {ops : Array Oper} {K : Act → World → Prop} {E : Prop} (hr : Row w O rl 111 3 v L.length (encW L)) (hcl : Cl O w) (hlen : L.length ≤ 1000000000) (hgd : oo.guard = none) (s y : Operand)
    (ho : oo.op = .call { callee := .builtin .append, args := #[s, y], argTypes := #[116, 116] }) (hs : a.eval s = v) (hy : a.eval y = .slice (some ⟨b, 0, none⟩) 1 1)
    (hc : ∀ (j : Nat) u, x.vals[j]? = some u → w.cell? ((⟨b, 0, none⟩ : Addr).add j) = some u)
    (h : ∀ g cap w' O', Row w' O' rl 111 3 (.slice (some ⟨g, 0, none⟩) (L.length + 1) cap) (L.length + 1) (encW (L ++ [x])) → Cl O' w' → Fr (fun k => k = rl) O O' w w' →
      K (a.put oo.dst (.slice (some ⟨g, 0, none⟩) (L.length + 1) cap)) w') :
    if Region.wanted oo (yielded ops a.tmps) = true then Oper.wp Try.prog oo a w K Q else E := by
  have hw : Region.wanted oo (yielded ops a.tmps) = true := by simp [Region.wanted, hgd]
  rw [if_pos hw]
  obtain ⟨g, cap, w', O', h1, h2, h3, h4⟩ := appendW_run hr hcl hlen hc oo.type
  unfold Oper.wp execOp
  simp only [ho, resolve, invoke, builtin, Sem.run_bind, Sem.run_pure, Result.andThen_ok, List.map_toArray, List.map_cons, List.map_nil, hs, hy]
  rw [h1]
  exact h g cap w' O' h2 h3 h4
end

theorem addShut {w0 w w3 : World} {o o3 : Own} {ab tb wb : Nat} {S : SS} {l : Int} {x : Wx} {lb g cap : Nat} {lvs : List Value} {L : List Wx} {pv : Value} (h : Sys w0 o ab tb wb lb lvs S) (hw : WtAt w0 o ab tb wb S.W lb lvs pv) (h0 : Fr (fun _ => False) o o w0 w)
    (hix : ix l < S.W.lists.length) (hf : Fr (fun r => r = 100 + ix l) o o3 w w3) (hr : Row w3 o3 (100 + ix l) 111 3 (.slice (some ⟨g, 0, none⟩) (L.length + 1) cap) (L.length + 1) (encW (L ++ [x]))) (hc : Cl o3 w3)
    (hL : S.W.lists.getD (ix l) [] = L) :
    SysPost o w0 ab tb wb lb (lvs.set (ix l) (.slice (some ⟨g, 0, none⟩) (L.length + 1) cap)) { S with W := SS.addW S.W l x } (w3.setCell ⟨lb, ix l, none⟩ (.slice (some ⟨g, 0, none⟩) (L.length + 1) cap)) := by
  have hf0 : Fr wtS o o3 w0 w3 := (h0.mono fun _ h => h.elim).trans (hf.mono fun r hr => by unfold wtS; omega)
  have h1 := (h0.keeps hw.blk id)
  have d3 := hf.keeps h1.1 (by rw [hw.hl]; omega)
  have hl3 : o3 lb = 9 := d3.2.trans hw.hl
  have fs : Fr (fun r => r = 9) o3 o3 w3 (w3.setCell ⟨lb, ix l, none⟩ (.slice (some ⟨g, 0, none⟩) (L.length + 1) cap)) := Fr.setCell _ _ hl3
  have hh := hf.keeps (h0.keeps hw.head id).1 (by rw [hw.hw]; omega)
  have hwb : o3 wb = 8 := hh.2.trans hw.hw
  have hlen : (SS.addW S.W l x).lists.length = S.W.lists.length := by simp [SS.addW]
  refine h.watch (W := SS.addW S.W l x) (lb := lb) (lvs' := lvs.set (ix l) (.slice (some ⟨g, 0, none⟩) (L.length + 1) cap)) (pv := pv) ⟨?_, hwb, ?_, hl3, ?_, ?_, ?_, ?_⟩ (hc.setCell _ _) (hf0.trans (fs.mono fun r hr => by unfold wtS; omega))
  · rw [(fs.keeps hh.1 (by rw [hwb]; decide)).1, hlen]; rfl
  · rw [heap_setCell_same _ _ _ _ _ _ d3.1, List.setIfInBounds_toArray]
  · rw [hlen, List.length_set]; exact hw.len
  · rw [hlen]; exact hw.small
  · intro i v hv
    rw [List.getElem?_set] at hv
    by_cases e : ix l = i
    · subst e
      rw [if_pos rfl, if_pos (by rw [hw.len]; exact hix)] at hv
      simp only [Option.some.injEq] at hv
      subst hv
      have e2 : (SS.addW S.W l x).lists.getD (ix l) [] = L ++ [x] := by
        simp only [SS.addW, hL, List.getD_eq_getElem?_getD, List.getElem?_set, if_pos hix]; simp
      rw [e2]
      have := hr.keeps fs (by omega)
      simpa using this
    · rw [if_neg e] at hv
      have e2 : (SS.addW S.W l x).lists.getD i [] = S.W.lists.getD i [] := by
        simp only [SS.addW, List.getD_eq_getElem?_getD, List.getElem?_set, if_neg e]
      rw [e2]
      exact (((hw.rows i v hv).keeps h0 id).keeps hf (by omega)).keeps fs (by omega)
  · exact (((hw.pend).keeps h0 id).keeps hf (by omega)).keeps fs (by decide)

/-- A list has a watch more; its header alone may have turned. -/
def SysAdd (o : Own) (w : World) (ab tb wb lb : Nat) (lvs : List Value) (i : Nat) (S : SS) (w' : World) : Prop := ∃ v, SysPost o w ab tb wb lb (lvs.set i v) S w'

set_option maxHeartbeats 1000000 in
set_option maxRecDepth 100000 in
theorem add_any (l : Int) (x : Wx) (w : World) (h : Sys w o ab tb wb lb lvs S) {n : Nat} (hl : litIn l n = true) (hn : S.W.lists.length = 2 * n) (hn2 : n ≤ 100000) (hlen : (S.W.lists.getD (ix l) []).length ≤ 1000000000) :
    Calls Try.prog 76 #[.pointer (some ⟨wb, 0, none⟩), .int .i64 l, .agg #[.int .i64 x.ref, .int .i64 x.bl, .bool x.bin]] w fun e w' => e = .returned (.tuple #[]) ∧ SysAdd o w ab tb wb lb lvs (ix l) { S with W := SS.addW S.W l x } w' := by
  obtain ⟨pv, hw⟩ := h.wt
  have hix := ix_lt hl
  rw [← hn] at hix
  have c2 := hw.c2
  obtain ⟨v, hv, cv, fv⟩ := hw.lst hix
  have hrow := hw.rows _ _ hv
  obtain ⟨va, vcap, rfl⟩ := hrow.form
  rw [litIn_iff] at hl
  have hwbs : wb < w.heap.size := (Array.getElem?_eq_some_iff.1 hw.head).1
  have hlbs : lb < w.heap.size := (Array.getElem?_eq_some_iff.1 hw.blk).1
  have H := Lib.hid h
  have HW := Lib.hid hw
  have HV := Lib.hid hv
  have HR := Lib.hid hrow
  have HIX := Lib.hid hix
  have hixn : ((ix l : Nat) : Int) < (S.W.lists.length : Int) := by omega
  obtain ⟨hl0, hl1, hl2⟩ := hl
  have HN := Lib.hid hn
  clear h hw hv hrow hix hn
  cases x with | mk xr xb xn =>
  simp only
  generalize hM : S.W.lists.length = m at *
  have HM := Lib.hid hM
  clear hM
  go_enter Try.func76, Try.ntmps76
  go_wp2_with (go_at_call 80; refine (index_any _ _ (by omega)).mono ?_; rintro e w' ⟨rfl, rfl⟩)
  -- the world with the boxed watch, under a name
  have cb0 : (w.alloc (.cells #[.int .i64 xr, .int .i64 xb, .bool xn] 111)).cell? ⟨w.heap.size, 0, none⟩ = some (.int .i64 xr) := World.cell?_alloc_new ..
  have cb1 : (w.alloc (.cells #[.int .i64 xr, .int .i64 xb, .bool xn] 111)).cell? ⟨w.heap.size, 1, none⟩ = some (.int .i64 xb) := World.cell?_alloc_new ..
  have cb2 : (w.alloc (.cells #[.int .i64 xr, .int .i64 xb, .bool xn] 111)).cell? ⟨w.heap.size, 2, none⟩ = some (.bool xn) := World.cell?_alloc_new ..
  have hfa : Fr (fun _ => False) o o w (w.alloc (.cells #[.int .i64 xr, .int .i64 xb, .bool xn] 111)) := Fr.alloc0 _
  have c2a := (World.cell?_alloc_past (.cells #[.int .i64 xr, .int .i64 xb, .bool xn] 111) wb 2 hwbs).trans c2
  have cva := (World.cell?_alloc_past (.cells #[.int .i64 xr, .int .i64 xb, .bool xn] 111) lb (ix l) hlbs).trans cv
  have hsz : (w.alloc (.cells #[.int .i64 xr, .int .i64 xb, .bool xn] 111)).heap.size = w.heap.size + 1 := by simp
  have H1 : Hid (Sys (w.alloc (.cells #[.int .i64 xr, .int .i64 xb, .bool xn] 111)) o ab tb wb lb lvs S) := H.out.keeps hfa (H.out.cl.alloc0 _) (fun _ _ => id)
  have HW1 : Hid (WtAt (w.alloc (.cells #[.int .i64 xr, .int .i64 xb, .bool xn] 111)) o ab tb wb S.W lb lvs pv) := HW.out.keeps hfa (fun _ _ => id)
  have HR1 : Hid (Row (w.alloc (.cells #[.int .i64 xr, .int .i64 xb, .bool xn] 111)) o (100 + ix l) 111 3 (.slice va (S.W.lists.getD (ix l) []).length vcap) (S.W.lists.getD (ix l) []).length (encW (S.W.lists.getD (ix l) []))) := HR.out.keeps hfa id
  have HFA := Lib.hid hfa
  clear hfa c2 cv fv
  obtain ⟨bb, hbb⟩ : ∃ bb, bb = w.heap.size := ⟨_, rfl⟩
  have HBB0 : Hid (o bb = 0) := by show _ = _; rw [hbb]; exact H.out.cl _ (Nat.le_refl _)
  rw [← hbb] at hsz cb0 cb1 cb2 ⊢
  generalize hw1 : w.alloc (.cells #[.int .i64 xr, .int .i64 xb, .bool xn] 111) = w1 at *
  clear hw1
  have hbb1 : bb < w1.heap.size := by omega
  have hwb1 : wb < w1.heap.size := by omega
  have hlb1 : lb < w1.heap.size := by omega
  clear hwbs hlbs hsz hbb
  have HW2 : Hid (WtAt w1.drew o ab tb wb S.W lb lvs pv) := HW1.out.sm (Sm.drew w1)
  have H2 : Hid (Sys w1.drew o ab tb wb lb lvs S) := H1.out.sm (Sm.drew w1)
  have HR2 : Hid (Row w1.drew o (100 + ix l) 111 3 (.slice va (S.W.lists.getD (ix l) []).length vcap) (S.W.lists.getD (ix l) []).length (encW (S.W.lists.getD (ix l) []))) := HR1.out.keeps (S := fun _ => False) (Fr.sm (Sm.drew w1)) id
  have hlenI : ((S.W.lists.getD (ix l) []).length : Int) ≤ 1000000000 := by omega
  have HLN := Lib.hid hlen
  generalize hLL : S.W.lists.getD (ix l) [] = L at *
  have HLL := Lib.hid hLL
  clear hLL
  have hx : ∀ (j : Nat) u, (Wx.mk xr xb xn).vals[j]? = some u → (w1.drew.alloc (.cells #[.int .i64 xr, .int .i64 xb, .bool xn] 111)).cell? ((⟨w1.heap.size, 0, none⟩ : Addr).add j) = some u := words_of (w := w1.drew)
  have HX := Lib.hid hx
  have HLEN := Lib.hid hlen
  clear hx hlen
  go_region_law
    (refine appendW_step (x := ⟨xr, xb, xn⟩) (HR2.out.keeps (S := fun _ => False) (Fr.alloc0 _) id) (H2.out.cl.alloc0 _) HLEN.out rfl (.tmp 20) (.tmp 22) rfl rfl rfl HX.out ?_
     intro g cap w3 o3 hr3 hcl3 hfr3
     have fr13 : Fr (fun r => r = 100 + ix l) o o3 w1.drew w3 := (Fr.alloc0 _).trans hfr3
     have d3 := fr13.keeps HW2.out.blk (by rw [HW2.out.hl]; omega)
     have k0 : (w3.cell? ⟨lb, ix l, none⟩).isSome = true := by rw [cell_of_row w3 lb (ix l) _ 116 _ d3.1]; have := (List.getElem?_eq_some_iff.1 HV.out).1; simp [this]
     have kf0 : w3.frozen? ⟨lb, ix l, none⟩ = false := frozen_of_row w3 lb (ix l) _ 116 d3.1
     obtain ⟨k1, hk1⟩ := Option.isSome_iff_exists.1 k0
     have kw2 : w3.cell? ⟨wb, 2, none⟩ = some (.slice (some ⟨lb, 0, none⟩) m m) := ((World.cell?_of_block (w := w1.drew) (fr13.block wb hwb1 (by rw [HW2.out.hw]; omega))).trans c2a)
     have HR3 := Lib.hid hr3
     have CL3 := Lib.hid hcl3
     have F3 := Lib.hid fr13
     have D3 := Lib.hid d3
     clear hr3 hcl3 fr13 d3 hfr3 k0)
  all_goals
    go_end0
    exact ⟨rfl, _, addShut H.out HW.out (HFA.out.trans (Fr.sm (Sm.drew w1))) (by rw [HM.out]; exact HIX.out) F3.out HR3.out CL3.out HLL.out⟩
end
end Go.Proofs.Ytpjiemffkkfbkaa
