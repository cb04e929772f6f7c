/- Lists of watches that turn as wholes; the copy within a list. -/
import Derived.Test.YtpjiemffkkfbkaaW5
import Derived.Test.YtpjiemffkkfbkaaPA
import Derived.Laws.CopyOwn
namespace Go.Proofs.Ytpjiemffkkfbkaa
open Go.RowKit

theorem Fr.setRow {S : Nat → Prop} {o : Own} {w : World} (g : Nat) (cs : Array Value) (hs : S (o g)) : Fr S o o w (w.setRow g cs) where
  os := rfl
  tape := rfl
  output := rfl
  size := by simp [World.setRow]
  role := fun _ _ => rfl
  block := fun k _ hn => setRow_other w g k cs (fun e => hn (e ▸ hs))
theorem Cl.setRow {o : Own} {w : World} (h : Cl o w) (g : Nat) (cs : Array Value) : Cl o (w.setRow g cs) := by
  intro k hk; simp [World.setRow] at hk; exact h k hk

theorem encW_inj_len {L : List Wx} : (encW L).length = L.length * 3 := encW_length L
theorem encW_take (L : List Wx) (n : Nat) : (encW L).take (n * 3) = encW (L.take n) := by
  induction L generalizing n with
  | nil => simp [encW]
  | cons c L ih =>
    cases n with
    | zero => simp [encW]
    | succ n =>
      have e : (n + 1) * 3 = c.vals.length + n * 3 := by simp [Wx.vals]; omega
      simp only [encW, List.flatMap_cons, List.take_succ_cons] at ih ⊢
      rw [e, List.take_length_add_append, ih]
theorem encW_drop (L : List Wx) (n : Nat) : (encW L).drop (n * 3) = encW (L.drop n) := by
  induction L generalizing n with
  | nil => simp [encW]
  | cons c L ih =>
    cases n with
    | zero => simp
    | succ n =>
      have e : (n + 1) * 3 = c.vals.length + n * 3 := by simp [Wx.vals]; omega
      simp only [encW, List.flatMap_cons, List.drop_succ_cons] at ih ⊢
      rw [e, List.drop_length_add_append, ih]
theorem encW_one (L : List Wx) : ∀ v ∈ encW L, v.oneCell' = true := by
  intro v hv
  simp only [encW, List.mem_flatMap, Wx.vals] at hv
  obtain ⟨x, _, hv⟩ := hv
  simp at hv
  rcases hv with rfl | rfl | rfl <;> rfl

section
variable {w w' : World} {o o' : Own} {ab tb wb : Nat} {W : WS} {lb : Nat} {lvs : List Value} {pv : Value}

/-- A list's content has turned, in its block; its header hasn't. -/
theorem WtAt.setList (h : WtAt w o ab tb wb W lb lvs pv) {k : Nat} {L : List Wx} {v : Value} (hv : lvs[k]? = some v) (hf : Fr (fun r => r = 100 + k) o o w w') (hr : Row w' o (100 + k) 111 3 v L.length (encW L)) :
    WtAt w' o ab tb wb { W with lists := W.lists.set k L } lb lvs pv := by
  have hk : k < W.lists.length := by rw [← h.len]; exact (List.getElem?_eq_some_iff.1 hv).1
  refine ⟨?_, h.hw, ?_, h.hl, by simpa using h.len, by simpa using h.small, ?_, h.pend.keeps hf (by omega)⟩
  · have := (hf.keeps h.head (by rw [h.hw]; omega)).1
    simpa using this
  · exact (hf.keeps h.blk (by rw [h.hl]; omega)).1
  · intro j u hj
    by_cases e : k = j
    · subst e
      rw [hv] at hj
      simp only [Option.some.injEq] at hj
      subst hj
      have e2 : ({ W with lists := W.lists.set k L } : WS).lists.getD k [] = L := by
        simp only [List.getD_eq_getElem?_getD, List.getElem?_set, if_pos hk]; simp
      rw [e2]; exact hr
    · have e2 : ({ W with lists := W.lists.set k L } : WS).lists.getD j [] = W.lists.getD j [] := by
        simp only [List.getD_eq_getElem?_getD, List.getElem?_set, if_neg e]
      rw [e2]; exact (h.rows j u hj).keeps hf (by omega)

/-- A list's header has turned. -/
theorem WtAt.setHead (h : WtAt w o ab tb wb W lb lvs pv) {k : Nat} {L : List Wx} {v : Value} (hk : k < W.lists.length) (hr : Row w o (100 + k) 111 3 v L.length (encW L)) :
    WtAt (w.setCell ⟨lb, k, none⟩ v) o ab tb wb { W with lists := W.lists.set k L } lb (lvs.set k v) pv := by
  have fs : Fr (fun r => r = 9) o o w (w.setCell ⟨lb, k, none⟩ v) := Fr.setCell _ _ h.hl
  refine ⟨?_, h.hw, ?_, h.hl, by simpa using h.len, by simpa using h.small, ?_, h.pend.keeps fs (by omega)⟩
  · have := (fs.keeps h.head (by rw [h.hw]; omega)).1
    simpa using this
  · rw [heap_setCell_same _ _ _ _ _ _ h.blk, List.setIfInBounds_toArray]
  · intro j u hj
    rw [List.getElem?_set] at hj
    by_cases e : k = j
    · subst e
      rw [if_pos rfl, if_pos (by rw [h.len]; exact hk)] at hj
      simp only [Option.some.injEq] at hj
      subst hj
      have e2 : ({ W with lists := W.lists.set k L } : WS).lists.getD k [] = L := by
        simp only [List.getD_eq_getElem?_getD, List.getElem?_set, if_pos hk]; simp
      rw [e2]; exact hr.keeps fs (by omega)
    · rw [if_neg e] at hj
      have e2 : ({ W with lists := W.lists.set k L } : WS).lists.getD j [] = W.lists.getD j [] := by
        simp only [List.getD_eq_getElem?_getD, List.getElem?_set, if_neg e]
      rw [e2]; exact (h.rows j u hj).keeps fs (by omega)
end

section
variable {w w' : World} {o o' : Own} {ab tb wb lb : Nat} {lvs : List Value} {S : SS}

theorem Sys.row (h : Sys w o ab tb wb lb lvs S) {k : Nat} {v : Value} (hv : lvs[k]? = some v) : Row w o (100 + k) 111 3 v (S.W.lists.getD k []).length (encW (S.W.lists.getD k [])) := by
  obtain ⟨pv, hw⟩ := h.wt; exact hw.rows k v hv
theorem Sys.hk (h : Sys w o ab tb wb lb lvs S) {k : Nat} {v : Value} (hv : lvs[k]? = some v) : k < S.W.lists.length := by
  obtain ⟨pv, hw⟩ := h.wt; rw [← hw.len]; exact (List.getElem?_eq_some_iff.1 hv).1

theorem Sys.setList (h : Sys w o ab tb wb lb lvs S) {k : Nat} {L : List Wx} {v : Value} (hv : lvs[k]? = some v) (hf : Fr (fun r => r = 100 + k) o o w w') (hc : Cl o w') (hr : Row w' o (100 + k) 111 3 v L.length (encW L)) :
    Sys w' o ab tb wb lb lvs { S with W := { S.W with lists := S.W.lists.set k L } } ∧ Fr sysS o o w w' := by
  obtain ⟨pv, hw⟩ := h.wt
  exact ⟨⟨h.ar.keeps hf ⟨by omega, by omega, by omega⟩, h.tr.keeps hf ⟨by omega, by omega, by omega, by omega⟩, ⟨pv, hw.setList hv hf hr⟩, hc⟩, hf.mono fun r hr => by unfold sysS; omega⟩

theorem Sys.setHead (h : Sys w o ab tb wb lb lvs S) {k : Nat} {L : List Wx} {v : Value} (hk : k < S.W.lists.length) (hr : Row w o (100 + k) 111 3 v L.length (encW L)) :
    SysPost o w ab tb wb lb (lvs.set k v) { S with W := { S.W with lists := S.W.lists.set k L } } (w.setCell ⟨lb, k, none⟩ v) := by
  obtain ⟨pv, hw⟩ := h.wt
  exact h.watch (hw.setHead hk hr) (h.cl.setCell _ _) ((Fr.setCell (S := fun r => r = 9) _ _ hw.hl).mono fun r hr => by unfold wtS; omega)

/-- A list is cut to its first m watches. -/
theorem Sys.cutList (h : Sys w o ab tb wb lb lvs S) {k lg n cap m : Nat} (hv : lvs[k]? = some (.slice (some ⟨lg, 0, none⟩) n cap)) (hn : n = (S.W.lists.getD k []).length) (hm : m ≤ n) :
    SysPost o w ab tb wb lb (lvs.set k (.slice (some ⟨lg, 0, none⟩) m cap)) { S with W := { S.W with lists := S.W.lists.set k ((S.W.lists.getD k []).take m) } } (w.setCell ⟨lb, k, none⟩ (.slice (some ⟨lg, 0, none⟩) m cap)) := by
  have hr := h.row hv
  rw [hn] at hr
  have hr2 := hr.take m (by omega)
  rw [encW_take] at hr2
  refine h.setHead (h.hk hv) ?_
  rw [List.length_take, Nat.min_eq_left (by omega)]
  exact hr2

/-- A watch is written over. -/
theorem Sys.setAt (h : Sys w o ab tb wb lb lvs S) {k i lg n cap : Nat} {x : Wx} (hv : lvs[k]? = some (.slice (some ⟨lg, 0, none⟩) n cap)) (hi : i < (S.W.lists.getD k []).length) :
    Sys (((w.setCell ⟨lg, i * 3, none⟩ (.int .i64 x.ref)).setCell ⟨lg, i * 3 + 1, none⟩ (.int .i64 x.bl)).setCell ⟨lg, i * 3 + 2, none⟩ (.bool x.bin)) o ab tb wb lb lvs { S with W := SS.setW S.W k i x } ∧
      Fr sysS o o w (((w.setCell ⟨lg, i * 3, none⟩ (.int .i64 x.ref)).setCell ⟨lg, i * 3 + 1, none⟩ (.int .i64 x.bl)).setCell ⟨lg, i * 3 + 2, none⟩ (.bool x.bin)) := by
  obtain ⟨_, _, _, _, ho, hn, hc⟩ := h.watchAt hv hi
  have hr := h.row hv
  rw [hn] at hr
  have h3 := ((hr.set (i * 3) (.int .i64 x.ref)).set (i * 3 + 1) (.int .i64 x.bl)).set (i * 3 + 2) (.bool x.bin)
  rw [encW_set _ _ _ hi] at h3
  have fs : Fr (fun r => r = 100 + k) o o w (((w.setCell ⟨lg, i * 3, none⟩ (.int .i64 x.ref)).setCell ⟨lg, i * 3 + 1, none⟩ (.int .i64 x.bl)).setCell ⟨lg, i * 3 + 2, none⟩ (.bool x.bin)) :=
    ((Fr.setCell _ _ ho).trans (Fr.setCell _ _ ho)).trans (Fr.setCell _ _ ho)
  refine h.setList hv fs (((h.cl.setCell _ _).setCell _ _).setCell _ _) ?_
  rw [List.length_set, hn]; exact h3
end

theorem addr_flat (g k j : Nat) : (⟨g, k, none⟩ : Addr).add j = ⟨g, k + j, none⟩ := by
  unfold Addr.add; split
  · rename_i h; subst h; rfl
  · rfl

theorem Try.info111' : (Try.prog.info? 111).map (·.size) = some 3 := by kernel_rfl

/-- The copy within a list: what lies from s on is laid from d on. -/
theorem copyW_run {w : World} {o : Own} {r g n cap s d : Nat} {L : List Wx} (h : Row w o r 111 3 (.slice (some ⟨g, 0, none⟩) n cap) L.length (encW L)) (hd : d ≤ s) (hs : s < n) (ty : TypeId) (dc sc : Nat) :
    ∃ w', (Builtin.copy_ #[116, 116] ty #[.slice (some ⟨g, d * 3, none⟩) (n - d) dc, .slice (some ⟨g, s * 3, none⟩) (n - s) sc]).run Try.prog w = .ok (goInt ((n - s : Nat) : Int)) w' ∧
      Row w' o r 111 3 (.slice (some ⟨g, 0, none⟩) n cap) n (encW (L.take d ++ L.drop s ++ L.drop (d + (n - s)))) ∧ (∀ p, Cl p w → Cl p w') ∧ Fr (fun k => k = r) o o w w' := by
  obtain ⟨a', cap', e⟩ := h.form
  simp only [Value.slice.injEq] at e
  obtain ⟨-, hnL, -⟩ := e
  rcases h.1.2 with ⟨h', _⟩ | ⟨g', cap'', cur, h', hb, hg, hc, hm, hsz, ht⟩
  · simp at h'
  simp only [Value.slice.injEq, Option.some.injEq, Addr.mk.injEq, and_true] at h'
  obtain ⟨rfl, -, rfl⟩ := h'
  have hLn : L.length = n := hnL.symm
  have hcur : cur.toList = encW L ++ cur.toList.drop (n * 3) := by rw [← ht, hLn, List.take_append_drop]
  generalize hrest : cur.toList.drop (n * 3) = rest at hcur
  have hel : (encW L).length = n * 3 := by rw [encW_length, hLn]
  have hcsl : (encW (L.drop s)).length = (n - s) * 3 := by rw [encW_length, List.length_drop, hLn]
  have hcell : ∀ q, w.cell? ⟨g, q, none⟩ = cur.toList[q]? := by intro q; rw [cell_of_row w g q _ 111 _ hg]; simp
  have hsrc : ∀ j v, (encW (L.drop s))[j]? = some v → w.cell? ((⟨g, s * 3, none⟩ : Addr).add j) = some v := by
    intro j v hj
    have e : (⟨g, s * 3, none⟩ : Addr).add j = ⟨g, s * 3 + j, none⟩ := addr_flat _ _ _
    have hjl := (List.getElem?_eq_some_iff.1 hj).1
    rw [e, hcell, hcur, List.getElem?_append_left (by omega), ← hj, ← encW_drop, List.getElem?_drop]
  have hl := run_loadCells_list (P := Try.prog) (w := w) ⟨g, s * 3, none⟩ (encW (L.drop s)) hsrc
  have hfit : d * 3 + 0 + (encW (L.drop s)).length ≤ cur.size := by rw [hcsl, hsz]; omega
  have hst := run_storeCells_at Try.prog g (d * 3) 111 (encW (L.drop s)) 0 cur w hg hfit (encW_one _)
  have hmin : Nat.min (n - s) (n - d) = n - s := Nat.min_eq_left (by omega)
  have hrun : (Builtin.copy_ #[116, 116] ty #[.slice (some ⟨g, d * 3, none⟩) (n - d) dc, .slice (some ⟨g, s * 3, none⟩) (n - s) sc]).run Try.prog w = .ok (goInt ((n - s : Nat) : Int)) (w.setRow g (cur.toList.take (d * 3 + 0) ++ encW (L.drop s) ++ cur.toList.drop (d * 3 + 0 + (encW (L.drop s)).length)).toArray) := by
    obtain ⟨i0, hi, hz0, hz1, hz2⟩ := info_parts Try.info111
    simp [Builtin.copy_, run_underlying Try.underlying116, Builtin.lenOf, Builtin.firstCells, sizeOf, typeInfo, hi, hz1, hmin]
    rw [← hcsl, hl]
    simp [hst]
  refine ⟨_, hrun, ⟨⟨?_, .inr ⟨g, cap, _, rfl, hb, setRow_heap w g _ _ 111 _ hg, by omega, hm, ?_, ?_⟩⟩, fun k hk => h.2 k hk⟩, fun p hp => hp.setRow _ _, Fr.setRow _ _ (h.2 g rfl)⟩
  · rw [encW_length]; simp; omega
  · have : cur.toList.length = cap * 3 := by simpa using hsz
    simp only [List.size_toArray, List.length_append, List.length_take, List.length_drop, hcsl, this]
    omega
  · rw [hcsl]
    have e1 : cur.toList.take (d * 3 + 0) = encW (L.take d) := by
      rw [hcur, Nat.add_zero, List.take_append_of_le_length (by omega), encW_take]
    have e2 : cur.toList.drop (d * 3 + 0 + (n - s) * 3) = encW (L.drop (d + (n - s))) ++ rest := by
      have e3 : d * 3 + 0 + (n - s) * 3 = (d + (n - s)) * 3 := by omega
      rw [hcur, e3, List.drop_append_of_le_length (by omega), encW_drop]
    rw [e1, e2]
    simp only [encW_append]
    rw [← List.append_assoc]
    refine List.take_left' ?_
    simp only [List.length_append, encW_length, List.length_take, List.length_drop]
    omega

/-- The copy within a list, as a step of a region. -/
theorem copyW_step {w : World} {o : Own} {r g n cap s d m : Nat} {L : List Wx} {ops : Array Oper} {oo : Oper} {a : Act} {K : Act → World → Prop} {Q : Exit → Act → World → Prop} {E : Prop}
    (h : Row w o r 111 3 (.slice (some ⟨g, 0, none⟩) n cap) L.length (encW L)) (hd : d ≤ s) (hs : s < n) (hm : n - s = m) (hgd : oo.guard = none) (x y : Operand)
    (ho : oo.op = .call { callee := .builtin .copy, args := #[x, y], argTypes := #[116, 116] }) {dc sc : Nat} (hx : a.eval x = .slice (some ⟨g, d * 3, none⟩) (n - d) dc) (hy : a.eval y = .slice (some ⟨g, s * 3, none⟩) (n - s) sc)
    (hk : ∀ w', Row w' o r 111 3 (.slice (some ⟨g, 0, none⟩) n cap) n (encW (L.take d ++ L.drop s ++ L.drop (d + m))) → (∀ p, Cl p w → Cl p w') → Fr (fun k => k = r) o o w w' →
      K (a.put oo.dst (goInt (m : Int))) w') :
    if Region.wanted oo (yielded ops a.tmps) = true then Oper.wp Try.prog oo a w K Q else E := by
  subst hm
  have hw : Region.wanted oo (yielded ops a.tmps) = true := by simp [Region.wanted, hgd]
  rw [if_pos hw]
  obtain ⟨w', h1, h2, h3, h4⟩ := copyW_run h hd hs oo.type dc sc
  unfold Oper.wp execOp
  simp only [ho, resolve, invoke, builtin, Sem.run_bind, Sem.run_pure, Result.andThen_ok, List.map_toArray, List.map_cons, List.map_nil, hx, hy]
  rw [h1]
  exact hk w' h2 h3 h4
end Go.Proofs.Ytpjiemffkkfbkaa
