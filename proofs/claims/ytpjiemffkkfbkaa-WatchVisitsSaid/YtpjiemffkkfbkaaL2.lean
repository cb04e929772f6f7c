/- The walk of begin. -/
import Derived.Test.YtpjiemffkkfbkaaL1
import Derived.Test.YtpjiemffkkfbkaaR1
import Derived.Test.YtpjiemffkkfbkaaW10
import Derived.Test.YtpjiemffkkfbkaaT3
import Derived.Test.YtpjiemffkkfbkaaA2
import Derived.Test.YtpjiemffkkfbkaaPB
import Derived.Deep.RegionWith
import Derived.Deep.RegionHeld3
namespace Go.Proofs.Ytpjiemffkkfbkaa
open Go.RowKit

/-- What an 'all' has in memory, beside its arena, trail and propagator: in blocks of Z. -/
structure XAt (w : World) (Z : Nat → Prop) (xb ab tb wb mb : Nat) (M : List (Int × Value)) (CL : List (List Int)) : Prop where
  hx : w.heap[xb]? = some (.cells #[.pointer (some ⟨ab, 0, none⟩), .pointer (some ⟨tb, 0, none⟩), .pointer (some ⟨wb, 0, none⟩), .map (some mb)] 41 (0, 0))
  zx : Z xb
  mp : IMap w mb M
  zm : Z mb
  len : M.length = CL.length
  ls : ∀ (j : Nat) c, CL[j]? = some c → ∃ r hv, M[j]? = some (r, hv) ∧ Rl w Z hv c

theorem IMap.blk {w w' : World} {b : Nat} {M : List (Int × Value)} (h : IMap w b M) (hb : w'.heap[b]? = w.heap[b]?) : IMap w' b M := by
  obtain ⟨es, cl, h1, h2⟩ := h
  exact ⟨es, cl, by rw [hb]; exact h1, h2⟩

theorem XAt.keeps {w w' : World} {Z Z' : Nat → Prop} {xb ab tb wb mb : Nat} {M : List (Int × Value)} {CL : List (List Int)} (h : XAt w Z xb ab tb wb mb M CL)
    (hb : ∀ b, b < w.heap.size → Z b → w'.heap[b]? = w.heap[b]? ∧ Z' b) : XAt w' Z' xb ab tb wb mb M CL := by
  have h1 := hb xb (Array.getElem?_eq_some_iff.1 h.hx).1 h.zx
  have h2 := hb mb h.mp.lt h.zm
  refine ⟨by rw [h1.1]; exact h.hx, h1.2, h.mp.blk h2.1, h2.2, h.len, fun j c hj => ?_⟩
  obtain ⟨r, hv, e, hr⟩ := h.ls j c hj
  exact ⟨r, hv, e, hr.keeps hb⟩
theorem XAt.own {S : Nat → Prop} {o o' : Own} {w w' : World} {xb ab tb wb mb : Nat} {M : List (Int × Value)} {CL : List (List Int)} (h : XAt w (fun b => o b = 0) xb ab tb wb mb M CL) (hf : Fr S o o' w w') (h0 : ¬ S 0) :
    XAt w' (fun b => o' b = 0) xb ab tb wb mb M CL := h.keeps fun b hb h => ⟨hf.block b hb (by rw [h]; exact h0), (hf.role b hb).trans h⟩
theorem XAt.same {w w' : World} {Z : Nat → Prop} {xb ab tb wb mb : Nat} {M : List (Int × Value)} {CL : List (List Int)} (h : XAt w Z xb ab tb wb mb M CL) (hf : Same w w') : XAt w' Z xb ab tb wb mb M CL :=
  h.keeps fun b hb hz => ⟨hf.block b hb id, hz⟩

def Beg1 (w0 : World) (n : Nat) (s3 : Value) (wx : World) : Prop :=
  ∃ ab tb xb mb pa pt, s3 = .pointer (some ⟨xb, 0, none⟩) ∧ Ar wx pa ab (AS.new 0) ∧ Cl pa wx ∧ New pa w0.heap.size ∧ Tr wx pt tb (TS.empty n) ∧ Cl pt wx ∧ New pt w0.heap.size ∧ Dj pa pt ∧
    wx.heap[xb]? = some (.cells #[.pointer (some ⟨ab, 0, none⟩), .pointer (some ⟨tb, 0, none⟩), .pointer none, .map (some mb)] 41 (0, 0)) ∧ IMap wx mb [] ∧ w0.heap.size ≤ xb ∧ w0.heap.size ≤ mb ∧
    pa xb = 0 ∧ pt xb = 0 ∧ pa mb = 0 ∧ pt mb = 0 ∧ xb ≠ mb ∧ Same w0 wx

theorem Beg1.of {w0 W1 wa W2 wt wx : World} {n ab tb xb mb : Nat} {pa pt : Own} (h1 : Same w0 W1) (har : Ar wa pa ab (AS.new 0)) (hca : Cl pa wa) (hna : New pa W1.heap.size) (hsa : Same W1 wa) (h2 : Same wa W2)
    (htr : Tr wt pt tb (TS.empty n)) (hct : Cl pt wt) (hnt : New pt W2.heap.size) (hst : Same W2 wt) (h3 : Same wt wx)
    (hx : wx.heap[xb]? = some (.cells #[.pointer (some ⟨ab, 0, none⟩), .pointer (some ⟨tb, 0, none⟩), .pointer none, .map (some mb)] 41 (0, 0))) (hm : IMap wx mb []) (hpa : pa mb = 0) (hpt : pt mb = 0)
    (hxb : wt.heap.size ≤ xb) (hmb : w0.heap.size ≤ mb) (hne : xb ≠ mb) : Beg1 w0 n (.pointer (some ⟨xb, 0, none⟩)) wx := by
  have s1 := h1.size
  have s2 := hsa.size
  have s3 := h2.size
  have s4 := hst.size
  have s5 := h3.size
  have hax := ((h2.trans hst).trans h3)
  refine ⟨ab, tb, xb, mb, pa, pt, rfl, har.keeps (hax.any (fun _ => False) pa) ⟨id, id, id⟩, hca.size (by omega), hna.mono (by omega), htr.keeps (h3.any (fun _ => False) pt) ⟨id, id, id, id⟩, hct.size s5, hnt.mono (by omega), ?_, hx, hm, by omega, hmb, hca xb (by omega), hct xb (by omega), hpa, hpt, hne, (h1.trans hsa).trans hax⟩
  exact Dj.new hca (by omega) hnt

theorem map_at {w : World} {b : Nat} (h : w.heap[b]? = some (.map #[] 0)) : IMap w b [] := (IMap.new w).elim fun _ _ => ⟨#[], 0, h, rfl, by simp, by simp, by simp⟩

def Beg2 (w0 : World) (n xb mb ab tb : Nat) (wx : World) : Prop :=
  ∃ wb lb lvs o, Sys wx o ab tb wb lb lvs (SS.new n) ∧ New o w0.heap.size ∧ wx.heap[xb]? = some (.cells #[.pointer (some ⟨ab, 0, none⟩), .pointer (some ⟨tb, 0, none⟩), .pointer (some ⟨wb, 0, none⟩), .map (some mb)] 41 (0, 0)) ∧
    IMap wx mb [] ∧ o xb = 0 ∧ o mb = 0 ∧ Same w0 wx

theorem Beg2.of {w0 w1 w2 wx : World} {n xb mb ab tb wb lb : Nat} {pa pt pw : Own} {lvs : List Value} {pv : Value} (har : Ar w1 pa ab (AS.new 0)) (hca : Cl pa w1) (hna : New pa w0.heap.size) (htr : Tr w1 pt tb (TS.empty n)) (hct : Cl pt w1) (hnt : New pt w0.heap.size)
    (hd : Dj pa pt) (hx : w1.heap[xb]? = some (.cells #[.pointer (some ⟨ab, 0, none⟩), .pointer (some ⟨tb, 0, none⟩), .pointer none, .map (some mb)] 41 (0, 0))) (hm : IMap w1 mb []) (hxn : w0.heap.size ≤ xb) (hpx : pa xb = 0) (hpt : pt xb = 0) (hpm : pa mb = 0) (hptm : pt mb = 0) (hne : xb ≠ mb)
    (hs0 : Same w0 w1) (hwt : WtAt w2 pw ab tb wb ⟨List.replicate (2 * n) [], [], 0, 0⟩ lb lvs pv) (hcw : Cl pw w2) (hnw : New pw w1.heap.size) (hsw : Same w1 w2) (hwx : wx = w2.setCell ⟨xb, 2, none⟩ (.pointer (some ⟨wb, 0, none⟩))) : Beg2 w0 n xb mb ab tb wx := by
  subst hwx
  have hxl : xb < w1.heap.size := (Array.getElem?_eq_some_iff.1 hx).1
  have hml := hm.lt
  have hx2 : w2.heap[xb]? = _ := (hsw.block xb hxl id).trans hx
  have hpwx : pw xb = 0 := hnw xb hxl
  have hpwm : pw mb = 0 := hnw mb hml
  have hS : Sys w2 (join (join pa pt) pw) ab tb wb lb lvs (SS.new n) := by
    refine Sys.of (har.keeps (hsw.any (fun _ => False) pa) ⟨id, id, id⟩) (htr.keeps (hsw.any (fun _ => False) pt) ⟨id, id, id, id⟩) hwt (hca.size hsw.size) (hct.size hsw.size) hcw hd ?_ ?_
    · exact Dj.new hca (Nat.le_refl _) hnw
    · exact Dj.new hct (Nat.le_refl _) hnw
  have ox : join (join pa pt) pw xb = 0 := by unfold join; simp [hpx, hpt, hpwx]
  have om : join (join pa pt) pw mb = 0 := by unfold join; simp [hpm, hptm, hpwm]
  have hf : Fr (fun r => r = 0) (join (join pa pt) pw) (join (join pa pt) pw) w2 (w2.setCell ⟨xb, 2, none⟩ (.pointer (some ⟨wb, 0, none⟩))) := Fr.setCell _ _ ox
  refine ⟨wb, lb, lvs, _, hS.keeps hf (hS.cl.setCell _ _) (fun r hr h => hr h), ?_, ?_, ?_, ox, om, ?_⟩
  · exact (hna.join hnt).join (hnw.mono hs0.size)
  · rw [heap_setCell_same _ _ _ _ _ _ hx2]; simp
  · exact (hm.blk (hsw.block mb hml id)).blk (heap_setCell_other _ _ _ _ (Ne.symm hne))
  · have h02 := hs0.trans hsw
    exact ⟨h02.os, h02.tape, h02.output, by simpa using h02.size, fun _ _ => rfl, fun k hk hn => (heap_setCell_other _ _ _ _ (show k ≠ xb by omega)).trans (h02.block k hk hn)⟩

/-- What begin leaves. -/
def BeginPost (w : World) (n : Nat) (CL : List (List Int)) (e : Ending) (w' : World) : Prop :=
  ∃ xb ab tb wb lb lvs o mb M, e = .returned (.pointer (some ⟨xb, 0, none⟩)) ∧ Sys w' o ab tb wb lb lvs (plusAll n CL) ∧ New o w.heap.size ∧ XAt w' (fun b => w.heap.size ≤ b ∧ o b = 0) xb ab tb wb mb M CL ∧ Same w w'

structure BegRel (w w1 : World) (n xb mb ab tb wb : Nat) (CL : List (List Int)) (hv : Value) (k : Nat) (i : Value) (wr : World) : Prop where
  st : ∃ (i' lb : Nat) (lvs : List Value) (o : Own) (M : List (Int × Value)), i = .int .i64 i' ∧ i' + k = CL.length ∧ Sys wr o ab tb wb lb lvs (plusAll n (CL.take i')) ∧ New o w1.heap.size ∧
    XAt wr (fun b => w.heap.size ≤ b ∧ o b = 0) xb ab tb wb mb M (CL.take i') ∧ (∀ p ∈ M, p.1 < (plusAll n (CL.take i')).A.words.length) ∧ Rm wr (fun b => w.heap.size ≤ b ∧ o b = 0) hv CL
  sm : Same w1 wr

theorem Rl.rd {w : World} {o : Own} {Z : Nat → Prop} {v : Value} {xs : List Int} (h : Rl w Z v xs) (hz : ∀ b, Z b → o b = 0) : Rd w o v xs := by
  rcases h with h | ⟨b, off, cap, rfl, hc, hp, hx⟩
  · exact .inl h
  · refine .inr ⟨⟨b, off, none⟩, cap, rfl, hc, fun j x hj => ?_, fun h0 => hz b (hp h0)⟩
    have e : (⟨b, off, none⟩ : Addr).add j = ⟨b, off + j, none⟩ := by unfold Addr.add; split <;> simp_all
    rw [e]; exact hx j x hj

/-- The map takes a clause more. -/
theorem BegRel.next {w w1 w2 w3 w4 wr : World} {n xb mb ab tb wb lb i : Nat} {CL : List (List Int)} {c : List Int} {hv cv : Value} {o o1 o2 : Own} {lvs : List Value} {M : List (Int × Value)} {k : Nat} {iv : Value}
    (hs : Sys w3 o2 ab tb wb lb lvs (plusAll n (CL.take (i + 1)))) (hno : New o w1.heap.size) (hx : XAt wr (fun b => w.heap.size ≤ b ∧ o b = 0) xb ab tb wb mb M (CL.take i)) (hlo : ∀ p ∈ M, p.1 < (plusAll n (CL.take i)).A.words.length)
    (hrm : Rm wr (fun b => w.heap.size ≤ b ∧ o b = 0) hv CL) (hsame : Same w1 wr) (_hw1 : w.heap.size ≤ w1.heap.size) (hf1 : Fr sysS o o1 wr w2) (hf2 : Fr sysS o1 o2 w2 w3) (hm4 : IMap w4 mb (mput M (plusAll n (CL.take i)).A.words.length cv))
    (hf4 : Fr (fun r => r = 99) (fun b => if b = mb then 99 else 0) (fun b => if b = mb then 99 else 0) w3 w4) (hmb : w1.heap.size ≤ mb) (hxm : xb ≠ mb) (hts : CL.take (i + 1) = CL.take i ++ [c])
    (hcv : Rl wr (fun b => w.heap.size ≤ b ∧ o b = 0) cv c) (hwl : (plusAll n (CL.take i)).A.words.length < (plusAll n (CL.take (i + 1))).A.words.length)
    (hiv : iv = .int .i64 ((i + 1 : Nat) : Int)) (hk : i + 1 + k = CL.length) (hnew1 : Fr sysS o o2 wr w3 → Same w1 w3) : BegRel w w1 n xb mb ab tb wb CL hv k iv w4 := by
  have hf12 : Fr sysS o o2 wr w3 := hf1.trans hf2
  have hm1 : M.map (·.1) = M.map (·.1) := rfl
  have hnotin : ((plusAll n (CL.take i)).A.words.length : Int) ∉ M.map (·.1) := by
    intro hm
    obtain ⟨p, hp, e⟩ := List.mem_map.1 hm
    have := hlo p hp; omega
  have hput : mput M (plusAll n (CL.take i)).A.words.length cv = M ++ [(((plusAll n (CL.take i)).A.words.length : Int), cv)] := by
    unfold mput; rw [(mfind_none _ _).2 hnotin]
  rw [hput] at hm4
  have s12 := hf12.size
  have s4 := hf4.size
  have hmlt : mb < w3.heap.size := by have := hx.mp.lt; omega
  have hblk : ∀ b, b < w3.heap.size → b ≠ mb → w4.heap[b]? = w3.heap[b]? := fun b hb hne => hf4.block b hb (by rw [if_neg hne]; decide)
  have hfo : Fr (fun r => r = 0) o2 o2 w3 w4 := ⟨hf4.os, hf4.tape, hf4.output, hf4.size, fun _ _ => rfl, fun b hb hne => hblk b hb (by
    rintro rfl
    have := hf12.role b hx.mp.lt
    exact hne (this.trans hx.zm.2))⟩
  -- lists lie in blocks of cells
  have hcell : ∀ {b : Nat} {u : Value} {off : Nat} , w3.cell? ⟨b, off, none⟩ = some u → IMap w3 mb M → b ≠ mb := by
    rintro b u off h ⟨es, cl, hb, _⟩ rfl
    unfold World.cell? at h
    simp [hb] at h
  have hM3 : IMap w3 mb M := hx.mp.blk (hf12.block mb hx.mp.lt (by rw [hx.zm.2]; exact fun h => h rfl))
  have klist : ∀ {u : Value} {d : List Int}, Rl wr (fun b => w.heap.size ≤ b ∧ o b = 0) u d → Rl w4 (fun b => w.heap.size ≤ b ∧ o2 b = 0) u d := by
    intro u d h
    have h3 : Rl w3 (fun b => w.heap.size ≤ b ∧ o2 b = 0) u d := h.keeps fun b hb hz => ⟨hf12.block b hb (by rw [hz.2]; exact fun h => h rfl), hz.1, (hf12.role b hb).trans hz.2⟩
    rcases h3 with h3 | ⟨b, off, cap, e, hc, hz, hcl⟩
    · exact .inl h3
    · refine .inr ⟨b, off, cap, e, hc, hz, fun j x hj => ?_⟩
      have h5 := hcl j x hj
      rw [World.cell?_of_block (w := w3)]
      · exact h5
      · exact hblk b (World.block_lt_of_cell? w3 _ h5) (hcell h5 hM3)
  have hX3 := hx.hx
  have hxlt := (Array.getElem?_eq_some_iff.1 hX3).1
  have ho2x : o2 xb = 0 := (hf12.role xb hxlt).trans hx.zx.2
  have ho2m : o2 mb = 0 := (hf12.role mb hx.mp.lt).trans hx.zm.2
  have hlen := hx.len
  have hno2 : New o2 w1.heap.size := hno.fr hf12 hsame.size
  refine ⟨⟨i + 1, lb, lvs, o2, _, hiv, hk, hs.keeps hfo (hs.cl.size s4) (fun r hr h => hr h), hno2, ⟨?_, ⟨hx.zx.1, ho2x⟩, hm4, ⟨hx.zm.1, ho2m⟩, ?_, ?_⟩, ?_, ?_⟩, ?_⟩
  · rw [hblk xb (by omega) hxm, hf12.block xb hxlt (by rw [hx.zx.2]; exact fun h => h rfl)]; exact hX3
  · rw [hts, List.length_append, List.length_append, hlen]; rfl
  · intro j d hj
    rw [hts] at hj
    rcases Nat.lt_or_ge j (CL.take i).length with h1 | h1
    · rw [List.getElem?_append_left h1] at hj
      obtain ⟨r, u, e, hr⟩ := hx.ls j d hj
      exact ⟨r, u, by rw [List.getElem?_append_left (by omega)]; exact e, klist hr⟩
    · rw [List.getElem?_append_right h1] at hj
      have h2 : j - (CL.take i).length = 0 := by
        rcases Nat.lt_or_ge (j - (CL.take i).length) 1 with h5 | h5
        · omega
        · rw [List.getElem?_eq_none (by simpa using h5)] at hj; cases hj
      rw [h2] at hj
      simp at hj
      subst hj
      refine ⟨((plusAll n (CL.take i)).A.words.length : Int), cv, ?_, klist hcv⟩
      rw [List.getElem?_append_right (by omega)]
      have : j - M.length = 0 := by omega
      rw [this]; rfl
  · intro p hp
    rcases List.mem_append.1 hp with hp | hp
    · have := hlo p hp; omega
    · simp at hp; subst hp; simp; exact hwl
  · rcases hrm with h | ⟨b, off, cap, e, hc, hz, hcl⟩
    · exact .inl h
    · refine .inr ⟨b, off, cap, e, hc, fun hp => ?_, fun j d hj => ?_⟩
      · obtain ⟨u, h5, _⟩ := hcl 0 _ (List.getElem?_eq_getElem hp)
        exact ⟨(hz hp).1, (hf12.role b (World.block_lt_of_cell? wr _ h5)).trans (hz hp).2⟩
      · obtain ⟨u, h5, h6⟩ := hcl j d hj
        have hp : 0 < CL.length := by have := (List.getElem?_eq_some_iff.1 hj).1; omega
        refine ⟨u, ?_, klist h6⟩
        have hb := World.block_lt_of_cell? wr _ h5
        have h7 : w3.cell? ⟨b, off + j, none⟩ = some u := by
          rw [World.cell?_of_block (w := wr)]
          · exact h5
          · exact hf12.block b hb (by rw [(hz hp).2]; exact fun h => h rfl)
        rw [World.cell?_of_block (w := w3)]
        · exact h7
        · exact hblk b (World.block_lt_of_cell? w3 _ h7) (hcell h7 hM3)
  · have h13 := hnew1 hf12
    exact ⟨hf4.os.trans h13.os, hf4.tape.trans h13.tape, hf4.output.trans h13.output, by have := h13.size; omega, fun _ _ => rfl, fun b hb hn => (hblk b (by have := h13.size; omega) (by omega)).trans (h13.block b hb hn)⟩

set_option maxHeartbeats 4000000 in
set_option maxRecDepth 100000 in
theorem begin_any {Z : Nat → Prop} (v : Value) (n : Nat) (L : List (List Int)) (w : World) (h : Rm w Z v L) (hn : n ≤ 1000) (hL : ∀ c ∈ L, ∀ l ∈ c, litIn l n = true) (h12 : ∀ c ∈ L, c.length ≤ 12) (hLl : L.length ≤ 1000) :
    Calls Try.prog 18 #[.agg #[.int .i64 n, v]] w (BeginPost w n (normF L)) := by
  have H := Lib.hid h
  obtain ⟨a, cap, rfl⟩ := h.form
  clear h
  go_enter Try.func18, Try.ntmps18
  go_upto_region 1 with fail
  generalize hW : w.alloc (.cells #[.int .i64 n, .slice a L.length cap] 30) = w1
  have hc0 : w1.cell? ⟨w.heap.size, 0, none⟩ = some (.int .i64 n) := by rw [← hW]; simp
  have hc1 : w1.cell? ⟨w.heap.size, 1, none⟩ = some (.slice a L.length cap) := by rw [← hW]; simp
  have hs1 : Same w w1 := by rw [← hW]; exact Fr.alloc0 _
  have hsz1 : w.heap.size < w1.heap.size := by rw [← hW]; simp
  have HS1 := Lib.hid hs1
  clear hW hs1
  go_cut [3] (fun s3 wx => Beg1 w1 n s3 wx)
  case first =>
    have hmm := @run_makeMap Try.prog
    go_region_held3 (fun w' => w'.cell? ⟨w.heap.size, 0, none⟩ = some (.int .i64 n)) (first | go_keep | exact cell_same (Fr.alloc0 _) (by assumption) | assumption) (first
      | (go_at_call 52; refine (newArena _).mono ?_; rintro e wa ⟨ab, pa, rfl, har, hca, hna, hsa⟩; have ca := cell_same hsa (by assumption : World.cell? _ ⟨w.heap.size, 0, none⟩ = some (.int .i64 n)))
      | (go_at_call 53; refine (newTrail n _ (by omega)).mono ?_; rintro e wt ⟨tb, pt, rfl, htr, hct, hnt, hst⟩; have ct := cell_same hst (by assumption : World.cell? _ ⟨w.heap.size, 0, none⟩ = some (.int .i64 n))))
    all_goals go_wp2_with fail
    all_goals go_meet
    all_goals
      have z1 := HS1.out.size
      have z2 := hsa.size
      have z3 := hst.size
      simp at z2 z3
    · exact Beg1.of (Fr.sm (Sm.drew _)) har hca hna hsa (Fr.refl _ _ _) htr hct hnt hst ((Fr.alloc0 (.map #[] 0)).trans (Fr.alloc0 _)) (by simpa using heap_alloc_new (wt.alloc (.map #[] 0)) _) (map_at (by rw [heap_alloc_old _ _ (by simp)]; exact heap_alloc_new wt _)) (hca _ (by omega)) (hct _ (Nat.le_refl _)) (by omega) (by omega) (by omega)
    · exact Beg1.of (Fr.sm (Sm.drew _)) har hca hna hsa (Fr.alloc0 (.map #[] 0)) htr hct (by simpa using hnt) hst (Fr.alloc0 _) (heap_alloc_new wt _) (map_at (by rw [heap_alloc_old _ _ (by omega), hst.block _ (by simp) id]; exact heap_alloc_new wa _)) (hca _ (Nat.le_refl _)) (hnt _ (by simp)) (Nat.le_refl _) (by omega) (by omega)
    · exact Beg1.of ((Fr.alloc0 (.map #[] 0)).trans (Fr.sm (Sm.drew _))) har hca hna hsa (Fr.refl _ _ _) htr hct hnt hst (Fr.alloc0 _) (heap_alloc_new wt _) (map_at (by rw [heap_alloc_old _ _ (by omega), hst.block _ (by omega) id, hsa.block _ (by simp) id]; exact heap_alloc_new w1 _)) (hna _ (by simp)) (hnt _ (by omega)) (Nat.le_refl _) (by omega) (by omega)
  case rest =>
    obtain ⟨ab, tb, xb, mb, pa, pt, rfl, har, hca, hna, htr, hct, hnt, hd, hx, hm, hxn, hmn, hpx, hptx, hpm, hptm, hne, hs0⟩ := hcut
    have cb0 := cell_same hs0 hc0
    have cb1 := cell_same hs0 hc1
    have cx0 := cell_of_row _ xb 0 _ 41 _ hx
    have cx1 := cell_of_row _ xb 1 _ 41 _ hx
    have cx2 := cell_of_row _ xb 2 _ 41 _ hx
    have fx2 := frozen_of_row _ xb 2 _ 41 hx
    have HAR := Lib.hid har
    have HCA := Lib.hid hca
    have HNA := Lib.hid hna
    have HTR := Lib.hid htr
    have HCT := Lib.hid hct
    have HNT := Lib.hid hnt
    have HD := Lib.hid hd
    have HX := Lib.hid hx
    have HM := Lib.hid hm
    have HPP := Lib.hid (And.intro hpx (And.intro hptx (And.intro hpm hptm)))
    have HS0 := Lib.hid hs0
    clear har hca hna htr hct hnt hd hx hm hpx hptx hpm hptm hs0
    have hbx : w.heap.size ≠ xb := by omega
    have hbx2 : xb ≠ w.heap.size := by omega
    go_upto_region 4 with fail
    go_cut [] (fun wx => Beg2 w1 n xb mb ab tb wx)
    case first =>
      go_region_held3 (fun w' => w'.cell? ⟨w.heap.size, 0, none⟩ = some (.int .i64 n) ∧ w'.cell? ⟨xb, 0, none⟩ = some (.pointer (some ⟨ab, 0, none⟩)) ∧ w'.cell? ⟨xb, 1, none⟩ = some (.pointer (some ⟨tb, 0, none⟩))) (first | (exact ⟨‹_›, ‹_›, ‹_›⟩) | (exact ⟨E0 _, E1 _, E2 _⟩))
        ((go_at_call 54; refine (newWatch ab tb n _ (by omega)).mono ?_; rintro e w2 ⟨wb, lb, lvs, pv, pw, rfl, hwt, hcw, hnw, hsw⟩; have d0 := cell_same hsw (by assumption : World.cell? _ ⟨w.heap.size, 0, none⟩ = some (.int .i64 n)); have d1 := cell_same hsw (by assumption : World.cell? _ ⟨xb, 0, none⟩ = some (.pointer (some ⟨ab, 0, none⟩))); have d2 := cell_same hsw (by assumption : World.cell? _ ⟨xb, 1, none⟩ = some (.pointer (some ⟨tb, 0, none⟩))); have hx2 := (hsw.block xb (by exact (Array.getElem?_eq_some_iff.1 HX.out).1) id).trans HX.out; have d3 := cell_of_row _ xb 2 _ 41 _ hx2; have d4 := frozen_of_row _ xb 2 _ 41 hx2; have E0 : ∀ v, (w2.setCell ⟨xb, 2, none⟩ v).cell? ⟨w.heap.size, 0, none⟩ = some (.int .i64 n) := fun v => (World.cell?_setCell_other _ _ _ _ (by simp)).trans d0; have E1 : ∀ v, (w2.setCell ⟨xb, 2, none⟩ v).cell? ⟨xb, 0, none⟩ = some (.pointer (some ⟨ab, 0, none⟩)) := fun v => (World.cell?_setCell_other _ _ _ _ (by simp)).trans d1; have E2 : ∀ v, (w2.setCell ⟨xb, 2, none⟩ v).cell? ⟨xb, 1, none⟩ = some (.pointer (some ⟨tb, 0, none⟩)) := fun v => (World.cell?_setCell_other _ _ _ _ (by simp)).trans d2))
      all_goals
        go_wp2_with fail
        go_meet
        obtain ⟨p1, p2, p3, p4⟩ := HPP.out
        exact Beg2.of HAR.out HCA.out HNA.out HTR.out HCT.out HNT.out HD.out HX.out HM.out hxn p1 p2 p3 p4 hne HS0.out hwt hcw hnw ((Fr.sm (Sm.drew _)).trans hsw) rfl
    case rest =>
      obtain ⟨wb, lb, lvs, o, hsys, hno, hx2, hm2, hox, hom, hs2⟩ := hcut
      clear HAR HCA HNA HTR HCT HNT HD HX HM HPP HS0 cx0 cx1 cx2 fx2 cb0 cb1
      have cb0 := cell_same hs2 hc0
      have cb1 := cell_same hs2 hc1
      have cx2 := cell_of_row _ xb 2 _ 41 _ hx2
      have hnz : ∀ c ∈ L, ∀ l ∈ c, l ≠ 0 ∧ -100000 ≤ l ∧ l ≤ 100000 := by
        intro c hc l hl
        have := litIn_iff.1 (hL c hc l hl); omega
      have HNZ := Lib.hid hnz
      have hok := normF_ok hL h12
      have HOK := Lib.hid hok
      have H12 := Lib.hid h12
      have hCLl : (normF L).length ≤ 1000 := Nat.le_trans (normF_len L) hLl
      have HSYS := Lib.hid hsys
      have HNO := Lib.hid hno
      have HX2 := Lib.hid hx2
      have HM2 := Lib.hid hm2
      have HOX := Lib.hid hox
      have HOM := Lib.hid hom
      have HS2 := Lib.hid hs2
      clear hnz hok hsys hno hx2 hm2 hox hom hs2 hL h12
      go_wp2_with fail
      refine (nformula_any (.int .i64 n) _ L _ _ (H.out.same (HS1.out.trans HS2.out)) HNZ.out H12.out (by omega)).mono ?_
      rintro e wq ⟨hv, pq, rfl, hmq, hcq, hnq, hsq⟩
      have hrm := hmq.rm hnq
      obtain ⟨qa, qcap, rfl⟩ := hmq.form
      have HSQ := Lib.hid hsq
      have HRM := Lib.hid hrm
      clear hmq hcq hnq hsq hrm cb0 cb1 cx2 H12 HNZ H
      generalize hCL : normF L = CL at *
      clear hCL
      go_wp2
      go_loopg [7, 8, 9, 55] (CL.length) (fun k _ _ _ i wr => BegRel w w1 n xb mb ab tb wb CL (.slice qa CL.length qcap) k i wr)
      case atStart =>
        have z1 := HS1.out.size
        have z2 := HS2.out.size
        have hcl := HSYS.out.cl
        refine ⟨⟨0, lb, lvs, o, [], rfl, by omega, HSYS.out.keeps (HSQ.out.any (fun _ => False) o) (hcl.size HSQ.out.size) (fun _ _ => id), HNO.out, ?_, by simp, ?_⟩, HS2.out.trans HSQ.out⟩
        · refine ⟨(HSQ.out.block xb (Array.getElem?_eq_some_iff.1 HX2.out).1 id).trans HX2.out, ⟨by omega, HOX.out⟩, HM2.out.blk (HSQ.out.block mb HM2.out.lt id), ⟨by omega, HOM.out⟩, rfl, by simp⟩
        · exact HRM.out.mono fun b _ hb => ⟨by omega, hcl b hb⟩
      case round =>
        obtain ⟨⟨i, lb, lvs, o, M, rfl, hik, hsys, hno, hx, hlo, hrm⟩, hsame⟩ := hrel
        have HIK := Lib.hid hik
        have HNO := Lib.hid hno
        have HXA := Lib.hid hx
        have HLO := Lib.hid hlo
        have HRM := Lib.hid hrm
        have HSAME := Lib.hid hsame
        have hB := built_all (n := n) (by omega) CL HOK.out.1 HOK.out.2.1 HOK.out.2.2 i (by omega)
        have HB := Lib.hid hB
        have HSYS2 := Lib.hid hsys
        clear hik hno hlo hrm hsame hB
        by_cases hlt : i < CL.length
        · obtain ⟨k', rfl⟩ : ∃ k', gk = k' + 1 := ⟨gk - 1, by have := HIK.out; omega⟩
          obtain ⟨b, off, cap', e1, _, _, hc⟩ := HRM.out.block (by omega)
          simp only [Value.slice.injEq] at e1
          obtain ⟨rfl, _, rfl⟩ := e1
          obtain ⟨cv, hcell, hrl⟩ := hc i hlt
          have hcm : CL.getD i [] ∈ CL := getDL_mem hlt
          have hts : CL.take (i + 1) = CL.take i ++ [CL.getD i []] := by rw [List.take_succ_eq_append_getElem hlt, List.getD_eq_getElem?_getD, List.getElem?_eq_getElem hlt]; rfl
          have hcok : (CL.getD i []).Nodup ∧ (∀ l ∈ CL.getD i [], litIn l n = true) ∧ (CL.getD i []).length ≤ 12 := ⟨HOK.out.1 _ hcm, HOK.out.2.1 _ hcm, HOK.out.2.2 _ hcm⟩
          have hlen12 := hcok.2.2
          have HTS := Lib.hid hts
          have HCOK := Lib.hid hcok
          have HRL := Lib.hid hrl
          have cx0 := cell_of_row _ xb 0 _ 41 _ hx.hx
          clear hts hc hcm hcok hrl hx
          generalize CL.getD i [] = c at *
          obtain ⟨ca, ccap, rfl⟩ := HRL.out.form
          obtain ⟨wv, amb, har⟩ := hsys.ar
          have HAR := Lib.hid har
          have hwl : (plusAll n (CL.take i)).A.words.length ≤ 15000 := by have h1 := HB.out.words; rw [List.length_take] at h1; omega
          clear har hsys
          generalize hS : plusAll n (CL.take i) = S at *
          have HS := Lib.hid hS
          clear hS
          go_wp2_with fail
          refine (addc_any _ c _ HAR.out HSYS2.out.cl HB.out.lim (HRL.out.rd fun b hb => hb.2) (by omega)).mono ?_
          rintro e w2 ⟨rfl, hpa⟩
          obtain ⟨o1, hs1, hf1⟩ := HSYS2.out.arena hpa
          have hx1 := (hf1.keeps HXA.out.hx (by rw [HXA.out.zx.2]; exact fun h => h rfl)).1
          have cy2 := cell_of_row _ xb 2 _ 41 _ hx1
          have HS1' := Lib.hid hs1
          have HF1 := Lib.hid hf1
          clear hpa hs1 hf1 hx1
          have hT : S.T.vars.length = n := by rw [HB.out.T]; simp [TS.empty]
          have hhas : ({ S with A := S.A.add c false 0 } : SS).A.has S.A.words.length = true := has_plus _ _ _ _
          have hll : ∀ l ∈ ({ S with A := S.A.add c false 0 } : SS).A.lits S.A.words.length, ({ S with A := S.A.add c false 0 } : SS).T.ok l = true := by
            intro l hl
            have : (S.A.add c false 0).lits S.A.words.length = c := lits_plus _ _ _ _
            have hl' : l ∈ (S.A.add c false 0).lits S.A.words.length := hl
            rw [this] at hl'
            show litIn l S.T.vars.length = true
            rw [hT]; exact HCOK.out.2.1 l hl'
          have hl2 : ({ S with A := S.A.add c false 0 } : SS).W.lists.length = 2 * ({ S with A := S.A.add c false 0 } : SS).T.vars.length := HB.out.safe.lists
          have htl : ∀ j, (({ S with A := S.A.add c false 0 } : SS).W.lists.getD j []).length ≤ 100000000 := by
            intro j
            have h1 := tot_get S.W.lists j
            have h2 := HB.out.tot
            rw [List.length_take] at h2
            show (S.W.lists.getD j []).length ≤ _
            omega
          have hpl : ({ S with A := S.A.add c false 0 } : SS).W.pend.length ≤ 100000000 := by
            have h2 := HB.out.pend
            rw [List.length_take] at h2
            show S.W.pend.length ≤ _
            omega
          have HH := Lib.hid (And.intro hhas (And.intro hll (And.intro hl2 (And.intro htl hpl))))
          clear hT hhas hll hl2 htl hpl
          go_wp2_with fail
          refine (attach_yes _ _ HS1'.out HH.out.1 HH.out.2.1 HH.out.2.2.1 HH.out.2.2.2.1 HH.out.2.2.2.2).mono ?_
          rintro e w3 ⟨rfl, lvs3, o3, hs3, hf3⟩
          have hz := HXA.out.zx.2
          have hx3 := (hf3.keeps ((HF1.out.keeps HXA.out.hx (by rw [hz]; exact fun h => h rfl)).1) (by rw [HF1.out.role xb (Array.getElem?_eq_some_iff.1 HXA.out.hx).1, hz]; exact fun h => h rfl)).1
          have cz3 := cell_of_row _ xb 3 _ 41 _ hx3
          have hm3 : IMap w3 mb M := (HXA.out.mp.blk (HF1.out.block mb HXA.out.mp.lt (by rw [HXA.out.zm.2]; exact fun h => h rfl))).blk (hf3.block mb (Nat.lt_of_lt_of_le HXA.out.mp.lt HF1.out.size) (by rw [HF1.out.role mb HXA.out.mp.lt, HXA.out.zm.2]; exact fun h => h rfl))
          have HM3 := Lib.hid hm3
          have HS3 := Lib.hid hs3
          have HF3 := Lib.hid hf3
          clear hs3 hf3 hx3 hm3 hz
          go_wp2_with
            (at_mapUpdate
             refine imapUpdate_list (S := fun r => r = 99) (O := fun b => if b = mb then 99 else 0) rfl HM3.out Try.underlying39 Try.underlying3 (.tmp 82) (.tmp 83) (.tmp 84) rfl rfl rfl rfl (by simp) ?_
             intro w4 hm4 hf4
             have HM4 := Lib.hid hm4
             have HF4 := Lib.hid hf4
             clear hm4 hf4)
          go_roundg k'
          case measure => have := HIK.out; omega
          case rel =>
            have hS := HS.out
            subst hS
            refine BegRel.next (i := i) (c := c) (w2 := w2) (w3 := w3) (wr := wr) (o := o) (o1 := o1) (o2 := o3) (lb := lb) (lvs := lvs3) (M := M) (cv := .slice ca c.length ccap) ?_ HNO.out HXA.out HLO.out HRM.out HSAME.out HS1.out.size HF1.out HF3.out HM4.out HF4.out hmn hne HTS.out HRL.out ?_ (by go_num) (by have := HIK.out; omega) ?_
            · rw [HTS.out, plusAll_snoc]; exact HS3.out
            · rw [HTS.out, plusAll_snoc, (plus_spec _ c).words]; omega
            · intro hf
              exact HSAME.out.thenNew hf HNO.out (fun h => h rfl)
        · have hi : i = CL.length := by have := HIK.out; omega
          subst hi
          have hni : (CL.length : Int) ≤ (CL.length : Int) := Int.le_refl _
          have e1 : CL.take CL.length = CL := List.take_length
          have hs := HSYS2.out
          have hxx := HXA.out
          rw [e1] at hs hxx
          have HSF := Lib.hid hs
          have HXF := Lib.hid hxx
          clear hs hxx e1 hsys hx
          go_wp2
          go_ret
          exact ⟨xb, ab, tb, wb, lb, lvs, o, mb, M, rfl, HSF.out, HNO.out.mono HS1.out.size, HXF.out, HS1.out.trans HSAME.out⟩
end Go.Proofs.Ytpjiemffkkfbkaa
