/- Words for memory that a program keeps: who owns which block, and what a block holds. Nothing of a program is named here. -/
import Derived.WalkKit
import Derived.WalkSmall
import Derived.Lib.Hide
import Derived.Deep.AppendLies
namespace Go.Proofs.Ytpjiemffkkfbkaa
open Go.RowKit

/-- Nothing but the count of draws has turned. -/
def Sm (w w' : World) : Prop := ∃ k, w' = w.drewN k

theorem Sm.refl (w : World) : Sm w w := ⟨0, rfl⟩
theorem Sm.trans {a b c : World} (h : Sm a b) (k : Sm b c) : Sm a c := by
  obtain ⟨i, rfl⟩ := h; obtain ⟨j, rfl⟩ := k; exact ⟨i + j, World.drewN_drewN ..⟩
theorem Sm.dd (w : World) (a n : Nat) : Sm w ((w.drewN a).drewN n) := ⟨a + n, World.drewN_drewN ..⟩
theorem Sm.heap {w w' : World} (h : Sm w w') : w'.heap = w.heap := by obtain ⟨k, rfl⟩ := h; rfl
theorem Sm.drew (w : World) : Sm w w.drew := ⟨1, rfl⟩

/-- The roles: a number for each block; 0: none of these. -/
abbrev Own := Nat → Nat

/-- What has turned between two worlds: blocks of the roles in S alone, and new ones. -/
structure Fr (S : Nat → Prop) (o o' : Own) (w w' : World) : Prop where
  os : w'.os = w.os
  tape : w'.tape = w.tape
  output : w'.output = w.output
  size : w.heap.size ≤ w'.heap.size
  role : ∀ k, k < w.heap.size → o' k = o k
  block : ∀ k, k < w.heap.size → ¬ S (o k) → w'.heap[k]? = w.heap[k]?

/-- Beyond the heap there are no roles. -/
def Cl (o : Own) (w : World) : Prop := ∀ k, w.heap.size ≤ k → o k = 0

theorem Fr.refl (S : Nat → Prop) (o : Own) (w : World) : Fr S o o w w :=
  ⟨rfl, rfl, rfl, Nat.le_refl _, fun _ _ => rfl, fun _ _ _ => rfl⟩

theorem Fr.trans {S : Nat → Prop} {a b c : Own} {u v w : World} (h : Fr S a b u v) (k : Fr S b c v w) : Fr S a c u w where
  os := k.os.trans h.os
  tape := k.tape.trans h.tape
  output := k.output.trans h.output
  size := Nat.le_trans h.size k.size
  role := fun i hi => (k.role i (Nat.lt_of_lt_of_le hi h.size)).trans (h.role i hi)
  block := fun i hi hs => (k.block i (Nat.lt_of_lt_of_le hi h.size) (by rw [h.role i hi]; exact hs)).trans (h.block i hi hs)

theorem Fr.mono {S T : Nat → Prop} {o o' : Own} {w w' : World} (h : Fr S o o' w w') (hs : ∀ r, S r → T r) : Fr T o o' w w' :=
  ⟨h.os, h.tape, h.output, h.size, h.role, fun k hk ht => h.block k hk fun c => ht (hs _ c)⟩

theorem Fr.sm {S : Nat → Prop} {o : Own} {w w' : World} (h : Sm w w') : Fr S o o w w' := by
  obtain ⟨k, rfl⟩ := h
  exact ⟨rfl, rfl, rfl, Nat.le_refl _, fun _ _ => rfl, fun _ _ _ => rfl⟩

theorem Cl.sm {o : Own} {w w' : World} (h : Cl o w) (hs : Sm w w') : Cl o w' := by
  intro k hk; rw [hs.heap] at hk; exact h k hk

/-- A block keeps what it holds where its role is none of S. -/
theorem Fr.keeps {S : Nat → Prop} {o o' : Own} {w w' : World} (h : Fr S o o' w w') {k : Nat} {x : Obj} (hb : w.heap[k]? = some x) (hs : ¬ S (o k)) :
    w'.heap[k]? = some x ∧ o' k = o k := by
  have hk : k < w.heap.size := (Array.getElem?_eq_some_iff.1 hb).1
  exact ⟨(h.block k hk hs).trans hb, h.role k hk⟩

/-- A new block. -/
theorem Fr.alloc {S : Nat → Prop} {o : Own} {w : World} (x : Obj) (r : Nat) :
    Fr S o (fun k => if k = w.heap.size then r else o k) w (w.alloc x) where
  os := rfl
  tape := rfl
  output := rfl
  size := by simp
  role := fun k hk => by simp; omega
  block := fun k hk _ => heap_alloc_old w x hk

theorem Cl.alloc {o : Own} {w : World} (h : Cl o w) (x : Obj) (r : Nat) : Cl (fun k => if k = w.heap.size then r else o k) (w.alloc x) := by
  intro k hk
  simp at hk
  have := h k (by omega)
  show ite _ _ _ = 0; rw [if_neg (by omega)]; exact this

/-- A new block of nobody's. -/
theorem Fr.alloc0 {S : Nat → Prop} {o : Own} {w : World} (x : Obj) : Fr S o o w (w.alloc x) where
  os := rfl
  tape := rfl
  output := rfl
  size := by simp
  role := fun k hk => rfl
  block := fun k hk _ => heap_alloc_old w x hk

theorem Cl.alloc0 {o : Own} {w : World} (h : Cl o w) (x : Obj) : Cl o (w.alloc x) := by
  intro k hk
  simp at hk
  exact h k (by omega)

/-- A store into a block of a role in S. -/
theorem Fr.setCell {S : Nat → Prop} {o : Own} {w : World} (a : Addr) (v : Value) (hs : S (o a.block)) : Fr S o o w (w.setCell a v) where
  os := rfl
  tape := rfl
  output := rfl
  size := by simp
  role := fun _ _ => rfl
  block := fun k hk hn => heap_setCell_other w a k v (fun e => hn (e ▸ hs))

theorem Cl.setCell {o : Own} {w : World} (h : Cl o w) (a : Addr) (v : Value) : Cl o (w.setCell a v) := by
  intro k hk; simp at hk; exact h k hk

/-- What an append leaves: one role's row may have moved. -/
theorem Fr.grown {S : Nat → Prop} {o : Own} {w w' : World} {row : Option Nat} (r : Nat) (hg : w.grownBy w' row) (hs : ∀ k, row = some k → S (o k)) :
    Fr S o (fun k => if w.heap.size ≤ k ∧ k < w'.heap.size then r else o k) w w' where
  os := hg.os
  tape := hg.tape
  output := hg.output
  size := hg.size
  role := fun k hk => by simp; omega
  block := fun k hk hn => hg.block k hk (fun e => hn (hs k e.symm))

theorem Cl.grown {o : Own} {w w' : World} {row : Option Nat} (h : Cl o w) (r : Nat) (hg : w.grownBy w' row) :
    Cl (fun k => if w.heap.size ≤ k ∧ k < w'.heap.size then r else o k) w' := by
  intro k hk
  have := hg.size
  have := h k (by omega)
  show ite _ _ _ = 0; rw [if_neg (by omega)]; exact this

/-- Two owners share no block. -/
def Dj (o p : Own) : Prop := ∀ b, o b = 0 ∨ p b = 0
theorem Dj.symm {o p : Own} (h : Dj o p) : Dj p o := fun b => (h b).symm
theorem Dj.zero (o : Own) : Dj o (fun _ => 0) := fun _ => .inr rfl

/-- What the one owner writes is none of the other's. -/
theorem Fr.other {S : Nat → Prop} {o o' p : Own} {w w' : World} (h : Fr S o o' w w') (hd : Dj o p) (h0 : ¬ S 0) : Fr (fun r => r = 0) p p w w' :=
  ⟨h.os, h.tape, h.output, h.size, fun _ _ => rfl, fun k hk hs => h.block k hk ((hd k).elim (fun e => by rw [e]; exact h0) (fun e => absurd e hs))⟩
theorem Dj.fr {S : Nat → Prop} {o o' p : Own} {w w' : World} (hd : Dj o p) (h : Fr S o o' w w') (hc : Cl p w) : Dj o' p := by
  intro b
  rcases Nat.lt_or_ge b w.heap.size with hb | hb
  · rw [h.role b hb]; exact hd b
  · exact .inr (hc b hb)
theorem Cl.size {p : Own} {w w' : World} (hc : Cl p w) (h : w.heap.size ≤ w'.heap.size) : Cl p w' := fun k hk => hc k (by omega)
/-- Nothing of an older world. -/
def New (p : Own) (n : Nat) : Prop := ∀ b, b < n → p b = 0
theorem New.fr {S : Nat → Prop} {p p' : Own} {w w' : World} {n : Nat} (h : New p n) (hf : Fr S p p' w w') (hn : n ≤ w.heap.size) : New p' n :=
  fun b hb => (hf.role b (by omega)).trans (h b hb)
theorem New.mono {p : Own} {n m : Nat} (h : New p n) (hm : m ≤ n) : New p m := fun b hb => h b (by omega)
/-- Who owns nothing of the old world may write what he likes. -/
theorem Fr.new {S : Nat → Prop} {p p' o : Own} {w w' : World} (h : Fr S p p' w w') (hn : New p w.heap.size) (h0 : ¬ S 0) (T : Nat → Prop) : Fr T o o w w' :=
  ⟨h.os, h.tape, h.output, h.size, fun _ _ => rfl, fun k hk _ => h.block k hk (by rw [hn k hk]; exact h0)⟩
/-- .. in the middle of things. -/
theorem Fr.thenNew {S T : Nat → Prop} {p p' o o' : Own} {w0 w w' : World} (hf : Fr T o o' w0 w) (h : Fr S p p' w w') (hn : New p w0.heap.size) (h0 : ¬ S 0) : Fr T o o' w0 w' where
  os := h.os.trans hf.os
  tape := h.tape.trans hf.tape
  output := h.output.trans hf.output
  size := Nat.le_trans hf.size h.size
  role := hf.role
  block := fun k hk hs => (h.block k (Nat.lt_of_lt_of_le hk hf.size) (by rw [hn k hk]; exact h0)).trans (hf.block k hk hs)
/-- Nothing old has turned: so for every owner. -/
theorem Fr.any {p : Own} {w w' : World} (h : Fr (fun _ => False) p p w w') (S : Nat → Prop) (o : Own) : Fr S o o w w' :=
  ⟨h.os, h.tape, h.output, h.size, fun _ _ => rfl, fun k hk _ => h.block k hk id⟩
/-- All old blocks are as they were. -/
abbrev Same (w w' : World) : Prop := Fr (fun _ => False) (fun _ => 0) (fun _ => 0) w w'
theorem Same.thenNew {S : Nat → Prop} {p p' : Own} {w0 w w' : World} (hf : Same w0 w) (h : Fr S p p' w w') (hn : New p w0.heap.size) (h0 : ¬ S 0) : Same w0 w' := Fr.thenNew hf h hn h0
theorem Cl.zero (w : World) : Cl (fun _ => 0) w := fun _ _ => rfl

/-- A row (a slice that begins at the head of its block), of a role. -/
def Row (w : World) (o : Own) (r : Nat) (e : TypeId) (size : Nat) (v : Value) (n : Nat) (xs : List Value) : Prop :=
  w.ownsRow 0 e size v n xs ∧ ∀ g, v.ownBlock = some g → o g = r

section
variable {w w' : World} {o o' : Own} {r : Nat} {e : TypeId} {size : Nat} {v : Value} {n : Nat} {xs : List Value}

theorem Row.keeps {S : Nat → Prop} (h : Row w o r e size v n xs) (hf : Fr S o o' w w') (hs : ¬ S r) : Row w' o' r e size v n xs := by
  obtain ⟨⟨h1, h2⟩, h3⟩ := h
  rcases h2 with h2 | ⟨g, cap, cur, rfl, hb, hg, hr⟩
  · refine ⟨⟨h1, .inl h2⟩, fun g hg => ?_⟩
    rw [h2.1] at hg; cases hg
  · have hk := hf.keeps hg (by rw [h3 g rfl]; exact hs)
    refine ⟨⟨h1, .inr ⟨g, cap, cur, rfl, hb, hk.1, hr⟩⟩, fun g' hg' => ?_⟩
    simp only [Value.ownBlock, Option.some.injEq] at hg'
    subst hg'
    rw [hk.2]; exact h3 g rfl

theorem Row.nil (w : World) (o : Own) (r : Nat) (e : TypeId) (size : Nat) : Row w o r e size (.slice none 0 0) 0 [] :=
  ⟨World.ownsRow_nil w 0 e size, fun g hg => by cases hg⟩

/-- A row's value, written out. -/
theorem Row.form (h : Row w o r e size v n xs) : ∃ a cap, v = .slice a n cap := by
  rcases h.1.2 with ⟨rfl, hn⟩ | ⟨g, cap, cur, rfl, _⟩
  · exact ⟨none, 0, by rw [hn]⟩
  · exact ⟨_, cap, rfl⟩

theorem Row.len (h : Row w o r e size v n xs) : xs.length = n * size := h.1.1

/-- A row's block, where it has an element. -/
theorem Row.block (h : Row w o r e size v n xs) (hn : 0 < n) :
    ∃ g cap, v = .slice (some ⟨g, 0, none⟩) n cap ∧ n ≤ cap ∧ o g = r ∧ g < w.heap.size ∧ (∀ i, i < n * size → w.cell? ⟨g, i, none⟩ = xs[i]?) ∧ (∀ i, w.frozen? ⟨g, i, none⟩ = false) := by
  rcases h.1.2 with ⟨_, hn'⟩ | ⟨g, cap, cur, rfl, _, hg, hc, _, hs, ht⟩
  · omega
  · refine ⟨g, cap, rfl, hc, h.2 g rfl, (Array.getElem?_eq_some_iff.1 hg).1, fun i hi => ?_, fun i => frozen_of_row w g i cur e hg⟩
    exact World.ownsRow.cellAt h.1 i hi

/-- A cell of a row is written. -/
theorem Row.set {g cap : Nat} (h : Row w o r e size (.slice (some ⟨g, 0, none⟩) n cap) n xs) (i : Nat) (x : Value) :
    Row (w.setCell ⟨g, i, none⟩ x) o r e size (.slice (some ⟨g, 0, none⟩) n cap) n (xs.set i x) := by
  rcases h.1.2 with ⟨h', _⟩ | ⟨g', cap', cur, h', hb, hg, hc, hm, hs, ht⟩
  · simp at h'
  · simp only [Value.slice.injEq, Option.some.injEq, Addr.mk.injEq, and_true, true_and] at h'
    obtain ⟨rfl, rfl⟩ := h'
    refine ⟨⟨by simpa using h.1.1, .inr ⟨g, cap, cur.setIfInBounds i x, rfl, hb, heap_setCell_same w g i cur e _ hg, hc, hm, by simpa using hs, ?_⟩⟩, fun k hk => h.2 k hk⟩
    simp only [Array.toList_setIfInBounds]
    rw [← ht]; exact (List.take_set ..)

/-- A row is cut: what is left is a row in the same block. -/
theorem Row.take {g cap : Nat} (h : Row w o r e size (.slice (some ⟨g, 0, none⟩) n cap) n xs) (m : Nat) (hm : m ≤ n) :
    Row w o r e size (.slice (some ⟨g, 0, none⟩) m cap) m (xs.take (m * size)) := by
  rcases h.1.2 with ⟨h', _⟩ | ⟨g', cap', cur, h', hb, hg, hc, hmx, hs, ht⟩
  · simp at h'
  · simp only [Value.slice.injEq, Option.some.injEq, Addr.mk.injEq, and_true, true_and] at h'
    obtain ⟨rfl, rfl⟩ := h'
    have hle : m * size ≤ n * size := Nat.mul_le_mul_right _ hm
    refine ⟨⟨by rw [List.length_take, h.1.1]; omega, .inr ⟨g, cap, cur, rfl, hb, hg, by omega, hmx, hs, ?_⟩⟩, fun k hk => h.2 k (by simpa [Value.ownBlock] using hk)⟩
    rw [← ht, List.take_take, Nat.min_eq_left hle]

/-- Elements more: the run of an append. -/
theorem Row.append_run {P : Program} {t ty : TypeId} {i : TypeInfo} {z : Value} {bytes : Nat} (ht : P.underlying t = some (.slice e)) (hi : P.info? e = some i) (hz : i.zero = some z)
    (hsize : i.size = size) (hby : i.bytes = bytes) (hzs : z.cells.size = size) (hsz : 0 < size)
    (h : Row w o r e size v n xs) (hcl : Cl o w) (ad : Addr) (m c : Nat) (news : List Value) (hl : news.length = m * size) (hnews : ∀ j u, news[j]? = some u → w.cell? (ad.add j) = some u)
    (h1 : ∀ u ∈ news, u.oneCell' = true) (hm : 0 < m) (h63 : n + m ≤ maxLen) (hbytes : (n + m) * bytes ≤ 140737488355328) :
    ∃ g cap w' o', (Builtin.append_ #[t, t] ty #[v, .slice (some ad) m c]).run P w = .ok (.slice (some ⟨g, 0, none⟩) (n + m) cap) w' ∧
      Row w' o' r e size (.slice (some ⟨g, 0, none⟩) (n + m) cap) (n + m) (xs ++ news) ∧ Cl o' w' ∧ Fr (fun k => k = r) o o' w w' := by
  obtain ⟨g, cap, w', hr, h2, h3, h4, h5⟩ := run_append_lies (P := P) w t ty 0 e i z size bytes ht hi hz hsize hby hzs hsz v n xs h.1 ad m c news hl hnews h1 hm h63 hbytes (Nat.zero_le _) w.heap.size rfl
  refine ⟨g, cap, w', _, hr, ⟨h2, ?_⟩, hcl.grown r h3, Fr.grown r h3 (fun k hk => h.2 k hk)⟩
  intro g' hg'
  simp only [Value.ownBlock, Option.some.injEq] at hg'
  subst hg'
  show ite _ _ _ = r
  rcases h4 with h4 | h4
  · have := (h.1.lt g h4).2
    rw [if_neg (by omega)]; exact h.2 g h4
  · rw [if_pos ⟨by omega, h5⟩]
end

/-- A row of numbers, of a role. -/
def IntRow (w : World) (o : Own) (r : Nat) (v : Value) (xs : List Int) : Prop := Row w o r 3 1 v xs.length (xs.map (Value.int .i64))

theorem IntRow.keeps {S : Nat → Prop} {o o' : Own} {w w' : World} {r : Nat} {v : Value} {xs : List Int} (h : IntRow w o r v xs) (hf : Fr S o o' w w') (hs : ¬ S r) :
    IntRow w' o' r v xs := Row.keeps h hf hs
theorem IntRow.sm {o : Own} {w w' : World} {r : Nat} {v : Value} {xs : List Int} (h : IntRow w o r v xs) (hs : Sm w w') : IntRow w' o r v xs :=
  Row.keeps (S := fun _ => False) h (Fr.sm hs) id
theorem IntRow.nil (w : World) (o : Own) (r : Nat) : IntRow w o r (.slice none 0 0) [] := Row.nil w o r 3 1
theorem IntRow.form {w : World} {o : Own} {r : Nat} {v : Value} {xs : List Int} (h : IntRow w o r v xs) : ∃ a cap, v = .slice a xs.length cap := Row.form h

theorem IntRow.block {w : World} {o : Own} {r : Nat} {v : Value} {xs : List Int} (h : IntRow w o r v xs) (hn : 0 < xs.length) :
    ∃ g cap, v = .slice (some ⟨g, 0, none⟩) xs.length cap ∧ o g = r ∧ g < w.heap.size ∧ (∀ i, i < xs.length → w.cell? ⟨g, i, none⟩ = some (.int .i64 (xs.getD i 0))) ∧ (∀ i, w.frozen? ⟨g, i, none⟩ = false) := by
  obtain ⟨g, cap, hv, _, ho, hg, hc, hf⟩ := Row.block h hn
  refine ⟨g, cap, hv, ho, hg, fun i hi => ?_, hf⟩
  rw [hc i (by omega)]
  simp [List.getD, hi]

/-- An element of a row, by its place. -/
theorem IntRow.at {w : World} {o : Own} {r g n cap : Nat} {xs : List Int} (h : IntRow w o r (.slice (some ⟨g, 0, none⟩) n cap) xs) {i : Nat} {x : Int} (hx : xs[i]? = some x) :
    w.cell? ⟨g, i, none⟩ = some (.int .i64 x) ∧ i < n ∧ n ≤ cap := by
  have hi := (List.getElem?_eq_some_iff.1 hx).1
  obtain ⟨g', cap', e, hc, _, _, h1, _⟩ := Row.block h (by omega)
  simp only [Value.slice.injEq, Option.some.injEq, Addr.mk.injEq, and_true] at e
  obtain ⟨rfl, rfl, rfl⟩ := e
  refine ⟨?_, hi, hc⟩
  rw [h1 i (by omega)]
  simp [hx]

theorem IntRow.set {w : World} {o : Own} {r : Nat} {g cap : Nat} {xs : List Int} (h : IntRow w o r (.slice (some ⟨g, 0, none⟩) xs.length cap) xs) (i : Nat) (x : Int) :
    IntRow (w.setCell ⟨g, i, none⟩ (.int .i64 x)) o r (.slice (some ⟨g, 0, none⟩) xs.length cap) (xs.set i x) := by
  have := Row.set h i (.int .i64 x)
  unfold IntRow
  rw [List.length_set, List.map_set]; exact this

theorem IntRow.take {w : World} {o : Own} {r : Nat} {g cap : Nat} {xs : List Int} (h : IntRow w o r (.slice (some ⟨g, 0, none⟩) xs.length cap) xs) (m : Nat) (hm : m ≤ xs.length) :
    IntRow w o r (.slice (some ⟨g, 0, none⟩) m cap) (xs.take m) := by
  have := Row.take h m hm
  unfold IntRow
  rw [List.length_take, Nat.min_eq_left hm, List.map_take]
  simpa using this

theorem word_row {w : World} {x : Value} {t : TypeId} : ∀ (j : Nat) u, [x][j]? = some u → (w.alloc (.cells #[x] t)).cell? ((⟨w.heap.size, 0, none⟩ : Addr).add j) = some u := by
  intro j u hj
  match j, hj with
  | 0, hj => simp at hj; subst hj; simp [Addr.add]
theorem words_of {w : World} {x y z : Value} {t : TypeId} : ∀ (j : Nat) u, [x, y, z][j]? = some u → (w.alloc (.cells #[x, y, z] t)).cell? ((⟨w.heap.size, 0, none⟩ : Addr).add j) = some u := by
  intro j u hj
  match j, hj with
  | 0, hj => simp at hj; subst hj; simp [Addr.add]
  | 1, hj => simp at hj; subst hj; simp [Addr.add]
  | 2, hj => simp at hj; subst hj; simp [Addr.add]
theorem word_one {x : Int} : ∀ u ∈ [Value.int .i64 x], u.oneCell' = true := by intro u hu; simp at hu; subst hu; rfl

/-- A slice of numbers that is read, and is no block of the owner's. -/
def Rd (w : World) (o : Own) (v : Value) (xs : List Int) : Prop :=
  (v = .slice none 0 0 ∧ xs = []) ∨ ∃ ad cap, v = .slice (some ad) xs.length cap ∧ xs.length ≤ cap ∧ (∀ (j : Nat) x, xs[j]? = some x → w.cell? (ad.add j) = some (.int .i64 x)) ∧ (0 < xs.length → o ad.block = 0)

theorem IntRow.rd {w : World} {o p : Own} {r : Nat} {v : Value} {xs : List Int} (h : IntRow w p r v xs) (hd : Dj o p) (hr : r ≠ 0) : Rd w o v xs := by
  rcases h.1.2 with ⟨rfl, hn⟩ | ⟨g, cap, cur, rfl, _, hg, hc, _⟩
  · exact .inl ⟨rfl, List.eq_nil_of_length_eq_zero hn⟩
  · refine .inr ⟨⟨g, 0, none⟩, cap, rfl, hc, fun j x hj => ?_, fun _ => (hd g).resolve_right (by rw [h.2 g rfl]; exact hr)⟩
    have := (h.at hj).1
    have e : (⟨g, 0, none⟩ : Addr).add j = ⟨g, j, none⟩ := by unfold Addr.add; split <;> simp_all
    rw [e]; exact this

theorem Addr.add_block (a : Addr) (j : Nat) : (a.add j).block = a.block := by unfold Addr.add; split <;> rfl

theorem Rd.keeps {w w' : World} {o o' : Own} {S : Nat → Prop} {v : Value} {xs : List Int} (h : Rd w o v xs) (hf : Fr S o o' w w') (h0 : ¬ S 0) : Rd w' o' v xs := by
  rcases h with h | ⟨ad, cap, hv, hc, h1, h2⟩
  · exact .inl h
  · refine .inr ⟨ad, cap, hv, hc, fun j x hj => ?_, fun hp => ?_⟩
    · have hp : 0 < xs.length := by have := (List.getElem?_eq_some_iff.1 hj).1; omega
      have hlt := World.block_lt_of_cell? w _ (h1 j x hj)
      rw [World.cell?_of_block (w := w)]
      · exact h1 j x hj
      · exact hf.block _ hlt (by rw [Addr.add_block, h2 hp]; exact h0)
    · have hlt := World.block_lt_of_cell? w _ (h1 0 _ (List.getElem?_eq_getElem hp))
      rw [Addr.add_block] at hlt
      rw [hf.role _ hlt]; exact h2 hp

theorem Rd.src {w : World} {o : Own} {ad : Addr} {n cap : Nat} {xs : List Int} (h : Rd w o (.slice (some ad) n cap) xs) : ∀ (j : Nat) x, xs[j]? = some x → w.cell? (ad.add j) = some (.int .i64 x) := by
  rcases h with ⟨h, rfl⟩ | ⟨ad', cap', hv, _, h1, _⟩
  · intro j x hj; simp at hj
  · simp only [Value.slice.injEq, Option.some.injEq] at hv
    obtain ⟨rfl, _, _⟩ := hv
    exact h1

theorem Rd.form {w : World} {o : Own} {v : Value} {xs : List Int} (h : Rd w o v xs) : ∃ a cap, v = .slice a xs.length cap := by
  rcases h with ⟨rfl, rfl⟩ | ⟨ad, cap, rfl, _⟩
  · exact ⟨none, 0, rfl⟩
  · exact ⟨_, _, rfl⟩
end Go.Proofs.Ytpjiemffkkfbkaa
