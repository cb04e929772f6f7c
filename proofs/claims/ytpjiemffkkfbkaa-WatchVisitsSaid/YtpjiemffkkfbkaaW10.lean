/- Owners are joined: arena, trail and propagator, each made with an owner of its own, are one system. -/
import Derived.Test.YtpjiemffkkfbkaaW9
namespace Go.Proofs.Ytpjiemffkkfbkaa
open Go.RowKit

/-- What p owns, o owns so. -/
def Ext (p o : Own) : Prop := ∀ b, p b ≠ 0 → o b = p b

section
variable {w : World} {p o : Own}

theorem Ext.role (h : Ext p o) {b r : Nat} (hb : p b = r) (hr : r ≠ 0) : o b = r := by rw [h b (by rw [hb]; exact hr)]; exact hb
theorem Row.own {r size n : Nat} {e : TypeId} {v : Value} {xs : List Value} (h : Row w p r e size v n xs) (he : Ext p o) (hr : r ≠ 0) : Row w o r e size v n xs :=
  ⟨h.1, fun g hg => he.role (h.2 g hg) hr⟩
theorem IntRow.own {r : Nat} {v : Value} {xs : List Int} (h : IntRow w p r v xs) (he : Ext p o) (hr : r ≠ 0) : IntRow w o r v xs := Row.own h he hr
theorem ORow.own {r : Nat} {v : Value} {xs : List Int} (h : ORow w p r v xs) (he : Ext p o) (hr : r ≠ 0) : ORow w o r v xs := by
  rcases h with h | ⟨g, off, cap, cur, h1, h2, h3, h4⟩
  · exact .inl h
  · exact .inr ⟨g, off, cap, cur, h1, h2, he.role h3 hr, h4⟩
theorem Ar.own {ab : Nat} {A : AS} (h : Ar w p ab A) (he : Ext p o) : Ar w o ab A := by
  obtain ⟨wv, mb, h⟩ := h
  exact ⟨wv, mb, h.small, h.head, he.role h.ha (by decide), h.ws.own he (by decide), h.mp, he.role h.hm (by decide)⟩
theorem Tr.own {tb : Nat} {T : TS} (h : Tr w p tb T) (he : Ext p o) : Tr w o tb T := by
  obtain ⟨vb, lv, sv, h⟩ := h
  exact ⟨vb, lv, sv, ⟨h.nle, h.lle, h.sle, h.head, he.role h.ht (by decide), h.vars, he.role h.hv (by decide), h.l.own he (by decide), h.st.own he (by decide)⟩, h.wf⟩
theorem WtAt.own {ab tb wb lb : Nat} {W : WS} {lvs : List Value} {pv : Value} (h : WtAt w p ab tb wb W lb lvs pv) (he : Ext p o) : WtAt w o ab tb wb W lb lvs pv :=
  ⟨h.head, he.role h.hw (by decide), h.blk, he.role h.hl (by decide), h.len, h.small, fun i v hv => (h.rows i v hv).own he (by omega), h.pend.own he (by decide)⟩
end

/-- Two owners as one. -/
def join (p q : Own) : Own := fun b => if p b ≠ 0 then p b else q b
theorem Ext.left (p q : Own) : Ext p (join p q) := fun b hb => by unfold join; rw [if_pos hb]
theorem Ext.right {p q : Own} (h : Dj p q) : Ext q (join p q) := fun b hb => by
  unfold join
  rcases h b with h | h
  · rw [if_neg (by simpa using h)]
  · exact absurd h hb
theorem Ext.trans {p q r : Own} (h : Ext p q) (k : Ext q r) : Ext p r := fun b hb => by
  have e := h b hb
  rw [k b (by rw [e]; exact hb), e]
theorem Cl.join {p q : Own} {w : World} (h : Cl p w) (k : Cl q w) : Cl (join p q) w := fun b hb => by
  unfold Ytpjiemffkkfbkaa.join; rw [h b hb, k b hb]; rfl
theorem Dj.join {p q r : Own} (h : Dj p r) (k : Dj q r) : Dj (join p q) r := fun b => by
  rcases h b with h | h
  · rcases k b with k | k
    · left; unfold Ytpjiemffkkfbkaa.join; rw [h, k]; rfl
    · exact .inr k
  · exact .inr h
theorem New.join {p q : Own} {n : Nat} (h : New p n) (k : New q n) : New (join p q) n := fun b hb => by
  unfold Ytpjiemffkkfbkaa.join; rw [h b hb, k b hb]; rfl
theorem Dj.new {p q : Own} {w : World} {n : Nat} (h : Cl p w) (hn : w.heap.size ≤ n) (k : New q n) : Dj p q := fun b => by
  by_cases e : b < n
  · exact .inr (k b e)
  · exact .inl (h b (by omega))

/-- Three things, each of its own owner, are a system. -/
theorem Sys.of {w : World} {pa pt pw : Own} {ab tb wb lb : Nat} {lvs : List Value} {pv : Value} {A : AS} {T : TS} {W : WS} (ha : Ar w pa ab A) (ht : Tr w pt tb T) (hw : WtAt w pw ab tb wb W lb lvs pv)
    (ca : Cl pa w) (ct : Cl pt w) (cw : Cl pw w) (d1 : Dj pa pt) (d2 : Dj pa pw) (d3 : Dj pt pw) : Sys w (join (join pa pt) pw) ab tb wb lb lvs ⟨A, T, W⟩ :=
  ⟨(ha.own (Ext.left pa pt)).own (Ext.left _ _), (ht.own (Ext.right d1)).own (Ext.left _ _), ⟨pv, hw.own (Ext.right (d2.join d3))⟩, (ca.join ct).join cw⟩
end Go.Proofs.Ytpjiemffkkfbkaa
