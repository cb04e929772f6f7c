/- Add of an empty clause. -/
import Derived.Test.YtpjiemffkkfbkaaA1
import Derived.Test.YtpjiemffkkfbkaaM5
namespace Go.Proofs.Ytpjiemffkkfbkaa
open Go.RowKit

theorem append_zero_step {w : World} {O : Own} {r : Nat} {v : Value} {xs : List Int} {ops : Array Oper} {o : Oper} {a : Act} {Q : Exit → Act → World → Prop} {K : Act → World → Prop} {E : Prop} {ca : Option Addr} {c : Nat} (hr : IntRow w O r v xs)
    (hgd : o.guard = none) (s x : Operand) (ho : o.op = .call { callee := .builtin .append, args := #[s, x], argTypes := #[32, 32] }) (hs : a.eval s = v) (hx : a.eval x = .slice ca 0 c)
    (h : K (a.put o.dst v) w) : if Region.wanted o (yielded ops a.tmps) = true then Oper.wp Try.prog o a w K Q else E := by
  have hw : Region.wanted o (yielded ops a.tmps) = true := by simp [Region.wanted, hgd]
  rw [if_pos hw]
  unfold Oper.wp execOp
  simp only [ho, resolve, invoke, builtin, Sem.run_bind, Sem.run_pure, Result.andThen_ok, List.map_toArray, List.map_cons, List.map_nil, hs, hx, append_zero_run hr ca c o.type]
  exact h

section
variable {o : Own} {ab : Nat} {A : AS} {wv : Value} {mb : Nat}

set_option maxHeartbeats 1000000 in
set_option maxRecDepth 100000 in
theorem add_zero (ca : Option Addr) (ccap : Nat) (w : World) (h : ArAt w o ab A wv mb) (hcl : Cl o w) (hlim : A.limit = 0) (hsm : A.words.length + 3 ≤ 1000000000) :
    Calls Try.prog 56 #[.pointer (some ⟨ab, 0, none⟩), .slice ca 0 ccap, .bool false, .int .i64 0] w fun e w' =>
      e = .returned (.tuple #[.int .i64 A.words.length, .bool true]) ∧ ArPost o w ab (A.add [] false 0) w' := by
  have c0 := h.c0
  have c1 := h.c1
  have c2 := h.c2
  have c3 := h.c3
  rw [hlim] at c1
  obtain ⟨wa, wcap, rfl⟩ := h.ws.form
  have hlw : A.words.length ≤ 1000000000 := by omega
  have hab : ab < w.heap.size := (Array.getElem?_eq_some_iff.1 h.head).1
  have hcnt : A.count ≤ 1000000000 := h.cntle
  have H := Lib.hid h
  have CL := Lib.hid hcl
  have HSM := Lib.hid hsm
  clear h hcl hsm
  generalize hN : A.words.length = n at *
  have HN := Lib.hid hN
  clear hN
  go_enter Try.func56, Try.ntmps56
  go_wp2
  have H1 : Hid (ArAt w.drew o ab A (.slice wa n wcap) mb) := H.out.sm (Sm.drew w)
  have CL1 : Hid (Cl o w.drew) := CL.out.sm (Sm.drew w)
  have c0d : ∀ X, (w.drew.alloc X).cell? ⟨ab, 0, none⟩ = some (.slice wa n wcap) := fun X => (World.cell?_alloc_past _ _ _ hab).trans c0
  go_region_law (first
    | (go_simp; go_at_call 79; refine (arFit0 _).mono ?_; rintro e w' ⟨rfl, rfl⟩)
    | (refine append_ints_step (ys := [0, 0, 0]) (H1.out.ws.keeps (S := fun _ => False) (Fr.alloc0 _) id) (CL1.out.alloc0 _) (by rw [HN.out]; exact hlw) (Nat.le_of_ble_eq_true rfl) (Nat.le_of_ble_eq_true rfl) rfl (.tmp 43) (.tmp 47) rfl rfl rfl ints_at ?_
       intro g2 cap2 w2 o2 hr2 hcl2 hfr2
       have fr12 : Fr (fun r => r = 6) o o2 w.drew w2 := (Fr.alloc0 _).trans hfr2
       have HR2 := Lib.hid hr2
       have CL2 := Lib.hid hcl2
       have F2 := Lib.hid fr12
       clear hr2 hcl2 fr12 hfr2)
    | (refine append_zero_step HR2.out rfl (.tmp 48) (.tmp 49) rfl rfl rfl ?_
       have fr13 : Fr (fun r => r = 6) o o2 w.drew w2 := F2.out
       have d3 := fr13.keeps H1.out.head (by rw [H.out.ha]; decide)
       have k0 : w2.cell? ⟨ab, 0, none⟩ = some (.slice wa n wcap) := cell_of_row w2 ab 0 _ 113 _ d3.1
       have k2 : w2.cell? ⟨ab, 2, none⟩ = some (.int .i64 A.count) := cell_of_row w2 ab 2 _ 113 _ d3.1
       have k3 : w2.cell? ⟨ab, 3, none⟩ = some (.map (some mb)) := cell_of_row w2 ab 3 _ 113 _ d3.1
       have kf0 : w2.frozen? ⟨ab, 0, none⟩ = false := frozen_of_row w2 ab 0 _ 113 d3.1
       have kf2 : w2.frozen? ⟨ab, 2, none⟩ = false := frozen_of_row w2 ab 2 _ 113 d3.1
       have CL3 := CL2
       have F3 := Lib.hid fr13
       have D3 := Lib.hid d3
       clear fr13 d3))
  all_goals
    have ha3 : o2 ab = 5 := D3.out.2.trans H.out.ha
    have M4 : Hid (∀ v x, IMap ((w2.setCell ⟨ab, 0, none⟩ v).setCell ⟨ab, 2, none⟩ x) mb ((liveRefs 0 A.cs).map fun r => (r, Value.bool true))) := fun v x =>
      (H1.out.mp.keeps F3.out (by rw [H.out.hm]; decide)).keeps (o := o2) (o' := o2) (S := fun r => r = 5) ((Fr.setCell (S := fun r => r = 5) _ _ ha3).trans (Fr.setCell (S := fun r => r = 5) _ _ ha3)) (by rw [F3.out.role mb H1.out.mp.lt, H.out.hm]; decide)
    clear ha3
    have hm3 : Hid (o2 mb = 7) := (F3.out.role mb H1.out.mp.lt).trans H.out.hm
    go_wp2_with
      (at_mapUpdate
       refine imapUpdate_list (S := fun r => r = 7) (O := o2) rfl (M4.out _ _) Try.underlying100 Try.underlying3 (.tmp 63) (.tmp 64) (.const (.bool true)) rfl rfl rfl rfl hm3.out ?_
       intro w5 hm5 hf5
       have HM5 := Lib.hid hm5
       have HF5 := Lib.hid hf5
       clear hm5 hf5)
    go_ret2
    refine ⟨rfl, ?_⟩
    exact ArAt.added (m := 0) (c := []) H1.out (Fr.sm (Sm.drew w)) hlim HN.out rfl F3.out (by have := HR2.out; rw [List.append_nil]; exact this) CL3.out HM5.out HF5.out (by have := HSM.out; omega)

theorem addc_any (cv : Value) (c : List Int) (w : World) (h : ArAt w o ab A wv mb) (hcl : Cl o w) (hlim : A.limit = 0) (hc : Rd w o cv c) (hsm : A.words.length + 3 + c.length ≤ 1000000000) :
    Calls Try.prog 56 #[.pointer (some ⟨ab, 0, none⟩), cv, .bool false, .int .i64 0] w fun e w' =>
      e = .returned (.tuple #[.int .i64 A.words.length, .bool true]) ∧ ArPost o w ab (A.add c false 0) w' := by
  by_cases h0 : 0 < c.length
  · exact add_yes cv c w h hcl hlim hc h0 hsm
  · have : c = [] := List.eq_nil_of_length_eq_zero (by omega)
    subst this
    obtain ⟨a, cap, rfl⟩ := hc.form
    exact add_zero a cap w h hcl hlim (by simpa using hsm)
end
end Go.Proofs.Ytpjiemffkkfbkaa
