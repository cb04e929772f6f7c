/- bits.Len by the kit's contract: its bodies are the kit's own. -/
import Derived.Test.YtpjiemffkkfbkaaN0
import Derived.Shelf.Small.Bits
namespace Go.Proofs.Ytpjiemffkkfbkaa
open Go.RowKit Go.Shelf

def Try.renBits : Ren := ⟨fun n => if n = 125 then 93 else if n = 128 then 103 else if n = 129 then 104 else n, fun t => if t = 46 then 80 else if t = 51 then 73 else if t = 53 then 141 else t, fun x => x⟩

theorem Try.laysBits : Lays.n125 Try.prog Try.renBits where
  mixed := by kernel_rfl
  f125 := by kernel_rfl
  f128 := by kernel_rfl
  f129 := by kernel_rfl
  t3 := by kernel_rfl
  a3 := fun _ => by kernel_rfl
  z3 := fun _ => by kernel_rfl
  v3 := fun _ => by kernel_rfl
  t4 := by kernel_rfl
  a4 := fun _ => by kernel_rfl
  z4 := fun _ => by kernel_rfl
  v4 := fun _ => by kernel_rfl
  t5 := by kernel_rfl
  a5 := fun _ => by kernel_rfl
  z5 := fun _ => by kernel_rfl
  v5 := fun _ => by kernel_rfl
  t9 := by kernel_rfl
  a9 := fun _ => by kernel_rfl
  z9 := fun _ => by kernel_rfl
  v9 := fun _ => by kernel_rfl
  t46 := by kernel_rfl
  a46 := fun _ => by kernel_rfl
  z46 := fun _ => by kernel_rfl
  v46 := fun _ => by kernel_rfl
  t51 := by kernel_rfl
  a51 := fun _ => by kernel_rfl
  z51 := fun _ => by kernel_rfl
  v51 := fun _ => by kernel_rfl
  t53 := by kernel_rfl
  a53 := fun _ => by kernel_rfl
  z53 := fun _ => by kernel_rfl
  v53 := fun _ => by kernel_rfl

theorem bitsLen_small (n : Nat) (h : n ≤ 12) (w : World) : Calls Try.prog 93 #[.int .u64 n] w fun e w' => (∃ l : Int, e = .returned (.int .i64 l)) ∧ w = w' :=
  (Any.bits_Len Try.laysBits n w (by omega) (by omega)).mono fun _ _ ⟨he, hw⟩ => ⟨⟨_, he⟩, hw.symm⟩
end Go.Proofs.Ytpjiemffkkfbkaa
