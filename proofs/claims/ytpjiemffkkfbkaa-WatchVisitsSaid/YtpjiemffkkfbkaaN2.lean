/- slices.SortFunc by the kit's contract: its bodies are the kit's own. -/
import Derived.Test.YtpjiemffkkfbkaaN1
import Derived.Shelf.SlSortCmp.Small
namespace Go.Proofs.Ytpjiemffkkfbkaa
open Go.RowKit Go.Shelf

def Try.renSort : Ren := ⟨fun n => if n = 6 then 88 else if n = 14 then 92 else if n = 15 then 93 else if n = 20 then 95 else if n = 21 then 96 else if n = 22 then 97 else if n = 23 then 98 else if n = 24 then 99 else if n = 25 then 100 else if n = 26 then 101 else if n = 27 then 102 else if n = 28 then 103 else if n = 29 then 104 else if n = 46 then 106 else if n = 47 then 107 else if n = 48 then 108 else if n = 49 then 109 else if n = 50 then 110 else if n = 57 then 111 else n, fun t => if t = 22 then 32 else if t = 24 then 3 else if t = 25 then 108 else if t = 39 then 80 else if t = 45 then 133 else if t = 46 then 134 else if t = 50 then 35 else if t = 53 then 73 else if t = 55 then 141 else if t = 66 then 142 else if t = 70 then 146 else if t = 76 then 148 else if t = 77 then 149 else t, fun x => x⟩

set_option maxRecDepth 100000 in
theorem Try.laysSort : SlLaysF.n6 Try.prog Try.renSort where
  mixed := by kernel_rfl
  f6 := ⟨ "slices.SortFunc[[]int,int]", by decide, by kernel_rfl⟩
  f14 := ⟨ "slices.pdqsortCmpFunc[int]", by decide, by kernel_rfl⟩
  f15 := by kernel_rfl
  f20 := ⟨ "slices.insertionSortCmpFunc[int]", by decide, by kernel_rfl⟩
  f21 := ⟨ "slices.heapSortCmpFunc[int]", by decide, by kernel_rfl⟩
  f22 := ⟨ "slices.breakPatternsCmpFunc[int]", by decide, by kernel_rfl⟩
  f23 := ⟨ "slices.choosePivotCmpFunc[int]", by decide, by kernel_rfl⟩
  f24 := ⟨ "slices.reverseRangeCmpFunc[int]", by decide, by kernel_rfl⟩
  f25 := ⟨ "slices.partialInsertionSortCmpFunc[int]", by decide, by kernel_rfl⟩
  f26 := ⟨ "slices.partitionEqualCmpFunc[int]", by decide, by kernel_rfl⟩
  f27 := ⟨ "slices.partitionCmpFunc[int]", by decide, by kernel_rfl⟩
  f28 := by kernel_rfl
  f29 := by kernel_rfl
  f46 := ⟨ "slices.siftDownCmpFunc[int]", by decide, by kernel_rfl⟩
  f47 := by kernel_rfl
  f48 := by kernel_rfl
  f49 := ⟨ "slices.medianAdjacentCmpFunc[int]", by decide, by kernel_rfl⟩
  f50 := ⟨ "slices.medianCmpFunc[int]", by decide, by kernel_rfl⟩
  f57 := ⟨ "slices.order2CmpFunc[int]", by decide, by kernel_rfl⟩
  t0 := by kernel_rfl
  a0 := fun _ => by kernel_rfl
  z0 := fun _ => by kernel_rfl
  v0 := fun _ => by kernel_rfl
  t3 := by kernel_rfl
  a3 := fun _ => by kernel_rfl
  z3 := fun _ => by kernel_rfl
  v3 := fun _ => by kernel_rfl
  t4 := by kernel_rfl
  a4 := fun _ => by kernel_rfl
  z4 := fun _ => by kernel_rfl
  v4 := fun _ => by kernel_rfl
  t5 := by kernel_rfl
  a5 := fun _ => by kernel_rfl
  z5 := fun _ => by kernel_rfl
  v5 := fun _ => by kernel_rfl
  t9 := by kernel_rfl
  a9 := fun _ => by kernel_rfl
  z9 := fun _ => by kernel_rfl
  v9 := fun _ => by kernel_rfl
  t22 := by kernel_rfl
  a22 := fun _ => by kernel_rfl
  z22 := fun _ => by kernel_rfl
  v22 := fun _ => by kernel_rfl
  a24 := fun _ => by kernel_rfl
  z24 := fun _ => by kernel_rfl
  t25 := by kernel_rfl
  a25 := fun _ => by kernel_rfl
  z25 := fun _ => by kernel_rfl
  v25 := fun _ => by kernel_rfl
  t39 := by kernel_rfl
  a39 := fun _ => by kernel_rfl
  z39 := fun _ => by kernel_rfl
  v39 := fun _ => by kernel_rfl
  t45 := by kernel_rfl
  a45 := fun _ => by kernel_rfl
  z45 := fun _ => by kernel_rfl
  v45 := fun _ => by kernel_rfl
  t46 := by kernel_rfl
  a46 := fun _ => by kernel_rfl
  z46 := fun _ => by kernel_rfl
  v46 := fun _ => by kernel_rfl
  t50 := by kernel_rfl
  a50 := fun _ => by kernel_rfl
  z50 := fun _ => by kernel_rfl
  v50 := fun _ => by kernel_rfl
  t53 := by kernel_rfl
  a53 := fun _ => by kernel_rfl
  z53 := fun _ => by kernel_rfl
  v53 := fun _ => by kernel_rfl
  t55 := by kernel_rfl
  a55 := fun _ => by kernel_rfl
  z55 := fun _ => by kernel_rfl
  v55 := fun _ => by kernel_rfl
  t66 := by kernel_rfl
  a66 := fun _ => by kernel_rfl
  z66 := fun _ => by kernel_rfl
  v66 := fun _ => by kernel_rfl
  t70 := by kernel_rfl
  a70 := fun _ => by kernel_rfl
  z70 := fun _ => by kernel_rfl
  v70 := fun _ => by kernel_rfl
  t76 := by kernel_rfl
  a76 := fun _ => by kernel_rfl
  z76 := fun _ => by kernel_rfl
  v76 := fun _ => by kernel_rfl
  t77 := by kernel_rfl
  a77 := fun _ => by kernel_rfl
  z77 := fun _ => by kernel_rfl
  v77 := fun _ => by kernel_rfl
end Go.Proofs.Ytpjiemffkkfbkaa
