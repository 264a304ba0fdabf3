/- The library's sorted keys of a map: where its functions and types lie here (printed by tools/gen_lay.py). -/
import Derived.Test.YtkdgpdijbobmkaaGreatTwinN
import Derived.Shelf.SlIterI.Nil
import Derived.Shelf.SlIterI.Sorted
import Derived.Shelf.SortM.Plain
import Derived.Shelf.SortM.SortNone
namespace Go.Proofs.YtkdgpdijbobmkaaGreat
set_option linter.all false
open Go Go.RowKit Go.Maps Go.Sort Go.Shelf
def tkeys_ren : Ren := ⟨fun k => match k with | 7 => 61 | 10 => 90 | n => n, fun k => match k with | 23 => 117 | 26 => 3 | 3 => 34 | 28 => 123 | 0 => 0 | 27 => 122 | 33 => 47 | 4 => 4 | n => n, fun n => n⟩
theorem tkeys_lays : SlLaysZI.n7 Tryz.prog tkeys_ren where
  mixed := by kernel_rfl
  f7 := ⟨"maps.Keys[map[int]pitfloor/api.Command,int,pitfloor/api.Command]", by decide, by kernel_rfl⟩
  f10 := ⟨"maps.Keys[map[int]pitfloor/api.Command,int,pitfloor/api.Command]$1", by decide, by kernel_rfl⟩
  t0 := by kernel_rfl
  a0 := fun w => by kernel_rfl
  z0 := fun w => by kernel_rfl
  v0 := fun w => by kernel_rfl
  t4 := by kernel_rfl
  a4 := fun w => by kernel_rfl
  z4 := fun w => by kernel_rfl
  v4 := fun w => by kernel_rfl
  t23 := by kernel_rfl
  a23 := fun w => by kernel_rfl
  z23 := fun w => by kernel_rfl
  v23 := fun w => by kernel_rfl
  t26 := by kernel_rfl
  a26 := fun w => by kernel_rfl
  z26 := fun w => by kernel_rfl
  v26 := fun w => by kernel_rfl
  t27 := by kernel_rfl
  a27 := fun w => by kernel_rfl
  z27 := fun w => by kernel_rfl
  v27 := fun w => by kernel_rfl
  t28 := by kernel_rfl
  a28 := fun w => by kernel_rfl
  z28 := fun w => by kernel_rfl
  v28 := fun w => by kernel_rfl
  t33 := by kernel_rfl
  a33 := fun w => by kernel_rfl
  z33 := fun w => by kernel_rfl
  v33 := fun w => by kernel_rfl
def tsorted_ren : Ren := ⟨fun k => match k with | 6 => 60 | 8 => 88 | 9 => 89 | 11 => 119 | 13 => 121 | 12 => 120 | 23 => 149 | 24 => 150 | 14 => 140 | 15 => 141 | 16 => 142 | 17 => 143 | 18 => 144 | 19 => 145 | 20 => 146 | 21 => 147 | 22 => 148 | 25 => 156 | 26 => 157 | 27 => 158 | 28 => 159 | 29 => 160 | 30 => 132 | 31 => 163 | n => n, fun k => match k with | 26 => 3 | 28 => 123 | 24 => 84 | 0 => 0 | 3 => 3 | 37 => 184 | 48 => 217 | 50 => 219 | 4 => 4 | 40 => 210 | 39 => 209 | 45 => 214 | 5 => 5 | 9 => 9 | 51 => 224 | 55 => 228 | 57 => 231 | 58 => 106 | 33 => 47 | n => n, fun n => n⟩
theorem tsorted_lays : SlLaysZI.n6 Tryz.prog tsorted_ren where
  mixed := by kernel_rfl
  f6 := ⟨"slices.Sorted[int]", by decide, by kernel_rfl⟩
  f8 := ⟨"slices.Collect[int]", by decide, by kernel_rfl⟩
  f11 := ⟨"slices.AppendSeq[[]int,int]", by decide, by kernel_rfl⟩
  t0 := by kernel_rfl
  a0 := fun w => by kernel_rfl
  z0 := fun w => by kernel_rfl
  v0 := fun w => by kernel_rfl
  t24 := by kernel_rfl
  a24 := fun w => by kernel_rfl
  z24 := fun w => by kernel_rfl
  v24 := fun w => by kernel_rfl
  t26 := by kernel_rfl
  a26 := fun w => by kernel_rfl
  z26 := fun w => by kernel_rfl
  v26 := fun w => by kernel_rfl
  t28 := by kernel_rfl
  a28 := fun w => by kernel_rfl
  z28 := fun w => by kernel_rfl
  v28 := fun w => by kernel_rfl
  i26 := by kernel_rfl
def tsort_ren : Ren := ⟨fun k => match k with | 5 => 89 | 8 => 121 | 7 => 120 | 19 => 149 | 20 => 150 | 10 => 140 | 11 => 141 | 12 => 142 | 13 => 143 | 14 => 144 | 15 => 145 | 16 => 146 | 17 => 147 | 18 => 148 | 30 => 156 | 31 => 157 | 32 => 158 | 33 => 159 | 34 => 160 | 35 => 132 | 40 => 163 | n => n, fun k => match k with | 23 => 84 | 25 => 3 | 3 => 3 | 32 => 184 | 22 => 84 | 0 => 0 | 44 => 217 | 46 => 219 | 4 => 4 | 36 => 210 | 35 => 209 | 41 => 214 | 5 => 5 | 9 => 9 | 53 => 224 | 57 => 228 | 63 => 231 | 64 => 106 | n => n, fun n => n⟩
theorem tsort_lays : SlLaysM.n5 Tryz.prog tsort_ren where
  mixed := by kernel_rfl
  f5 := ⟨"slices.Sort[[]int,int]", by decide, by kernel_rfl⟩
  f7 := ⟨"slices.pdqsortOrdered[int]", by decide, by kernel_rfl⟩
  f8 := by kernel_rfl
  f10 := ⟨"slices.insertionSortOrdered[int]", by decide, by kernel_rfl⟩
  f11 := ⟨"slices.heapSortOrdered[int]", by decide, by kernel_rfl⟩
  f12 := ⟨"slices.breakPatternsOrdered[int]", by decide, by kernel_rfl⟩
  f13 := ⟨"slices.choosePivotOrdered[int]", by decide, by kernel_rfl⟩
  f14 := ⟨"slices.reverseRangeOrdered[int]", by decide, by kernel_rfl⟩
  f15 := ⟨"slices.partialInsertionSortOrdered[int]", by decide, by kernel_rfl⟩
  f16 := ⟨"cmp.Less[int]", by decide, by kernel_rfl⟩
  f17 := ⟨"slices.partitionEqualOrdered[int]", by decide, by kernel_rfl⟩
  f18 := ⟨"slices.partitionOrdered[int]", by decide, by kernel_rfl⟩
  f19 := by kernel_rfl
  f20 := by kernel_rfl
  f30 := ⟨"slices.siftDownOrdered[int]", by decide, by kernel_rfl⟩
  f31 := by kernel_rfl
  f32 := by kernel_rfl
  f33 := ⟨"slices.medianAdjacentOrdered[int]", by decide, by kernel_rfl⟩
  f34 := ⟨"slices.medianOrdered[int]", by decide, by kernel_rfl⟩
  f35 := ⟨"cmp.isNaN[int]", by decide, by kernel_rfl⟩
  f40 := ⟨"slices.order2Ordered[int]", by decide, by kernel_rfl⟩
  t0 := by kernel_rfl
  a0 := fun w => by kernel_rfl
  z0 := fun w => by kernel_rfl
  v0 := fun w => by kernel_rfl
  t3 := by kernel_rfl
  a3 := fun w => by kernel_rfl
  z3 := fun w => by kernel_rfl
  v3 := fun w => by kernel_rfl
  t4 := by kernel_rfl
  a4 := fun w => by kernel_rfl
  z4 := fun w => by kernel_rfl
  v4 := fun w => by kernel_rfl
  t5 := by kernel_rfl
  a5 := fun w => by kernel_rfl
  z5 := fun w => by kernel_rfl
  v5 := fun w => by kernel_rfl
  t9 := by kernel_rfl
  a9 := fun w => by kernel_rfl
  z9 := fun w => by kernel_rfl
  v9 := fun w => by kernel_rfl
  t22 := by kernel_rfl
  a22 := fun w => by kernel_rfl
  z22 := fun w => by kernel_rfl
  v22 := fun w => by kernel_rfl
  t23 := by kernel_rfl
  a23 := fun w => by kernel_rfl
  z23 := fun w => by kernel_rfl
  v23 := fun w => by kernel_rfl
  t25 := by kernel_rfl
  a25 := fun w => by kernel_rfl
  z25 := fun w => by kernel_rfl
  v25 := fun w => by kernel_rfl
  t32 := by kernel_rfl
  a32 := fun w => by kernel_rfl
  z32 := fun w => by kernel_rfl
  v32 := fun w => by kernel_rfl
  t35 := by kernel_rfl
  a35 := fun w => by kernel_rfl
  z35 := fun w => by kernel_rfl
  v35 := fun w => by kernel_rfl
  t36 := by kernel_rfl
  a36 := fun w => by kernel_rfl
  z36 := fun w => by kernel_rfl
  v36 := fun w => by kernel_rfl
  t41 := by kernel_rfl
  a41 := fun w => by kernel_rfl
  z41 := fun w => by kernel_rfl
  v41 := fun w => by kernel_rfl
  t44 := by kernel_rfl
  a44 := fun w => by kernel_rfl
  z44 := fun w => by kernel_rfl
  v44 := fun w => by kernel_rfl
  t46 := by kernel_rfl
  a46 := fun w => by kernel_rfl
  z46 := fun w => by kernel_rfl
  v46 := fun w => by kernel_rfl
  t53 := by kernel_rfl
  a53 := fun w => by kernel_rfl
  z53 := fun w => by kernel_rfl
  v53 := fun w => by kernel_rfl
  t57 := by kernel_rfl
  a57 := fun w => by kernel_rfl
  z57 := fun w => by kernel_rfl
  v57 := fun w => by kernel_rfl
  t63 := by kernel_rfl
  a63 := fun w => by kernel_rfl
  z63 := fun w => by kernel_rfl
  v63 := fun w => by kernel_rfl
  t64 := by kernel_rfl
  a64 := fun w => by kernel_rfl
  z64 := fun w => by kernel_rfl
  v64 := fun w => by kernel_rfl
/-- slices.Sort's two contracts here -/
theorem tsorts (m : Nat) : AnyZI.SortsIn Tryz.prog tsorted_ren Fence.wide m :=
  ⟨fun blk off cap ss W hH hblk hsz => callsIn_wide.2 (AnyM.slices_Sort_int tsort_lays blk off cap ss W hH hblk hsz),
   fun p cap W => callsIn_wide.2 (AnyM.slices_Sort_int_none tsort_lays p cap W)⟩
end Go.Proofs.YtkdgpdijbobmkaaGreat
