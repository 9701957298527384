/-
  The given contract of slices.SortFunc, laid at this program: its bodies and types are those of the kit.
-/
import Derived.Test.YtopigbmamejklaaGreatA31
import Derived.Test.YtopigbmamejklaaGreatProg
import Derived.KernelRfl
namespace Go.Proofs.YtopigbmamejklaaGreat
open Ai

def sort17_lays_ren : Go.Shelf.Ren := ⟨fun | 6 => 17 | 15 => 41 | 14 => 40 | 28 => 75 | 29 => 76 | 20 => 67 | 21 => 68 | 22 => 69 | 23 => 70 | 24 => 71 | 25 => 72 | 26 => 73 | 27 => 74 | 46 => 95 | 47 => 96 | 48 => 97 | 49 => 98 | 50 => 99 | 57 => 105 | n => n, fun | 22 => 38 | 24 => 32 | 25 => 44 | 3 => 3 | 39 => 73 | 0 => 0 | 53 => 102 | 55 => 104 | 4 => 4 | 46 => 95 | 45 => 94 | 50 => 99 | 5 => 5 | 9 => 9 | 66 => 115 | 70 => 119 | 76 => 122 | 77 => 123 | n => n, fun | n => n⟩

theorem sort17_lays : Go.Proofs.SlLaysF0.n6 Tryz.prog sort17_lays_ren where
  mixed := by kernel_rfl
  f6 := ⟨"slices.SortFunc[[]loop.example/g00943/impl.Pattern,loop.example/g00943/impl.Pattern]", by decide, Tryz.func17.trans (congrArg some (by kernel_rfl))⟩
  f14 := ⟨"slices.pdqsortCmpFunc[loop.example/g00943/impl.Pattern]", by decide, Tryz.func40.trans (congrArg some (by kernel_rfl))⟩
  f15 := Tryz.func41.trans (congrArg some (by kernel_rfl))
  f20 := ⟨"slices.insertionSortCmpFunc[loop.example/g00943/impl.Pattern]", by decide, Tryz.func67.trans (congrArg some (by kernel_rfl))⟩
  f21 := ⟨"slices.heapSortCmpFunc[loop.example/g00943/impl.Pattern]", by decide, Tryz.func68.trans (congrArg some (by kernel_rfl))⟩
  f22 := ⟨"slices.breakPatternsCmpFunc[loop.example/g00943/impl.Pattern]", by decide, Tryz.func69.trans (congrArg some (by kernel_rfl))⟩
  f23 := ⟨"slices.choosePivotCmpFunc[loop.example/g00943/impl.Pattern]", by decide, Tryz.func70.trans (congrArg some (by kernel_rfl))⟩
  f24 := ⟨"slices.reverseRangeCmpFunc[loop.example/g00943/impl.Pattern]", by decide, Tryz.func71.trans (congrArg some (by kernel_rfl))⟩
  f25 := ⟨"slices.partialInsertionSortCmpFunc[loop.example/g00943/impl.Pattern]", by decide, Tryz.func72.trans (congrArg some (by kernel_rfl))⟩
  f26 := ⟨"slices.partitionEqualCmpFunc[loop.example/g00943/impl.Pattern]", by decide, Tryz.func73.trans (congrArg some (by kernel_rfl))⟩
  f27 := ⟨"slices.partitionCmpFunc[loop.example/g00943/impl.Pattern]", by decide, Tryz.func74.trans (congrArg some (by kernel_rfl))⟩
  f28 := Tryz.func75.trans (congrArg some (by kernel_rfl))
  f29 := Tryz.func76.trans (congrArg some (by kernel_rfl))
  f46 := ⟨"slices.siftDownCmpFunc[loop.example/g00943/impl.Pattern]", by decide, Tryz.func95.trans (congrArg some (by kernel_rfl))⟩
  f47 := Tryz.func96.trans (congrArg some (by kernel_rfl))
  f48 := Tryz.func97.trans (congrArg some (by kernel_rfl))
  f49 := ⟨"slices.medianAdjacentCmpFunc[loop.example/g00943/impl.Pattern]", by decide, Tryz.func98.trans (congrArg some (by kernel_rfl))⟩
  f50 := ⟨"slices.medianCmpFunc[loop.example/g00943/impl.Pattern]", by decide, Tryz.func99.trans (congrArg some (by kernel_rfl))⟩
  f57 := ⟨"slices.order2CmpFunc[loop.example/g00943/impl.Pattern]", by decide, Tryz.func105.trans (congrArg some (by kernel_rfl))⟩
  t0 := Tryz.underlying0
  a0 := Tryz.isAgg0
  z0 := Tryz.sizeOf0
  v0 := Tryz.zeroValue0
  t3 := Tryz.underlying3
  a3 := Tryz.isAgg3
  z3 := Tryz.sizeOf3
  v3 := Tryz.zeroValue3
  t4 := Tryz.underlying4
  a4 := Tryz.isAgg4
  z4 := Tryz.sizeOf4
  v4 := Tryz.zeroValue4
  t5 := Tryz.underlying5
  a5 := Tryz.isAgg5
  z5 := Tryz.sizeOf5
  v5 := Tryz.zeroValue5
  t9 := Tryz.underlying9
  a9 := Tryz.isAgg9
  z9 := Tryz.sizeOf9
  v9 := Tryz.zeroValue9
  t22 := Tryz.underlying38
  a22 := Tryz.isAgg38
  z22 := Tryz.sizeOf38
  v22 := Tryz.zeroValue38
  t25 := Tryz.underlying44
  a25 := Tryz.isAgg44
  z25 := Tryz.sizeOf44
  v25 := Tryz.zeroValue44
  t39 := Tryz.underlying73
  a39 := Tryz.isAgg73
  z39 := Tryz.sizeOf73
  v39 := Tryz.zeroValue73
  t45 := Tryz.underlying94
  a45 := Tryz.isAgg94
  z45 := Tryz.sizeOf94
  v45 := Tryz.zeroValue94
  t46 := Tryz.underlying95
  a46 := Tryz.isAgg95
  z46 := Tryz.sizeOf95
  v46 := Tryz.zeroValue95
  t50 := Tryz.underlying99
  a50 := Tryz.isAgg99
  z50 := Tryz.sizeOf99
  v50 := Tryz.zeroValue99
  t53 := Tryz.underlying102
  a53 := Tryz.isAgg102
  z53 := Tryz.sizeOf102
  v53 := Tryz.zeroValue102
  t55 := Tryz.underlying104
  a55 := Tryz.isAgg104
  z55 := Tryz.sizeOf104
  v55 := Tryz.zeroValue104
  t66 := Tryz.underlying115
  a66 := Tryz.isAgg115
  z66 := Tryz.sizeOf115
  v66 := Tryz.zeroValue115
  t70 := Tryz.underlying119
  a70 := Tryz.isAgg119
  z70 := Tryz.sizeOf119
  v70 := Tryz.zeroValue119
  t76 := Tryz.underlying122
  a76 := Tryz.isAgg122
  z76 := Tryz.sizeOf122
  v76 := Tryz.zeroValue122
  t77 := Tryz.underlying123
  a77 := Tryz.isAgg123
  z77 := Tryz.sizeOf123
  v77 := Tryz.zeroValue123

theorem sort17_agg : ∀ w, (isAgg (sort17_lays_ren.t 24)).run Tryz.prog w = .ok true w := Tryz.isAgg32
theorem sort17_size : ∀ w, (Go.sizeOf (sort17_lays_ren.t 24)).run Tryz.prog w = .ok 5 w := Tryz.sizeOf32

end Go.Proofs.YtopigbmamejklaaGreat
