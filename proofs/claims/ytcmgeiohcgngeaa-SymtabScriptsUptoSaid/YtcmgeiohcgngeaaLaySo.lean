import Derived.Test.YtcmgeiohcgngeaaLeb
import Derived.Shelf.SlSortCmp.Whole1
import Derived.Shelf.SlGeneric
namespace Go.Proofs.Ytcmgeiohcgngeaa
open Go Go.RowKit Go.Mine Go.Shelf
set_option linter.unusedVariables false

def sortFz_ren : Go.Shelf.Ren where
  f := fun x =>
    match x with
    | 6 => 33
    | 15 => 43
    | 14 => 42
    | 28 => 61
    | 29 => 62
    | 20 => 53
    | 21 => 54
    | 22 => 55
    | 23 => 56
    | 24 => 57
    | 25 => 58
    | 26 => 59
    | 27 => 60
    | 46 => 69
    | 47 => 70
    | 48 => 71
    | 49 => 72
    | 50 => 73
    | 57 => 84
    | n => n
  t := fun x =>
    match x with
    | 22 => 39
    | 24 => 3
    | 25 => 24
    | 3 => 3
    | 39 => 77
    | 0 => 0
    | 53 => 93
    | 55 => 82
    | 4 => 4
    | 46 => 87
    | 45 => 86
    | 50 => 43
    | 5 => 5
    | 9 => 9
    | 66 => 103
    | 70 => 107
    | 76 => 116
    | 77 => 117
    | n => n
  g := fun x => x
set_option maxRecDepth 100000 in
theorem sortFz : SlLaysF.n6 Try.prog sortFz_ren :=
    { mixed := rfl,
      f6 :=
        ⟨"slices.SortFunc[[]int,int]", by kernel_rfl, Try.func33.trans (by kernel_rfl)⟩,
      f14 :=
        ⟨"slices.pdqsortCmpFunc[int]", by kernel_rfl, Try.func42.trans (by kernel_rfl)⟩,
      f15 := Eq.trans Try.func43 (congrArg some (Eq.refl (SlBodyF.n15 sortFz_ren))),
      f20 :=
        ⟨"slices.insertionSortCmpFunc[int]", by kernel_rfl, Try.func53.trans (by kernel_rfl)⟩,
      f21 :=
        ⟨"slices.heapSortCmpFunc[int]", by kernel_rfl, Try.func54.trans (by kernel_rfl)⟩,
      f22 :=
        ⟨"slices.breakPatternsCmpFunc[int]", by kernel_rfl, Try.func55.trans (by kernel_rfl)⟩,
      f23 :=
        ⟨"slices.choosePivotCmpFunc[int]", by kernel_rfl, Try.func56.trans (by kernel_rfl)⟩,
      f24 :=
        ⟨"slices.reverseRangeCmpFunc[int]", by kernel_rfl, Try.func57.trans (by kernel_rfl)⟩,
      f25 :=
        ⟨"slices.partialInsertionSortCmpFunc[int]", by kernel_rfl, Try.func58.trans (by kernel_rfl)⟩,
      f26 :=
        ⟨"slices.partitionEqualCmpFunc[int]", by kernel_rfl, Try.func59.trans (by kernel_rfl)⟩,
      f27 :=
        ⟨"slices.partitionCmpFunc[int]", by kernel_rfl, Try.func60.trans (by kernel_rfl)⟩,
      f28 := Eq.trans Try.func61 (congrArg some (Eq.refl (SlBodyF.n28 sortFz_ren))),
      f29 := Eq.trans Try.func62 (congrArg some (Eq.refl (SlBodyF.n29 sortFz_ren))),
      f46 :=
        ⟨"slices.siftDownCmpFunc[int]", by kernel_rfl, Try.func69.trans (by kernel_rfl)⟩,
      f47 := Eq.trans Try.func70 (congrArg some (Eq.refl (SlBodyF.n47 sortFz_ren))),
      f48 := Eq.trans Try.func71 (congrArg some (Eq.refl (SlBodyF.n48 sortFz_ren))),
      f49 :=
        ⟨"slices.medianAdjacentCmpFunc[int]", by kernel_rfl, Try.func72.trans (by kernel_rfl)⟩,
      f50 :=
        ⟨"slices.medianCmpFunc[int]", by kernel_rfl, Try.func73.trans (by kernel_rfl)⟩,
      f57 :=
        ⟨"slices.order2CmpFunc[int]", by kernel_rfl, Try.func84.trans (by kernel_rfl)⟩,
      t0 := Try.underlying0, a0 := Try.isAgg0, z0 := Try.sizeOf0, v0 := Try.zeroValue0, t3 := Try.underlying3,
      a3 := Try.isAgg3, z3 := Try.sizeOf3, v3 := Try.zeroValue3, t4 := Try.underlying4, a4 := Try.isAgg4, z4 := Try.sizeOf4,
      v4 := Try.zeroValue4, t5 := Try.underlying5, a5 := Try.isAgg5, z5 := Try.sizeOf5, v5 := Try.zeroValue5,
      t9 := Try.underlying9, a9 := Try.isAgg9, z9 := Try.sizeOf9, v9 := Try.zeroValue9, t22 := Try.underlying39,
      a22 := Try.isAgg39, z22 := Try.sizeOf39, v22 := Try.zeroValue39, a24 := Try.isAgg3, z24 := Try.sizeOf3,
      t25 := Try.underlying24, a25 := Try.isAgg24, z25 := Try.sizeOf24, v25 := Try.zeroValue24, t39 := Try.underlying77,
      a39 := Try.isAgg77, z39 := Try.sizeOf77, v39 := Try.zeroValue77, t45 := Try.underlying86, a45 := Try.isAgg86,
      z45 := Try.sizeOf86, v45 := Try.zeroValue86, t46 := Try.underlying87, a46 := Try.isAgg87, z46 := Try.sizeOf87,
      v46 := Try.zeroValue87, t50 := Try.underlying43, a50 := Try.isAgg43, z50 := Try.sizeOf43, v50 := Try.zeroValue43,
      t53 := Try.underlying93, a53 := Try.isAgg93, z53 := Try.sizeOf93, v53 := Try.zeroValue93, t55 := Try.underlying82,
      a55 := Try.isAgg82, z55 := Try.sizeOf82, v55 := Try.zeroValue82, t66 := Try.underlying103, a66 := Try.isAgg103,
      z66 := Try.sizeOf103, v66 := Try.zeroValue103, t70 := Try.underlying107, a70 := Try.isAgg107, z70 := Try.sizeOf107,
      v70 := Try.zeroValue107, t76 := Try.underlying116, a76 := Try.isAgg116, z76 := Try.sizeOf116, v76 := Try.zeroValue116,
      t77 := Try.underlying117, a77 := Try.isAgg117, z77 := Try.sizeOf117, v77 := Try.zeroValue117 }
end Go.Proofs.Ytcmgeiohcgngeaa
