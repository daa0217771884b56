import Derived.Test.YtcmgeiohcgngeaaLeb
import Derived.Shelf.SortM.Plain
import Derived.Shelf.SortM.SortNone
import Derived.Shelf.SlGeneric
namespace Go.Proofs.Ytcmgeiohcgngeaa
open Go Go.RowKit Go.Mine Go.Shelf
set_option linter.unusedVariables false

def sortZ_ren : Go.Shelf.Ren where
  f := fun x =>
    match x with
    | 6 => 46
    | 8 => 43
    | 9 => 64
    | 19 => 61
    | 20 => 62
    | 21 => 74
    | 22 => 75
    | 23 => 76
    | 24 => 77
    | 25 => 78
    | 26 => 79
    | 27 => 80
    | 28 => 81
    | 29 => 82
    | 36 => 85
    | 31 => 70
    | 32 => 71
    | 37 => 86
    | 38 => 87
    | 39 => 44
    | 41 => 88
    | n => n
  t := fun x =>
    match x with
    | 27 => 30
    | 29 => 9
    | 3 => 3
    | 32 => 77
    | 26 => 30
    | 0 => 0
    | 44 => 93
    | 46 => 82
    | 4 => 4
    | 36 => 87
    | 35 => 86
    | 41 => 43
    | 5 => 5
    | 9 => 9
    | 53 => 103
    | 57 => 107
    | 63 => 116
    | 64 => 117
    | n => n
  g := fun x => x
set_option maxRecDepth 100000 in
theorem sortZ : SlLaysM.n6 Try.prog sortZ_ren :=
    { mixed := rfl,
      f6 :=
        ⟨"slices.Sort[[]string,string]", by kernel_rfl, Try.func46.trans (by kernel_rfl)⟩,
      f8 := Eq.trans Try.func43 (congrArg some (Eq.refl (SlBodyM.n8 sortZ_ren))),
      f9 :=
        ⟨"slices.pdqsortOrdered[string]", by kernel_rfl, Try.func64.trans (by kernel_rfl)⟩,
      f19 := Eq.trans Try.func61 (congrArg some (Eq.refl (SlBodyM.n19 sortZ_ren))),
      f20 := Eq.trans Try.func62 (congrArg some (Eq.refl (SlBodyM.n20 sortZ_ren))),
      f21 :=
        ⟨"slices.insertionSortOrdered[string]", by kernel_rfl, Try.func74.trans (by kernel_rfl)⟩,
      f22 :=
        ⟨"slices.heapSortOrdered[string]", by kernel_rfl, Try.func75.trans (by kernel_rfl)⟩,
      f23 :=
        ⟨"slices.breakPatternsOrdered[string]", by kernel_rfl, Try.func76.trans (by kernel_rfl)⟩,
      f24 :=
        ⟨"slices.choosePivotOrdered[string]", by kernel_rfl, Try.func77.trans (by kernel_rfl)⟩,
      f25 :=
        ⟨"slices.reverseRangeOrdered[string]", by kernel_rfl, Try.func78.trans (by kernel_rfl)⟩,
      f26 :=
        ⟨"slices.partialInsertionSortOrdered[string]", by kernel_rfl, Try.func79.trans (by kernel_rfl)⟩,
      f27 :=
        ⟨"cmp.Less[string]", by kernel_rfl, Try.func80.trans (by kernel_rfl)⟩,
      f28 :=
        ⟨"slices.partitionEqualOrdered[string]", by kernel_rfl, Try.func81.trans (by kernel_rfl)⟩,
      f29 :=
        ⟨"slices.partitionOrdered[string]", by kernel_rfl, Try.func82.trans (by kernel_rfl)⟩,
      f31 := Eq.trans Try.func70 (congrArg some (Eq.refl (SlBodyM.n31 sortZ_ren))),
      f32 := Eq.trans Try.func71 (congrArg some (Eq.refl (SlBodyM.n32 sortZ_ren))),
      f36 :=
        ⟨"slices.siftDownOrdered[string]", by kernel_rfl, Try.func85.trans (by kernel_rfl)⟩,
      f37 :=
        ⟨"slices.medianAdjacentOrdered[string]", by kernel_rfl, Try.func86.trans (by kernel_rfl)⟩,
      f38 :=
        ⟨"slices.medianOrdered[string]", by kernel_rfl, Try.func87.trans (by kernel_rfl)⟩,
      f39 :=
        ⟨"cmp.isNaN[string]", by kernel_rfl, Try.func44.trans (by kernel_rfl)⟩,
      f41 :=
        ⟨"slices.order2Ordered[string]", by kernel_rfl, Try.func88.trans (by kernel_rfl)⟩,
      t0 := Try.underlying0, a0 := Try.isAgg0, z0 := Try.sizeOf0, v0 := Try.zeroValue0, t3 := Try.underlying3,
      a3 := Try.isAgg3, z3 := Try.sizeOf3, v3 := Try.zeroValue3, t4 := Try.underlying4, a4 := Try.isAgg4, z4 := Try.sizeOf4,
      v4 := Try.zeroValue4, t5 := Try.underlying5, a5 := Try.isAgg5, z5 := Try.sizeOf5, v5 := Try.zeroValue5,
      t9 := Try.underlying9, a9 := Try.isAgg9, z9 := Try.sizeOf9, v9 := Try.zeroValue9, t26 := Try.underlying30,
      a26 := Try.isAgg30, z26 := Try.sizeOf30, v26 := Try.zeroValue30, t27 := Try.underlying30, a27 := Try.isAgg30,
      z27 := Try.sizeOf30, v27 := Try.zeroValue30, t29 := Try.underlying9, a29 := Try.isAgg9, z29 := Try.sizeOf9,
      v29 := Try.zeroValue9, t32 := Try.underlying77, a32 := Try.isAgg77, z32 := Try.sizeOf77, v32 := Try.zeroValue77,
      t35 := Try.underlying86, a35 := Try.isAgg86, z35 := Try.sizeOf86, v35 := Try.zeroValue86, t36 := Try.underlying87,
      a36 := Try.isAgg87, z36 := Try.sizeOf87, v36 := Try.zeroValue87, t41 := Try.underlying43, a41 := Try.isAgg43,
      z41 := Try.sizeOf43, v41 := Try.zeroValue43, t44 := Try.underlying93, a44 := Try.isAgg93, z44 := Try.sizeOf93,
      v44 := Try.zeroValue93, t46 := Try.underlying82, a46 := Try.isAgg82, z46 := Try.sizeOf82, v46 := Try.zeroValue82,
      t53 := Try.underlying103, a53 := Try.isAgg103, z53 := Try.sizeOf103, v53 := Try.zeroValue103,
      t57 := Try.underlying107, a57 := Try.isAgg107, z57 := Try.sizeOf107, v57 := Try.zeroValue107,
      t63 := Try.underlying116, a63 := Try.isAgg116, z63 := Try.sizeOf116, v63 := Try.zeroValue116,
      t64 := Try.underlying117, a64 := Try.isAgg117, z64 := Try.sizeOf117, v64 := Try.zeroValue117 }
end Go.Proofs.Ytcmgeiohcgngeaa
