import Derived.Test.YteecbbnpgmceiaaDoorLeb
import Derived.Shelf.SortM.Plain
import Derived.Shelf.SortM.SortNone
import Derived.Shelf.SlGeneric
namespace Go.Proofs.YteecbbnpgmceiaaDoor
open Go Go.RowKit Go.Mine Go.Shelf
set_option linter.unusedVariables false

def sortA_ren : Go.Shelf.Ren where
  f := fun x =>
    match x with
    | 6 => 173
    | 8 => 195
    | 9 => 194
    | 19 => 217
    | 20 => 218
    | 21 => 208
    | 22 => 209
    | 23 => 210
    | 24 => 211
    | 25 => 212
    | 26 => 213
    | 27 => 214
    | 28 => 215
    | 29 => 216
    | 36 => 224
    | 31 => 225
    | 32 => 226
    | 37 => 227
    | 38 => 228
    | 39 => 125
    | 41 => 231
    | n => n
  t := fun x =>
    match x with
    | 27 => 115
    | 29 => 9
    | 3 => 3
    | 32 => 226
    | 26 => 115
    | 0 => 0
    | 44 => 281
    | 46 => 266
    | 4 => 4
    | 36 => 275
    | 35 => 274
    | 41 => 186
    | 5 => 5
    | 9 => 9
    | 53 => 291
    | 57 => 295
    | 63 => 297
    | 64 => 55
    | n => n
  g := fun x => x
set_option maxRecDepth 100000 in
theorem sortA : SlLaysM.n6 Tryd.prog sortA_ren :=
    { mixed := rfl,
      f6 :=
        ⟨"slices.Sort[[]string,string]", by kernel_rfl, Tryd.func173.trans (by kernel_rfl)⟩,
      f8 := Eq.trans Tryd.func195 (congrArg some (Eq.refl (SlBodyM.n8 sortA_ren))),
      f9 :=
        ⟨"slices.pdqsortOrdered[string]", by kernel_rfl, Tryd.func194.trans (by kernel_rfl)⟩,
      f19 := Eq.trans Tryd.func217 (congrArg some (Eq.refl (SlBodyM.n19 sortA_ren))),
      f20 := Eq.trans Tryd.func218 (congrArg some (Eq.refl (SlBodyM.n20 sortA_ren))),
      f21 :=
        ⟨"slices.insertionSortOrdered[string]", by kernel_rfl, Tryd.func208.trans (by kernel_rfl)⟩,
      f22 :=
        ⟨"slices.heapSortOrdered[string]", by kernel_rfl, Tryd.func209.trans (by kernel_rfl)⟩,
      f23 :=
        ⟨"slices.breakPatternsOrdered[string]", by kernel_rfl, Tryd.func210.trans (by kernel_rfl)⟩,
      f24 :=
        ⟨"slices.choosePivotOrdered[string]", by kernel_rfl, Tryd.func211.trans (by kernel_rfl)⟩,
      f25 :=
        ⟨"slices.reverseRangeOrdered[string]", by kernel_rfl, Tryd.func212.trans (by kernel_rfl)⟩,
      f26 :=
        ⟨"slices.partialInsertionSortOrdered[string]", by kernel_rfl, Tryd.func213.trans (by kernel_rfl)⟩,
      f27 :=
        ⟨"cmp.Less[string]", by kernel_rfl, Tryd.func214.trans (by kernel_rfl)⟩,
      f28 :=
        ⟨"slices.partitionEqualOrdered[string]", by kernel_rfl, Tryd.func215.trans (by kernel_rfl)⟩,
      f29 :=
        ⟨"slices.partitionOrdered[string]", by kernel_rfl, Tryd.func216.trans (by kernel_rfl)⟩,
      f31 := Eq.trans Tryd.func225 (congrArg some (Eq.refl (SlBodyM.n31 sortA_ren))),
      f32 := Eq.trans Tryd.func226 (congrArg some (Eq.refl (SlBodyM.n32 sortA_ren))),
      f36 :=
        ⟨"slices.siftDownOrdered[string]", by kernel_rfl, Tryd.func224.trans (by kernel_rfl)⟩,
      f37 :=
        ⟨"slices.medianAdjacentOrdered[string]", by kernel_rfl, Tryd.func227.trans (by kernel_rfl)⟩,
      f38 :=
        ⟨"slices.medianOrdered[string]", by kernel_rfl, Tryd.func228.trans (by kernel_rfl)⟩,
      f39 :=
        ⟨"cmp.isNaN[string]", by kernel_rfl, Tryd.func125.trans (by kernel_rfl)⟩,
      f41 :=
        ⟨"slices.order2Ordered[string]", by kernel_rfl, Tryd.func231.trans (by kernel_rfl)⟩,
      t0 := Tryd.underlying0, a0 := Tryd.isAgg0, z0 := Tryd.sizeOf0, v0 := Tryd.zeroValue0, t3 := Tryd.underlying3,
      a3 := Tryd.isAgg3, z3 := Tryd.sizeOf3, v3 := Tryd.zeroValue3, t4 := Tryd.underlying4, a4 := Tryd.isAgg4,
      z4 := Tryd.sizeOf4, v4 := Tryd.zeroValue4, t5 := Tryd.underlying5, a5 := Tryd.isAgg5, z5 := Tryd.sizeOf5,
      v5 := Tryd.zeroValue5, t9 := Tryd.underlying9, a9 := Tryd.isAgg9, z9 := Tryd.sizeOf9, v9 := Tryd.zeroValue9,
      t26 := Tryd.underlying115, a26 := Tryd.isAgg115, z26 := Tryd.sizeOf115, v26 := Tryd.zeroValue115,
      t27 := Tryd.underlying115, a27 := Tryd.isAgg115, z27 := Tryd.sizeOf115, v27 := Tryd.zeroValue115,
      t29 := Tryd.underlying9, a29 := Tryd.isAgg9, z29 := Tryd.sizeOf9, v29 := Tryd.zeroValue9, t32 := Tryd.underlying226,
      a32 := Tryd.isAgg226, z32 := Tryd.sizeOf226, v32 := Tryd.zeroValue226, t35 := Tryd.underlying274,
      a35 := Tryd.isAgg274, z35 := Tryd.sizeOf274, v35 := Tryd.zeroValue274, t36 := Tryd.underlying275,
      a36 := Tryd.isAgg275, z36 := Tryd.sizeOf275, v36 := Tryd.zeroValue275, t41 := Tryd.underlying186,
      a41 := Tryd.isAgg186, z41 := Tryd.sizeOf186, v41 := Tryd.zeroValue186, t44 := Tryd.underlying281,
      a44 := Tryd.isAgg281, z44 := Tryd.sizeOf281, v44 := Tryd.zeroValue281, t46 := Tryd.underlying266,
      a46 := Tryd.isAgg266, z46 := Tryd.sizeOf266, v46 := Tryd.zeroValue266, t53 := Tryd.underlying291,
      a53 := Tryd.isAgg291, z53 := Tryd.sizeOf291, v53 := Tryd.zeroValue291, t57 := Tryd.underlying295,
      a57 := Tryd.isAgg295, z57 := Tryd.sizeOf295, v57 := Tryd.zeroValue295, t63 := Tryd.underlying297,
      a63 := Tryd.isAgg297, z63 := Tryd.sizeOf297, v63 := Tryd.zeroValue297, t64 := Tryd.underlying55, a64 := Tryd.isAgg55,
      z64 := Tryd.sizeOf55, v64 := Tryd.zeroValue55 }
end Go.Proofs.YteecbbnpgmceiaaDoor
