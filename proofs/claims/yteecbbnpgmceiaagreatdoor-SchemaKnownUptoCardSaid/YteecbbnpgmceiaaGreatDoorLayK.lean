import Derived.Test.YteecbbnpgmceiaaGreatDoorLeb
import Derived.Shelf.SlIter.Nil
import Derived.Shelf.SlGeneric
import Derived.Shelf.SortM.Plain
import Derived.Shelf.SortM.SortNone
namespace Go.Proofs.YteecbbnpgmceiaaGreatDoor
open Go Go.RowKit Go.Mine Go.Shelf
set_option linter.unusedVariables false

def keysA_ren : Go.Shelf.Ren where
  f := fun x =>
    match x with
    | 7 => 69
    | 10 => 125
    | n => n
  t := fun x =>
    match x with
    | 23 => 124
    | 26 => 9
    | 3 => 3
    | 28 => 129
    | 0 => 0
    | 27 => 128
    | 33 => 149
    | 4 => 4
    | n => n
  g := fun x => x
set_option maxRecDepth 100000 in
theorem keysA : SlLaysZ.n7 Tryz.prog keysA_ren :=
    { mixed := rfl,
      f7 :=
        ⟨"maps.Keys[sibyl/schema.arities,string,int]", by kernel_rfl, Tryz.func69.trans (by kernel_rfl)⟩,
      f10 :=
        ⟨"maps.Keys[sibyl/schema.arities,string,int]$1", by kernel_rfl, Tryz.func125.trans (by kernel_rfl)⟩,
      t0 := Tryz.underlying0, a0 := Tryz.isAgg0, z0 := Tryz.sizeOf0, v0 := Tryz.zeroValue0, t4 := Tryz.underlying4,
      a4 := Tryz.isAgg4, z4 := Tryz.sizeOf4, v4 := Tryz.zeroValue4, t23 := Tryz.underlying124, a23 := Tryz.isAgg124,
      z23 := Tryz.sizeOf124, v23 := Tryz.zeroValue124, t26 := Tryz.underlying9, a26 := Tryz.isAgg9, z26 := Tryz.sizeOf9,
      v26 := Tryz.zeroValue9, t27 := Tryz.underlying128, a27 := Tryz.isAgg128, z27 := Tryz.sizeOf128,
      v27 := Tryz.zeroValue128, t28 := Tryz.underlying129, a28 := Tryz.isAgg129, z28 := Tryz.sizeOf129,
      v28 := Tryz.zeroValue129, t33 := Tryz.underlying149, a33 := Tryz.isAgg149, z33 := Tryz.sizeOf149,
      v33 := Tryz.zeroValue149 }
end Go.Proofs.YteecbbnpgmceiaaGreatDoor
namespace Go.Proofs.YteecbbnpgmceiaaGreatDoor
open Go Go.RowKit Go.Mine Go.Shelf
set_option linter.unusedVariables false

def sortedA_ren : Go.Shelf.Ren where
  f := fun x =>
    match x with
    | 6 => 68
    | 8 => 123
    | 9 => 124
    | 11 => 160
    | 13 => 162
    | 12 => 161
    | 23 => 191
    | 24 => 192
    | 14 => 182
    | 15 => 183
    | 16 => 184
    | 17 => 185
    | 18 => 186
    | 19 => 187
    | 20 => 188
    | 21 => 189
    | 22 => 190
    | 25 => 202
    | 26 => 203
    | 27 => 204
    | 28 => 205
    | 29 => 206
    | 30 => 83
    | 31 => 215
    | n => n
  t := fun x =>
    match x with
    | 26 => 9
    | 28 => 129
    | 24 => 93
    | 0 => 0
    | 3 => 3
    | 37 => 247
    | 48 => 271
    | 50 => 273
    | 4 => 4
    | 40 => 265
    | 39 => 264
    | 45 => 153
    | 5 => 5
    | 9 => 9
    | 51 => 280
    | 55 => 284
    | 57 => 295
    | 58 => 230
    | 33 => 149
    | n => n
  g := fun x => x
set_option maxRecDepth 100000 in
theorem sortedA : SlLaysZ.n6 Tryz.prog sortedA_ren :=
    { mixed := rfl,
      f6 :=
        ⟨"slices.Sorted[string]", by kernel_rfl, Tryz.func68.trans (by kernel_rfl)⟩,
      f8 :=
        ⟨"slices.Collect[string]", by kernel_rfl, Tryz.func123.trans (by kernel_rfl)⟩,
      f11 :=
        ⟨"slices.AppendSeq[[]string,string]", by kernel_rfl, Tryz.func160.trans (by kernel_rfl)⟩,
      t0 := Tryz.underlying0, a0 := Tryz.isAgg0, z0 := Tryz.sizeOf0, v0 := Tryz.zeroValue0, t24 := Tryz.underlying93,
      a24 := Tryz.isAgg93, z24 := Tryz.sizeOf93, v24 := Tryz.zeroValue93, t26 := Tryz.underlying9, a26 := Tryz.isAgg9,
      z26 := Tryz.sizeOf9, v26 := Tryz.zeroValue9, t28 := Tryz.underlying129, a28 := Tryz.isAgg129, z28 := Tryz.sizeOf129,
      v28 := Tryz.zeroValue129, i26 := Eq.refl (some (some (Value.string { data := #[] }), 1, 16)) }
end Go.Proofs.YteecbbnpgmceiaaGreatDoor
namespace Go.Proofs.YteecbbnpgmceiaaGreatDoor
open Go Go.RowKit Go.Mine Go.Shelf
set_option linter.unusedVariables false

def sortA_ren : Go.Shelf.Ren where
  f := fun x =>
    match x with
    | 6 => 124
    | 8 => 162
    | 9 => 161
    | 19 => 191
    | 20 => 192
    | 21 => 182
    | 22 => 183
    | 23 => 184
    | 24 => 185
    | 25 => 186
    | 26 => 187
    | 27 => 188
    | 28 => 189
    | 29 => 190
    | 36 => 202
    | 31 => 203
    | 32 => 204
    | 37 => 205
    | 38 => 206
    | 39 => 83
    | 41 => 215
    | n => n
  t := fun x =>
    match x with
    | 27 => 93
    | 29 => 9
    | 3 => 3
    | 32 => 247
    | 26 => 93
    | 0 => 0
    | 44 => 271
    | 46 => 273
    | 4 => 4
    | 36 => 265
    | 35 => 264
    | 41 => 153
    | 5 => 5
    | 9 => 9
    | 53 => 280
    | 57 => 284
    | 63 => 295
    | 64 => 230
    | n => n
  g := fun x => x
set_option maxRecDepth 100000 in
theorem sortA : SlLaysM.n6 Tryz.prog sortA_ren :=
    { mixed := rfl,
      f6 :=
        ⟨"slices.Sort[[]string,string]", by kernel_rfl, Tryz.func124.trans (by kernel_rfl)⟩,
      f8 := Eq.trans Tryz.func162 (congrArg some (Eq.refl (SlBodyM.n8 sortA_ren))),
      f9 :=
        ⟨"slices.pdqsortOrdered[string]", by kernel_rfl, Tryz.func161.trans (by kernel_rfl)⟩,
      f19 := Eq.trans Tryz.func191 (congrArg some (Eq.refl (SlBodyM.n19 sortA_ren))),
      f20 := Eq.trans Tryz.func192 (congrArg some (Eq.refl (SlBodyM.n20 sortA_ren))),
      f21 :=
        ⟨"slices.insertionSortOrdered[string]", by kernel_rfl, Tryz.func182.trans (by kernel_rfl)⟩,
      f22 :=
        ⟨"slices.heapSortOrdered[string]", by kernel_rfl, Tryz.func183.trans (by kernel_rfl)⟩,
      f23 :=
        ⟨"slices.breakPatternsOrdered[string]", by kernel_rfl, Tryz.func184.trans (by kernel_rfl)⟩,
      f24 :=
        ⟨"slices.choosePivotOrdered[string]", by kernel_rfl, Tryz.func185.trans (by kernel_rfl)⟩,
      f25 :=
        ⟨"slices.reverseRangeOrdered[string]", by kernel_rfl, Tryz.func186.trans (by kernel_rfl)⟩,
      f26 :=
        ⟨"slices.partialInsertionSortOrdered[string]", by kernel_rfl, Tryz.func187.trans (by kernel_rfl)⟩,
      f27 :=
        ⟨"cmp.Less[string]", by kernel_rfl, Tryz.func188.trans (by kernel_rfl)⟩,
      f28 :=
        ⟨"slices.partitionEqualOrdered[string]", by kernel_rfl, Tryz.func189.trans (by kernel_rfl)⟩,
      f29 :=
        ⟨"slices.partitionOrdered[string]", by kernel_rfl, Tryz.func190.trans (by kernel_rfl)⟩,
      f31 := Eq.trans Tryz.func203 (congrArg some (Eq.refl (SlBodyM.n31 sortA_ren))),
      f32 := Eq.trans Tryz.func204 (congrArg some (Eq.refl (SlBodyM.n32 sortA_ren))),
      f36 :=
        ⟨"slices.siftDownOrdered[string]", by kernel_rfl, Tryz.func202.trans (by kernel_rfl)⟩,
      f37 :=
        ⟨"slices.medianAdjacentOrdered[string]", by kernel_rfl, Tryz.func205.trans (by kernel_rfl)⟩,
      f38 :=
        ⟨"slices.medianOrdered[string]", by kernel_rfl, Tryz.func206.trans (by kernel_rfl)⟩,
      f39 :=
        ⟨"cmp.isNaN[string]", by kernel_rfl, Tryz.func83.trans (by kernel_rfl)⟩,
      f41 :=
        ⟨"slices.order2Ordered[string]", by kernel_rfl, Tryz.func215.trans (by kernel_rfl)⟩,
      t0 := Tryz.underlying0, a0 := Tryz.isAgg0, z0 := Tryz.sizeOf0, v0 := Tryz.zeroValue0, t3 := Tryz.underlying3,
      a3 := Tryz.isAgg3, z3 := Tryz.sizeOf3, v3 := Tryz.zeroValue3, t4 := Tryz.underlying4, a4 := Tryz.isAgg4,
      z4 := Tryz.sizeOf4, v4 := Tryz.zeroValue4, t5 := Tryz.underlying5, a5 := Tryz.isAgg5, z5 := Tryz.sizeOf5,
      v5 := Tryz.zeroValue5, t9 := Tryz.underlying9, a9 := Tryz.isAgg9, z9 := Tryz.sizeOf9, v9 := Tryz.zeroValue9,
      t26 := Tryz.underlying93, a26 := Tryz.isAgg93, z26 := Tryz.sizeOf93, v26 := Tryz.zeroValue93,
      t27 := Tryz.underlying93, a27 := Tryz.isAgg93, z27 := Tryz.sizeOf93, v27 := Tryz.zeroValue93, t29 := Tryz.underlying9,
      a29 := Tryz.isAgg9, z29 := Tryz.sizeOf9, v29 := Tryz.zeroValue9, t32 := Tryz.underlying247, a32 := Tryz.isAgg247,
      z32 := Tryz.sizeOf247, v32 := Tryz.zeroValue247, t35 := Tryz.underlying264, a35 := Tryz.isAgg264,
      z35 := Tryz.sizeOf264, v35 := Tryz.zeroValue264, t36 := Tryz.underlying265, a36 := Tryz.isAgg265,
      z36 := Tryz.sizeOf265, v36 := Tryz.zeroValue265, t41 := Tryz.underlying153, a41 := Tryz.isAgg153,
      z41 := Tryz.sizeOf153, v41 := Tryz.zeroValue153, t44 := Tryz.underlying271, a44 := Tryz.isAgg271,
      z44 := Tryz.sizeOf271, v44 := Tryz.zeroValue271, t46 := Tryz.underlying273, a46 := Tryz.isAgg273,
      z46 := Tryz.sizeOf273, v46 := Tryz.zeroValue273, t53 := Tryz.underlying280, a53 := Tryz.isAgg280,
      z53 := Tryz.sizeOf280, v53 := Tryz.zeroValue280, t57 := Tryz.underlying284, a57 := Tryz.isAgg284,
      z57 := Tryz.sizeOf284, v57 := Tryz.zeroValue284, t63 := Tryz.underlying295, a63 := Tryz.isAgg295,
      z63 := Tryz.sizeOf295, v63 := Tryz.zeroValue295, t64 := Tryz.underlying230, a64 := Tryz.isAgg230,
      z64 := Tryz.sizeOf230, v64 := Tryz.zeroValue230 }
end Go.Proofs.YteecbbnpgmceiaaGreatDoor
