import Derived.Test.YtjoiaejbahdjkaaGreatLeb
import Derived.Shelf.SlIter.Nil
import Derived.Shelf.SlGeneric
import Derived.Shelf.SortM.Plain
import Derived.Shelf.SortM.SortNone
import Derived.Shelf.SlMaps.Clone
namespace Go.Proofs.YtjoiaejbahdjkaaGreat
open Go Go.RowKit Go.Mine Go.Shelf
set_option linter.unusedVariables false
def keysA_ren : Go.Shelf.Ren where
  f := fun x =>
    match x with
    | 7 => 87
    | 10 => 103
    | n => n
  t := fun x =>
    match x with
    | 23 => 44
    | 26 => 9
    | 3 => 23
    | 28 => 131
    | 0 => 0
    | 27 => 130
    | 33 => 54
    | 4 => 4
    | n => n
  g := fun x => x
set_option maxRecDepth 100000 in
theorem keysA : SlLaysZ.n7 Tryz.prog keysA_ren :=
    { mixed := rfl,
      f7 :=
        ⟨"maps.Keys[map[string][]byte,string,[]byte]", by kernel_rfl, Tryz.func87.trans (by kernel_rfl)⟩,
      f10 :=
        ⟨"maps.Keys[map[string][]byte,string,[]byte]$1", by kernel_rfl, Tryz.func103.trans (by kernel_rfl)⟩,
      t0 := Tryz.underlying0, a0 := Tryz.isAgg0, z0 := Tryz.sizeOf0, v0 := Tryz.zeroValue0, t4 := Tryz.underlying4,
      a4 := Tryz.isAgg4, z4 := Tryz.sizeOf4, v4 := Tryz.zeroValue4, t23 := Tryz.underlying44, a23 := Tryz.isAgg44,
      z23 := Tryz.sizeOf44, v23 := Tryz.zeroValue44, t26 := Tryz.underlying9, a26 := Tryz.isAgg9, z26 := Tryz.sizeOf9,
      v26 := Tryz.zeroValue9, t27 := Tryz.underlying130, a27 := Tryz.isAgg130, z27 := Tryz.sizeOf130,
      v27 := Tryz.zeroValue130, t28 := Tryz.underlying131, a28 := Tryz.isAgg131, z28 := Tryz.sizeOf131,
      v28 := Tryz.zeroValue131, t33 := Tryz.underlying54, a33 := Tryz.isAgg54, z33 := Tryz.sizeOf54,
      v33 := Tryz.zeroValue54 }
end Go.Proofs.YtjoiaejbahdjkaaGreat
namespace Go.Proofs.YtjoiaejbahdjkaaGreat
open Go Go.RowKit Go.Mine Go.Shelf
set_option linter.unusedVariables false
def sortedA_ren : Go.Shelf.Ren where
  f := fun x =>
    match x with
    | 6 => 86
    | 8 => 101
    | 9 => 102
    | 11 => 120
    | 13 => 122
    | 12 => 121
    | 23 => 147
    | 24 => 148
    | 14 => 138
    | 15 => 139
    | 16 => 140
    | 17 => 141
    | 18 => 142
    | 19 => 143
    | 20 => 144
    | 21 => 145
    | 22 => 146
    | 25 => 162
    | 26 => 163
    | 27 => 164
    | 28 => 165
    | 29 => 166
    | 30 => 167
    | 31 => 191
    | n => n
  t := fun x =>
    match x with
    | 26 => 9
    | 28 => 131
    | 24 => 81
    | 0 => 0
    | 3 => 3
    | 37 => 95
    | 48 => 58
    | 50 => 66
    | 4 => 4
    | 40 => 191
    | 39 => 190
    | 45 => 196
    | 5 => 5
    | 9 => 9
    | 51 => 218
    | 55 => 221
    | 57 => 230
    | 58 => 231
    | 33 => 54
    | n => n
  g := fun x => x
set_option maxRecDepth 100000 in
theorem sortedA : SlLaysZ.n6 Tryz.prog sortedA_ren :=
    { mixed := rfl,
      f6 :=
        ⟨"slices.Sorted[string]", by kernel_rfl, Tryz.func86.trans (by kernel_rfl)⟩,
      f8 :=
        ⟨"slices.Collect[string]", by kernel_rfl, Tryz.func101.trans (by kernel_rfl)⟩,
      f11 :=
        ⟨"slices.AppendSeq[[]string,string]", by kernel_rfl, Tryz.func120.trans (by kernel_rfl)⟩,
      t0 := Tryz.underlying0, a0 := Tryz.isAgg0, z0 := Tryz.sizeOf0, v0 := Tryz.zeroValue0, t24 := Tryz.underlying81,
      a24 := Tryz.isAgg81, z24 := Tryz.sizeOf81, v24 := Tryz.zeroValue81, t26 := Tryz.underlying9, a26 := Tryz.isAgg9,
      z26 := Tryz.sizeOf9, v26 := Tryz.zeroValue9, t28 := Tryz.underlying131, a28 := Tryz.isAgg131, z28 := Tryz.sizeOf131,
      v28 := Tryz.zeroValue131, i26 := Eq.refl (some (some (Value.string { data := #[] }), 1, 16)) }
end Go.Proofs.YtjoiaejbahdjkaaGreat
namespace Go.Proofs.YtjoiaejbahdjkaaGreat
open Go Go.RowKit Go.Mine Go.Shelf
set_option linter.unusedVariables false
def sortA_ren : Go.Shelf.Ren where
  f := fun x =>
    match x with
    | 6 => 102
    | 8 => 122
    | 9 => 121
    | 19 => 147
    | 20 => 148
    | 21 => 138
    | 22 => 139
    | 23 => 140
    | 24 => 141
    | 25 => 142
    | 26 => 143
    | 27 => 144
    | 28 => 145
    | 29 => 146
    | 36 => 162
    | 31 => 163
    | 32 => 164
    | 37 => 165
    | 38 => 166
    | 39 => 167
    | 41 => 191
    | n => n
  t := fun x =>
    match x with
    | 27 => 81
    | 29 => 9
    | 3 => 3
    | 32 => 95
    | 26 => 81
    | 0 => 0
    | 44 => 58
    | 46 => 66
    | 4 => 4
    | 36 => 191
    | 35 => 190
    | 41 => 196
    | 5 => 5
    | 9 => 9
    | 53 => 218
    | 57 => 221
    | 63 => 230
    | 64 => 231
    | n => n
  g := fun x => x
set_option maxRecDepth 100000 in
theorem sortA : SlLaysM.n6 Tryz.prog sortA_ren :=
    { mixed := rfl,
      f6 :=
        ⟨"slices.Sort[[]string,string]", by kernel_rfl, Tryz.func102.trans (by kernel_rfl)⟩,
      f8 := Eq.trans Tryz.func122 (congrArg some (Eq.refl (SlBodyM.n8 sortA_ren))),
      f9 :=
        ⟨"slices.pdqsortOrdered[string]", by kernel_rfl, Tryz.func121.trans (by kernel_rfl)⟩,
      f19 := Eq.trans Tryz.func147 (congrArg some (Eq.refl (SlBodyM.n19 sortA_ren))),
      f20 := Eq.trans Tryz.func148 (congrArg some (Eq.refl (SlBodyM.n20 sortA_ren))),
      f21 :=
        ⟨"slices.insertionSortOrdered[string]", by kernel_rfl, Tryz.func138.trans (by kernel_rfl)⟩,
      f22 :=
        ⟨"slices.heapSortOrdered[string]", by kernel_rfl, Tryz.func139.trans (by kernel_rfl)⟩,
      f23 :=
        ⟨"slices.breakPatternsOrdered[string]", by kernel_rfl, Tryz.func140.trans (by kernel_rfl)⟩,
      f24 :=
        ⟨"slices.choosePivotOrdered[string]", by kernel_rfl, Tryz.func141.trans (by kernel_rfl)⟩,
      f25 :=
        ⟨"slices.reverseRangeOrdered[string]", by kernel_rfl, Tryz.func142.trans (by kernel_rfl)⟩,
      f26 :=
        ⟨"slices.partialInsertionSortOrdered[string]", by kernel_rfl, Tryz.func143.trans (by kernel_rfl)⟩,
      f27 :=
        ⟨"cmp.Less[string]", by kernel_rfl, Tryz.func144.trans (by kernel_rfl)⟩,
      f28 :=
        ⟨"slices.partitionEqualOrdered[string]", by kernel_rfl, Tryz.func145.trans (by kernel_rfl)⟩,
      f29 :=
        ⟨"slices.partitionOrdered[string]", by kernel_rfl, Tryz.func146.trans (by kernel_rfl)⟩,
      f31 := Eq.trans Tryz.func163 (congrArg some (Eq.refl (SlBodyM.n31 sortA_ren))),
      f32 := Eq.trans Tryz.func164 (congrArg some (Eq.refl (SlBodyM.n32 sortA_ren))),
      f36 :=
        ⟨"slices.siftDownOrdered[string]", by kernel_rfl, Tryz.func162.trans (by kernel_rfl)⟩,
      f37 :=
        ⟨"slices.medianAdjacentOrdered[string]", by kernel_rfl, Tryz.func165.trans (by kernel_rfl)⟩,
      f38 :=
        ⟨"slices.medianOrdered[string]", by kernel_rfl, Tryz.func166.trans (by kernel_rfl)⟩,
      f39 :=
        ⟨"cmp.isNaN[string]", by kernel_rfl, Tryz.func167.trans (by kernel_rfl)⟩,
      f41 :=
        ⟨"slices.order2Ordered[string]", by kernel_rfl, Tryz.func191.trans (by kernel_rfl)⟩,
      t0 := Tryz.underlying0, a0 := Tryz.isAgg0, z0 := Tryz.sizeOf0, v0 := Tryz.zeroValue0, t3 := Tryz.underlying3,
      a3 := Tryz.isAgg3, z3 := Tryz.sizeOf3, v3 := Tryz.zeroValue3, t4 := Tryz.underlying4, a4 := Tryz.isAgg4,
      z4 := Tryz.sizeOf4, v4 := Tryz.zeroValue4, t5 := Tryz.underlying5, a5 := Tryz.isAgg5, z5 := Tryz.sizeOf5,
      v5 := Tryz.zeroValue5, t9 := Tryz.underlying9, a9 := Tryz.isAgg9, z9 := Tryz.sizeOf9, v9 := Tryz.zeroValue9,
      t26 := Tryz.underlying81, a26 := Tryz.isAgg81, z26 := Tryz.sizeOf81, v26 := Tryz.zeroValue81,
      t27 := Tryz.underlying81, a27 := Tryz.isAgg81, z27 := Tryz.sizeOf81, v27 := Tryz.zeroValue81, t29 := Tryz.underlying9,
      a29 := Tryz.isAgg9, z29 := Tryz.sizeOf9, v29 := Tryz.zeroValue9, t32 := Tryz.underlying95, a32 := Tryz.isAgg95,
      z32 := Tryz.sizeOf95, v32 := Tryz.zeroValue95, t35 := Tryz.underlying190, a35 := Tryz.isAgg190, z35 := Tryz.sizeOf190,
      v35 := Tryz.zeroValue190, t36 := Tryz.underlying191, a36 := Tryz.isAgg191, z36 := Tryz.sizeOf191,
      v36 := Tryz.zeroValue191, t41 := Tryz.underlying196, a41 := Tryz.isAgg196, z41 := Tryz.sizeOf196,
      v41 := Tryz.zeroValue196, t44 := Tryz.underlying58, a44 := Tryz.isAgg58, z44 := Tryz.sizeOf58,
      v44 := Tryz.zeroValue58, t46 := Tryz.underlying66, a46 := Tryz.isAgg66, z46 := Tryz.sizeOf66, v46 := Tryz.zeroValue66,
      t53 := Tryz.underlying218, a53 := Tryz.isAgg218, z53 := Tryz.sizeOf218, v53 := Tryz.zeroValue218,
      t57 := Tryz.underlying221, a57 := Tryz.isAgg221, z57 := Tryz.sizeOf221, v57 := Tryz.zeroValue221,
      t63 := Tryz.underlying230, a63 := Tryz.isAgg230, z63 := Tryz.sizeOf230, v63 := Tryz.zeroValue230,
      t64 := Tryz.underlying231, a64 := Tryz.isAgg231, z64 := Tryz.sizeOf231, v64 := Tryz.zeroValue231 }
end Go.Proofs.YtjoiaejbahdjkaaGreat
namespace Go.Proofs.YtjoiaejbahdjkaaGreat
open Go Go.RowKit Go.Mine Go.Shelf
set_option linter.unusedVariables false
def cloneA_ren : Go.Shelf.Ren where
  f := fun x =>
    match x with
    | 5 => 47
    | 7 => 80
    | n => n
  t := fun x =>
    match x with
    | 23 => 44
    | 25 => 9
    | 3 => 23
    | 4 => 4
    | 20 => 20
    | n => n
  g := fun x => x
set_option maxRecDepth 100000 in
theorem cloneA : SlLaysW.n5 Tryz.prog cloneA_ren :=
    { mixed := rfl,
      f5 :=
        ⟨"maps.Clone[map[string][]byte,string,[]byte]", by kernel_rfl, Tryz.func47.trans (by kernel_rfl)⟩,
      f7 := Eq.trans Tryz.func80 (congrArg some (Eq.refl (SlBodyW.n7 cloneA_ren))), t4 := Tryz.underlying4,
      a4 := Tryz.isAgg4, z4 := Tryz.sizeOf4, v4 := Tryz.zeroValue4, t20 := Tryz.underlying20, a20 := Tryz.isAgg20,
      z20 := Tryz.sizeOf20, v20 := Tryz.zeroValue20, t23 := Tryz.underlying44, a23 := Tryz.isAgg44, z23 := Tryz.sizeOf44,
      v23 := Tryz.zeroValue44 }
end Go.Proofs.YtjoiaejbahdjkaaGreat
