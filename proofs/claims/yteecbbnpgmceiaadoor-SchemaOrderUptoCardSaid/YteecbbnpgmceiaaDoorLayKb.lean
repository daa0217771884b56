import Derived.Test.YteecbbnpgmceiaaDoorLeb
import Derived.Shelf.SlIter.Nil
import Derived.Shelf.SlGeneric
namespace Go.Proofs.YteecbbnpgmceiaaDoor
open Go Go.RowKit Go.Mine Go.Shelf
set_option linter.unusedVariables false

def sortedA_ren : Go.Shelf.Ren where
  f := fun x =>
    match x with
    | 6 => 143
    | 8 => 172
    | 9 => 173
    | 11 => 193
    | 13 => 195
    | 12 => 194
    | 23 => 217
    | 24 => 218
    | 14 => 208
    | 15 => 209
    | 16 => 210
    | 17 => 211
    | 18 => 212
    | 19 => 213
    | 20 => 214
    | 21 => 215
    | 22 => 216
    | 25 => 224
    | 26 => 225
    | 27 => 226
    | 28 => 227
    | 29 => 228
    | 30 => 125
    | 31 => 231
    | n => n
  t := fun x =>
    match x with
    | 26 => 9
    | 28 => 212
    | 24 => 115
    | 0 => 0
    | 3 => 3
    | 37 => 226
    | 48 => 281
    | 50 => 266
    | 4 => 4
    | 40 => 275
    | 39 => 274
    | 45 => 186
    | 5 => 5
    | 9 => 9
    | 51 => 291
    | 55 => 295
    | 57 => 297
    | 58 => 55
    | 33 => 185
    | n => n
  g := fun x => x
set_option maxRecDepth 100000 in
theorem sortedA : SlLaysZ.n6 Tryd.prog sortedA_ren :=
    { mixed := rfl,
      f6 :=
        ⟨"slices.Sorted[string]", by kernel_rfl, Tryd.func143.trans (by kernel_rfl)⟩,
      f8 :=
        ⟨"slices.Collect[string]", by kernel_rfl, Tryd.func172.trans (by kernel_rfl)⟩,
      f11 :=
        ⟨"slices.AppendSeq[[]string,string]", by kernel_rfl, Tryd.func193.trans (by kernel_rfl)⟩,
      t0 := Tryd.underlying0, a0 := Tryd.isAgg0, z0 := Tryd.sizeOf0, v0 := Tryd.zeroValue0, t24 := Tryd.underlying115,
      a24 := Tryd.isAgg115, z24 := Tryd.sizeOf115, v24 := Tryd.zeroValue115, t26 := Tryd.underlying9, a26 := Tryd.isAgg9,
      z26 := Tryd.sizeOf9, v26 := Tryd.zeroValue9, t28 := Tryd.underlying212, a28 := Tryd.isAgg212, z28 := Tryd.sizeOf212,
      v28 := Tryd.zeroValue212, i26 := Eq.refl (some (some (Value.string { data := #[] }), 1, 16)) }
end Go.Proofs.YteecbbnpgmceiaaDoor
