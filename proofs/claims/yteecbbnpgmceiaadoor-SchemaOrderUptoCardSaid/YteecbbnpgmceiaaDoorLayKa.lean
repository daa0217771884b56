import Derived.Test.YteecbbnpgmceiaaDoorLeb
import Derived.Shelf.SlIter.Nil
import Derived.Shelf.SlGeneric
namespace Go.Proofs.YteecbbnpgmceiaaDoor
open Go Go.RowKit Go.Mine Go.Shelf
set_option linter.unusedVariables false

def keysA_ren : Go.Shelf.Ren where
  f := fun x =>
    match x with
    | 7 => 144
    | 10 => 174
    | n => n
  t := fun x =>
    match x with
    | 23 => 107
    | 26 => 9
    | 3 => 3
    | 28 => 212
    | 0 => 0
    | 27 => 211
    | 33 => 185
    | 4 => 4
    | n => n
  g := fun x => x
set_option maxRecDepth 100000 in
theorem keysA : SlLaysZ.n7 Tryd.prog keysA_ren :=
    { mixed := rfl,
      f7 :=
        ⟨"maps.Keys[sibyl/schema.arities,string,int]", by kernel_rfl, Tryd.func144.trans (by kernel_rfl)⟩,
      f10 :=
        ⟨"maps.Keys[sibyl/schema.arities,string,int]$1", by kernel_rfl, Tryd.func174.trans (by kernel_rfl)⟩,
      t0 := Tryd.underlying0, a0 := Tryd.isAgg0, z0 := Tryd.sizeOf0, v0 := Tryd.zeroValue0, t4 := Tryd.underlying4,
      a4 := Tryd.isAgg4, z4 := Tryd.sizeOf4, v4 := Tryd.zeroValue4, t23 := Tryd.underlying107, a23 := Tryd.isAgg107,
      z23 := Tryd.sizeOf107, v23 := Tryd.zeroValue107, t26 := Tryd.underlying9, a26 := Tryd.isAgg9, z26 := Tryd.sizeOf9,
      v26 := Tryd.zeroValue9, t27 := Tryd.underlying211, a27 := Tryd.isAgg211, z27 := Tryd.sizeOf211,
      v27 := Tryd.zeroValue211, t28 := Tryd.underlying212, a28 := Tryd.isAgg212, z28 := Tryd.sizeOf212,
      v28 := Tryd.zeroValue212, t33 := Tryd.underlying185, a33 := Tryd.isAgg185, z33 := Tryd.sizeOf185,
      v33 := Tryd.zeroValue185 }
end Go.Proofs.YteecbbnpgmceiaaDoor
