import Derived.Test.YtjoiaejbahdjkaaGreatLeb
import Derived.Shelf.Bits.Mul64
namespace Go.Proofs.YtjoiaejbahdjkaaGreat
open Go Go.RowKit Go.Mine Go.Shelf
set_option linter.unusedVariables false
def lays212_ren : Go.Shelf.Ren where
  f := fun x =>
    match x with
    | 212 => 201
    | 263 => 202
    | 264 => 203
    | n => n
  t := fun x =>
    match x with
    | 46 => 95
    | 51 => 58
    | 146 => 242
    | 53 => 66
    | 148 => 244
    | n => n
  g := fun x => x
set_option maxRecDepth 100000 in
theorem lays212 : Lays.n212 Tryz.prog lays212_ren :=
    { mixed := rfl, f212 := Eq.trans Tryz.func201 (congrArg some (Eq.refl (Body.n212 lays212_ren))),
      f263 := Eq.trans Tryz.func202 (congrArg some (Eq.refl (Body.n263 lays212_ren))),
      f264 := Eq.trans Tryz.func203 (congrArg some (Eq.refl (Body.n264 lays212_ren))), t46 := Tryz.underlying95,
      a46 := Tryz.isAgg95, z46 := Tryz.sizeOf95, v46 := Tryz.zeroValue95, t51 := Tryz.underlying58, a51 := Tryz.isAgg58,
      z51 := Tryz.sizeOf58, v51 := Tryz.zeroValue58, t53 := Tryz.underlying66, a53 := Tryz.isAgg66, z53 := Tryz.sizeOf66,
      v53 := Tryz.zeroValue66, t146 := Tryz.underlying242, a146 := Tryz.isAgg242, z146 := Tryz.sizeOf242,
      v146 := Tryz.zeroValue242, t148 := Tryz.underlying244, a148 := Tryz.isAgg244, z148 := Tryz.sizeOf244,
      v148 := Tryz.zeroValue244 }
end Go.Proofs.YtjoiaejbahdjkaaGreat
