import Derived.Test.YtjoiaejbahdjkaaGreatLeb
import Derived.Shelf.Small.Bits
namespace Go.Proofs.YtjoiaejbahdjkaaGreat
open Go Go.RowKit Go.Mine Go.Shelf
set_option linter.unusedVariables false
def lays129_ren : Go.Shelf.Ren where
  f := fun x =>
    match x with
    | 129 => 148
    | n => n
  t := fun x =>
    match x with
    | 53 => 66
    | 3 => 3
    | 4 => 4
    | 46 => 95
    | 5 => 5
    | 9 => 9
    | n => n
  g := fun x => x
set_option maxRecDepth 100000 in
theorem lays129 : Lays.n129 Tryz.prog lays129_ren :=
    { mixed := rfl, f129 := Eq.trans Tryz.func148 (congrArg some (Eq.refl (Body.n129 lays129_ren))),
      t3 := Tryz.underlying3, a3 := Tryz.isAgg3, z3 := Tryz.sizeOf3, v3 := Tryz.zeroValue3, t4 := Tryz.underlying4,
      a4 := Tryz.isAgg4, z4 := Tryz.sizeOf4, v4 := Tryz.zeroValue4, t5 := Tryz.underlying5, a5 := Tryz.isAgg5,
      z5 := Tryz.sizeOf5, v5 := Tryz.zeroValue5, t9 := Tryz.underlying9, a9 := Tryz.isAgg9, z9 := Tryz.sizeOf9,
      v9 := Tryz.zeroValue9, t46 := Tryz.underlying95, a46 := Tryz.isAgg95, z46 := Tryz.sizeOf95, v46 := Tryz.zeroValue95,
      t53 := Tryz.underlying66, a53 := Tryz.isAgg66, z53 := Tryz.sizeOf66, v53 := Tryz.zeroValue66 }
end Go.Proofs.YtjoiaejbahdjkaaGreat
namespace Go.Proofs.YtjoiaejbahdjkaaGreat
open Go Go.RowKit Go.Mine Go.Shelf
set_option linter.unusedVariables false
def lays128_ren : Go.Shelf.Ren where
  f := fun x =>
    match x with
    | 128 => 147
    | n => n
  t := fun x =>
    match x with
    | 51 => 58
    | 3 => 3
    | 4 => 4
    | 46 => 95
    | 5 => 5
    | 9 => 9
    | n => n
  g := fun x => x
set_option maxRecDepth 100000 in
theorem lays128 : Lays.n128 Tryz.prog lays128_ren :=
    { mixed := rfl, f128 := Eq.trans Tryz.func147 (congrArg some (Eq.refl (Body.n128 lays128_ren))),
      t3 := Tryz.underlying3, a3 := Tryz.isAgg3, z3 := Tryz.sizeOf3, v3 := Tryz.zeroValue3, t4 := Tryz.underlying4,
      a4 := Tryz.isAgg4, z4 := Tryz.sizeOf4, v4 := Tryz.zeroValue4, t5 := Tryz.underlying5, a5 := Tryz.isAgg5,
      z5 := Tryz.sizeOf5, v5 := Tryz.zeroValue5, t9 := Tryz.underlying9, a9 := Tryz.isAgg9, z9 := Tryz.sizeOf9,
      v9 := Tryz.zeroValue9, t46 := Tryz.underlying95, a46 := Tryz.isAgg95, z46 := Tryz.sizeOf95, v46 := Tryz.zeroValue95,
      t51 := Tryz.underlying58, a51 := Tryz.isAgg58, z51 := Tryz.sizeOf58, v51 := Tryz.zeroValue58 }
end Go.Proofs.YtjoiaejbahdjkaaGreat
