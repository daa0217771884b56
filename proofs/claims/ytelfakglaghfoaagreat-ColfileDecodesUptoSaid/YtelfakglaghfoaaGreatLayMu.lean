import Derived.Test.YtelfakglaghfoaaGreatLeb
import Derived.Shelf.Bits.Mul64
namespace Go.Proofs.YtelfakglaghfoaaGreat
open Go Go.RowKit Go.Mine Go.Shelf
set_option linter.unusedVariables false

def lays212_ren : Go.Shelf.Ren where
  f := fun x =>
    match x with
    | 212 => 126
    | 263 => 128
    | 264 => 129
    | n => n
  t := fun x =>
    match x with
    | 46 => 104
    | 51 => 45
    | 146 => 165
    | 53 => 63
    | 148 => 167
    | n => n
  g := fun x => x
set_option maxRecDepth 100000 in
theorem lays212 : Lays.n212 Tryz.prog lays212_ren :=
    { mixed := rfl, f212 := Eq.trans Tryz.func126 (congrArg some (Eq.refl (Body.n212 lays212_ren))),
      f263 := Eq.trans Tryz.func128 (congrArg some (Eq.refl (Body.n263 lays212_ren))),
      f264 := Eq.trans Tryz.func129 (congrArg some (Eq.refl (Body.n264 lays212_ren))), t46 := Tryz.underlying104,
      a46 := Tryz.isAgg104, z46 := Tryz.sizeOf104, v46 := Tryz.zeroValue104, t51 := Tryz.underlying45, a51 := Tryz.isAgg45,
      z51 := Tryz.sizeOf45, v51 := Tryz.zeroValue45, t53 := Tryz.underlying63, a53 := Tryz.isAgg63, z53 := Tryz.sizeOf63,
      v53 := Tryz.zeroValue63, t146 := Tryz.underlying165, a146 := Tryz.isAgg165, z146 := Tryz.sizeOf165,
      v146 := Tryz.zeroValue165, t148 := Tryz.underlying167, a148 := Tryz.isAgg167, z148 := Tryz.sizeOf167,
      v148 := Tryz.zeroValue167 }
end Go.Proofs.YtelfakglaghfoaaGreat
