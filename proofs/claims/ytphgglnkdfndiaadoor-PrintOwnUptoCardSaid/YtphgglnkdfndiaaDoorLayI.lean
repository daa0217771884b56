import Derived.Test.YtphgglnkdfndiaaDoorWrdG
import Derived.Shelf.Strconv.Itoa3
namespace Go.Proofs.YtphgglnkdfndiaaDoor
open Go Go.RowKit Go.Mine Go.Shelf
set_option linter.unusedVariables false

def lays171_ren : Go.Shelf.Ren where
  f := fun x =>
    match x with
    | 171 => 48
    | 243 => 67
    | 246 => 77
    | 283 => 83
    | 284 => 84
    | 285 => 85
    | 286 => 86
    | 129 => 93
    | 317 => 92
    | 318 => 94
    | 319 => 95
    | 320 => 96
    | 337 => 97
    | 338 => 98
    | n => n
  t := fun x =>
    match x with
    | 3 => 3
    | 9 => 9
    | 2 => 2
    | 4 => 4
    | 171 => 137
    | 0 => 0
    | 53 => 138
    | 37 => 99
    | 5 => 5
    | 173 => 141
    | 212 => 150
    | 51 => 151
    | 20 => 20
    | 213 => 152
    | 46 => 130
    | 232 => 156
    | 233 => 157
    | n => n
  g := fun x =>
    match x with
    | 17 => 0
    | 18 => 1
    | 19 => 2
    | n => n
set_option maxRecDepth 100000 in
theorem lays171 : LaysM.n171 Tryd.prog lays171_ren :=
    { mixed := rfl, f129 := Eq.trans Tryd.func93 (congrArg some (Eq.refl (Body.n129 lays171_ren))),
      f171 := Eq.trans Tryd.func48 (congrArg some (Eq.refl (Body.n171 lays171_ren))),
      f243 := Eq.trans Tryd.func67 (congrArg some (Eq.refl (Body.n243 lays171_ren))),
      f246 := Eq.trans Tryd.func77 (congrArg some (Eq.refl (Body.n246 lays171_ren))),
      f283 := Eq.trans Tryd.func83 (congrArg some (Eq.refl (Body.n283 lays171_ren))),
      f284 := Eq.trans Tryd.func84 (congrArg some (Eq.refl (Body.n284 lays171_ren))),
      f285 := Eq.trans Tryd.func85 (congrArg some (Eq.refl (Body.n285 lays171_ren))),
      f286 := Eq.trans Tryd.func86 (congrArg some (Eq.refl (Body.n286 lays171_ren))),
      f317 := Eq.trans Tryd.func92 (congrArg some (Eq.refl (Body.n317 lays171_ren))),
      f318 := Eq.trans Tryd.func94 (congrArg some (Eq.refl (Body.n318 lays171_ren))),
      f319 := Eq.trans Tryd.func95 (congrArg some (Eq.refl (Body.n319 lays171_ren))),
      f320 := Eq.trans Tryd.func96 (congrArg some (Eq.refl (Body.n320 lays171_ren))),
      f337 := Eq.trans Tryd.func97 (congrArg some (Eq.refl (Body.n337 lays171_ren))),
      f338 := Eq.trans Tryd.func98 (congrArg some (Eq.refl (Body.n338 lays171_ren))), t0 := Tryd.underlying0,
      a0 := Tryd.isAgg0, z0 := Tryd.sizeOf0, v0 := Tryd.zeroValue0, t2 := Tryd.underlying2, a2 := Tryd.isAgg2,
      z2 := Tryd.sizeOf2, v2 := Tryd.zeroValue2, t3 := Tryd.underlying3, a3 := Tryd.isAgg3, z3 := Tryd.sizeOf3,
      v3 := Tryd.zeroValue3, t4 := Tryd.underlying4, a4 := Tryd.isAgg4, z4 := Tryd.sizeOf4, v4 := Tryd.zeroValue4,
      t5 := Tryd.underlying5, a5 := Tryd.isAgg5, z5 := Tryd.sizeOf5, v5 := Tryd.zeroValue5, t9 := Tryd.underlying9,
      a9 := Tryd.isAgg9, z9 := Tryd.sizeOf9, v9 := Tryd.zeroValue9, t20 := Tryd.underlying20, a20 := Tryd.isAgg20,
      z20 := Tryd.sizeOf20, v20 := Tryd.zeroValue20, t37 := Tryd.underlying99, a37 := Tryd.isAgg99, z37 := Tryd.sizeOf99,
      v37 := Tryd.zeroValue99, t46 := Tryd.underlying130, a46 := Tryd.isAgg130, z46 := Tryd.sizeOf130,
      v46 := Tryd.zeroValue130, t51 := Tryd.underlying151, a51 := Tryd.isAgg151, z51 := Tryd.sizeOf151,
      v51 := Tryd.zeroValue151, t53 := Tryd.underlying138, a53 := Tryd.isAgg138, z53 := Tryd.sizeOf138,
      v53 := Tryd.zeroValue138, t171 := Tryd.underlying137, a171 := Tryd.isAgg137, z171 := Tryd.sizeOf137,
      v171 := Tryd.zeroValue137, t173 := Tryd.underlying141, a173 := Tryd.isAgg141, z173 := Tryd.sizeOf141,
      v173 := Tryd.zeroValue141, t212 := Tryd.underlying150, a212 := Tryd.isAgg150, z212 := Tryd.sizeOf150,
      v212 := Tryd.zeroValue150, t213 := Tryd.underlying152, a213 := Tryd.isAgg152, z213 := Tryd.sizeOf152,
      t232 := Tryd.underlying156, a232 := Tryd.isAgg156, z232 := Tryd.sizeOf156, v232 := Tryd.zeroValue156,
      t233 := Tryd.underlying157, a233 := Tryd.isAgg157, z233 := Tryd.sizeOf157, v233 := Tryd.zeroValue157,
      g17 := by kernel_rfl, g18 := by kernel_rfl,
      g19 := by kernel_rfl, i0 := by kernel_rfl,
      i2 := by kernel_rfl,
      i3 := by kernel_rfl, i4 := by kernel_rfl,
      i5 := by kernel_rfl,
      i9 := by kernel_rfl, i20 := by kernel_rfl,
      i37 := by kernel_rfl,
      i46 := by kernel_rfl,
      i51 := by kernel_rfl,
      i53 := by kernel_rfl,
      i171 := by kernel_rfl,
      i173 := by kernel_rfl,
      i212 := by kernel_rfl,
      i232 := by kernel_rfl,
      i233 := by kernel_rfl,
      m17 := by kernel_rfl, m18 := by kernel_rfl,
      m19 := by kernel_rfl }
end Go.Proofs.YtphgglnkdfndiaaDoor
