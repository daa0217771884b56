import Derived.Test.YtgplagdehfhffaaDoorWord
import Derived.Shelf.Strconv.Itoa3
namespace Go.Proofs.YtgplagdehfhffaaDoor
open Go Go.RowKit Go.Mine Go.Shelf
set_option linter.unusedVariables false

def lays171_ren : Go.Shelf.Ren where
  f := fun x =>
    match x with
    | 171 => 135
    | 243 => 154
    | 246 => 164
    | 283 => 165
    | 284 => 166
    | 285 => 167
    | 286 => 168
    | 129 => 170
    | 317 => 169
    | 318 => 171
    | 319 => 172
    | 320 => 173
    | 337 => 174
    | 338 => 175
    | n => n
  t := fun x =>
    match x with
    | 3 => 3
    | 9 => 9
    | 2 => 2
    | 4 => 4
    | 171 => 221
    | 0 => 0
    | 53 => 222
    | 37 => 22
    | 5 => 5
    | 173 => 225
    | 212 => 229
    | 51 => 230
    | 20 => 20
    | 213 => 231
    | 46 => 194
    | 232 => 234
    | 233 => 235
    | n => n
  g := fun x =>
    match x with
    | 17 => 3
    | 18 => 4
    | 19 => 5
    | n => n
set_option maxRecDepth 100000 in
theorem lays171 : LaysM.n171 Tryd.prog lays171_ren :=
    { mixed := Eq.refl true, f129 := Eq.trans Tryd.func170 (congrArg some (Eq.refl (Body.n129 lays171_ren))),
      f171 := Eq.trans Tryd.func135 (congrArg some (Eq.refl (Body.n171 lays171_ren))),
      f243 := Eq.trans Tryd.func154 (congrArg some (Eq.refl (Body.n243 lays171_ren))),
      f246 := Eq.trans Tryd.func164 (congrArg some (Eq.refl (Body.n246 lays171_ren))),
      f283 := Eq.trans Tryd.func165 (congrArg some (Eq.refl (Body.n283 lays171_ren))),
      f284 := Eq.trans Tryd.func166 (congrArg some (Eq.refl (Body.n284 lays171_ren))),
      f285 := Eq.trans Tryd.func167 (congrArg some (Eq.refl (Body.n285 lays171_ren))),
      f286 := Eq.trans Tryd.func168 (congrArg some (Eq.refl (Body.n286 lays171_ren))),
      f317 := Eq.trans Tryd.func169 (congrArg some (Eq.refl (Body.n317 lays171_ren))),
      f318 := Eq.trans Tryd.func171 (congrArg some (Eq.refl (Body.n318 lays171_ren))),
      f319 := Eq.trans Tryd.func172 (congrArg some (Eq.refl (Body.n319 lays171_ren))),
      f320 := Eq.trans Tryd.func173 (congrArg some (Eq.refl (Body.n320 lays171_ren))),
      f337 := Eq.trans Tryd.func174 (congrArg some (Eq.refl (Body.n337 lays171_ren))),
      f338 := Eq.trans Tryd.func175 (congrArg some (Eq.refl (Body.n338 lays171_ren))), t0 := Tryd.underlying0,
      a0 := Tryd.isAgg0, z0 := Tryd.sizeOf0, v0 := Tryd.zeroValue0, t2 := Tryd.underlying2, a2 := Tryd.isAgg2,
      z2 := Tryd.sizeOf2, v2 := Tryd.zeroValue2, t3 := Tryd.underlying3, a3 := Tryd.isAgg3, z3 := Tryd.sizeOf3,
      v3 := Tryd.zeroValue3, t4 := Tryd.underlying4, a4 := Tryd.isAgg4, z4 := Tryd.sizeOf4, v4 := Tryd.zeroValue4,
      t5 := Tryd.underlying5, a5 := Tryd.isAgg5, z5 := Tryd.sizeOf5, v5 := Tryd.zeroValue5, t9 := Tryd.underlying9,
      a9 := Tryd.isAgg9, z9 := Tryd.sizeOf9, v9 := Tryd.zeroValue9, t20 := Tryd.underlying20, a20 := Tryd.isAgg20,
      z20 := Tryd.sizeOf20, v20 := Tryd.zeroValue20, t37 := Tryd.underlying22, a37 := Tryd.isAgg22, z37 := Tryd.sizeOf22,
      v37 := Tryd.zeroValue22, t46 := Tryd.underlying194, a46 := Tryd.isAgg194, z46 := Tryd.sizeOf194,
      v46 := Tryd.zeroValue194, t51 := Tryd.underlying230, a51 := Tryd.isAgg230, z51 := Tryd.sizeOf230,
      v51 := Tryd.zeroValue230, t53 := Tryd.underlying222, a53 := Tryd.isAgg222, z53 := Tryd.sizeOf222,
      v53 := Tryd.zeroValue222, t171 := Tryd.underlying221, a171 := Tryd.isAgg221, z171 := Tryd.sizeOf221,
      v171 := Tryd.zeroValue221, t173 := Tryd.underlying225, a173 := Tryd.isAgg225, z173 := Tryd.sizeOf225,
      v173 := Tryd.zeroValue225, t212 := Tryd.underlying229, a212 := Tryd.isAgg229, z212 := Tryd.sizeOf229,
      v212 := Tryd.zeroValue229, t213 := Tryd.underlying231, a213 := Tryd.isAgg231, z213 := Tryd.sizeOf231,
      t232 := Tryd.underlying234, a232 := Tryd.isAgg234, z232 := Tryd.sizeOf234, v232 := Tryd.zeroValue234,
      t233 := Tryd.underlying235, a233 := Tryd.isAgg235, z233 := Tryd.sizeOf235, v233 := Tryd.zeroValue235,
      g17 := by kernel_rfl, g18 := by kernel_rfl,
      g19 := by kernel_rfl, i0 := by kernel_rfl,
      i2 := by kernel_rfl,
      i3 := by kernel_rfl, i4 := by kernel_rfl,
      i5 := by kernel_rfl,
      i9 := by kernel_rfl, i20 := by kernel_rfl,
      i37 := by kernel_rfl,
      i46 := by kernel_rfl,
      i51 := by kernel_rfl,
      i53 := by kernel_rfl,
      i171 := by kernel_rfl,
      i173 := by kernel_rfl,
      i212 := by kernel_rfl,
      i232 := by kernel_rfl,
      i233 := by kernel_rfl,
      m17 := by kernel_rfl, m18 := by kernel_rfl,
      m19 := by kernel_rfl }
end Go.Proofs.YtgplagdehfhffaaDoor
