import Derived.Test.YtidgpcjnfkhjoaaDoorWord
import Derived.Shelf.Strconv.Itoa3
namespace Go.Proofs.YtidgpcjnfkhjoaaDoor
open Go Go.RowKit Go.Mine Go.Shelf
set_option linter.unusedVariables false

def lays171_ren : Go.Shelf.Ren where
  f := fun x =>
    match x with
    | 171 => 123
    | 243 => 162
    | 246 => 174
    | 283 => 178
    | 284 => 179
    | 285 => 180
    | 286 => 181
    | 129 => 183
    | 317 => 182
    | 318 => 184
    | 319 => 185
    | 320 => 186
    | 337 => 187
    | 338 => 188
    | n => n
  t := fun x =>
    match x with
    | 3 => 3
    | 9 => 9
    | 2 => 2
    | 4 => 4
    | 171 => 229
    | 0 => 0
    | 53 => 230
    | 37 => 22
    | 5 => 5
    | 173 => 233
    | 212 => 237
    | 51 => 238
    | 20 => 20
    | 213 => 239
    | 46 => 206
    | 232 => 242
    | 233 => 243
    | n => n
  g := fun x =>
    match x with
    | 17 => 3
    | 18 => 4
    | 19 => 5
    | n => n
set_option maxRecDepth 100000 in
theorem lays171 : LaysM.n171 Tryd.prog lays171_ren :=
    { mixed := Eq.refl true, f129 := Eq.trans Tryd.func183 (congrArg some (Eq.refl (Body.n129 lays171_ren))),
      f171 := Eq.trans Tryd.func123 (congrArg some (Eq.refl (Body.n171 lays171_ren))),
      f243 := Eq.trans Tryd.func162 (congrArg some (Eq.refl (Body.n243 lays171_ren))),
      f246 := Eq.trans Tryd.func174 (congrArg some (Eq.refl (Body.n246 lays171_ren))),
      f283 := Eq.trans Tryd.func178 (congrArg some (Eq.refl (Body.n283 lays171_ren))),
      f284 := Eq.trans Tryd.func179 (congrArg some (Eq.refl (Body.n284 lays171_ren))),
      f285 := Eq.trans Tryd.func180 (congrArg some (Eq.refl (Body.n285 lays171_ren))),
      f286 := Eq.trans Tryd.func181 (congrArg some (Eq.refl (Body.n286 lays171_ren))),
      f317 := Eq.trans Tryd.func182 (congrArg some (Eq.refl (Body.n317 lays171_ren))),
      f318 := Eq.trans Tryd.func184 (congrArg some (Eq.refl (Body.n318 lays171_ren))),
      f319 := Eq.trans Tryd.func185 (congrArg some (Eq.refl (Body.n319 lays171_ren))),
      f320 := Eq.trans Tryd.func186 (congrArg some (Eq.refl (Body.n320 lays171_ren))),
      f337 := Eq.trans Tryd.func187 (congrArg some (Eq.refl (Body.n337 lays171_ren))),
      f338 := Eq.trans Tryd.func188 (congrArg some (Eq.refl (Body.n338 lays171_ren))), t0 := Tryd.underlying0,
      a0 := Tryd.isAgg0, z0 := Tryd.sizeOf0, v0 := Tryd.zeroValue0, t2 := Tryd.underlying2, a2 := Tryd.isAgg2,
      z2 := Tryd.sizeOf2, v2 := Tryd.zeroValue2, t3 := Tryd.underlying3, a3 := Tryd.isAgg3, z3 := Tryd.sizeOf3,
      v3 := Tryd.zeroValue3, t4 := Tryd.underlying4, a4 := Tryd.isAgg4, z4 := Tryd.sizeOf4, v4 := Tryd.zeroValue4,
      t5 := Tryd.underlying5, a5 := Tryd.isAgg5, z5 := Tryd.sizeOf5, v5 := Tryd.zeroValue5, t9 := Tryd.underlying9,
      a9 := Tryd.isAgg9, z9 := Tryd.sizeOf9, v9 := Tryd.zeroValue9, t20 := Tryd.underlying20, a20 := Tryd.isAgg20,
      z20 := Tryd.sizeOf20, v20 := Tryd.zeroValue20, t37 := Tryd.underlying22, a37 := Tryd.isAgg22, z37 := Tryd.sizeOf22,
      v37 := Tryd.zeroValue22, t46 := Tryd.underlying206, a46 := Tryd.isAgg206, z46 := Tryd.sizeOf206,
      v46 := Tryd.zeroValue206, t51 := Tryd.underlying238, a51 := Tryd.isAgg238, z51 := Tryd.sizeOf238,
      v51 := Tryd.zeroValue238, t53 := Tryd.underlying230, a53 := Tryd.isAgg230, z53 := Tryd.sizeOf230,
      v53 := Tryd.zeroValue230, t171 := Tryd.underlying229, a171 := Tryd.isAgg229, z171 := Tryd.sizeOf229,
      v171 := Tryd.zeroValue229, t173 := Tryd.underlying233, a173 := Tryd.isAgg233, z173 := Tryd.sizeOf233,
      v173 := Tryd.zeroValue233, t212 := Tryd.underlying237, a212 := Tryd.isAgg237, z212 := Tryd.sizeOf237,
      v212 := Tryd.zeroValue237, t213 := Tryd.underlying239, a213 := Tryd.isAgg239, z213 := Tryd.sizeOf239,
      t232 := Tryd.underlying242, a232 := Tryd.isAgg242, z232 := Tryd.sizeOf242, v232 := Tryd.zeroValue242,
      t233 := Tryd.underlying243, a233 := Tryd.isAgg243, z233 := Tryd.sizeOf243, v233 := Tryd.zeroValue243,
      g17 := by kernel_rfl, g18 := by kernel_rfl,
      g19 := by kernel_rfl, i0 := by kernel_rfl,
      i2 := by kernel_rfl,
      i3 := by kernel_rfl, i4 := by kernel_rfl,
      i5 := by kernel_rfl,
      i9 := by kernel_rfl, i20 := by kernel_rfl,
      i37 := by kernel_rfl,
      i46 := by kernel_rfl,
      i51 := by kernel_rfl,
      i53 := by kernel_rfl,
      i171 := by kernel_rfl,
      i173 := by kernel_rfl,
      i212 := by kernel_rfl,
      i232 := by kernel_rfl,
      i233 := by kernel_rfl,
      m17 := by kernel_rfl, m18 := by kernel_rfl,
      m19 := by kernel_rfl }
end Go.Proofs.YtidgpcjnfkhjoaaDoor
