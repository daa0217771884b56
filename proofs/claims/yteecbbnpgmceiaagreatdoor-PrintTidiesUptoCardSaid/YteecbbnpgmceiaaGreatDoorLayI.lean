import Derived.Test.YteecbbnpgmceiaaGreatDoorWrdG
import Derived.Shelf.Strconv.Itoa3
namespace Go.Proofs.YteecbbnpgmceiaaGreatDoor
open Go Go.RowKit Go.Mine Go.Shelf
set_option linter.unusedVariables false

def lays171_ren : Go.Shelf.Ren where
  f := fun x =>
    match x with
    | 171 => 136
    | 243 => 167
    | 246 => 196
    | 283 => 208
    | 284 => 209
    | 285 => 210
    | 286 => 211
    | 129 => 192
    | 317 => 216
    | 318 => 217
    | 319 => 218
    | 320 => 219
    | 337 => 220
    | 338 => 221
    | n => n
  t := fun x =>
    match x with
    | 3 => 3
    | 9 => 9
    | 2 => 2
    | 4 => 4
    | 171 => 286
    | 0 => 0
    | 53 => 273
    | 37 => 34
    | 5 => 5
    | 173 => 288
    | 212 => 299
    | 51 => 271
    | 20 => 20
    | 213 => 300
    | 46 => 247
    | 232 => 302
    | 233 => 303
    | n => n
  g := fun x =>
    match x with
    | 17 => 3
    | 18 => 4
    | 19 => 5
    | n => n
set_option maxRecDepth 100000 in
theorem lays171 : LaysM.n171 Tryz.prog lays171_ren :=
    { mixed := rfl, f129 := Eq.trans Tryz.func192 (congrArg some (Eq.refl (Body.n129 lays171_ren))),
      f171 := Eq.trans Tryz.func136 (congrArg some (Eq.refl (Body.n171 lays171_ren))),
      f243 := Eq.trans Tryz.func167 (congrArg some (Eq.refl (Body.n243 lays171_ren))),
      f246 := Eq.trans Tryz.func196 (congrArg some (Eq.refl (Body.n246 lays171_ren))),
      f283 := Eq.trans Tryz.func208 (congrArg some (Eq.refl (Body.n283 lays171_ren))),
      f284 := Eq.trans Tryz.func209 (congrArg some (Eq.refl (Body.n284 lays171_ren))),
      f285 := Eq.trans Tryz.func210 (congrArg some (Eq.refl (Body.n285 lays171_ren))),
      f286 := Eq.trans Tryz.func211 (congrArg some (Eq.refl (Body.n286 lays171_ren))),
      f317 := Eq.trans Tryz.func216 (congrArg some (Eq.refl (Body.n317 lays171_ren))),
      f318 := Eq.trans Tryz.func217 (congrArg some (Eq.refl (Body.n318 lays171_ren))),
      f319 := Eq.trans Tryz.func218 (congrArg some (Eq.refl (Body.n319 lays171_ren))),
      f320 := Eq.trans Tryz.func219 (congrArg some (Eq.refl (Body.n320 lays171_ren))),
      f337 := Eq.trans Tryz.func220 (congrArg some (Eq.refl (Body.n337 lays171_ren))),
      f338 := Eq.trans Tryz.func221 (congrArg some (Eq.refl (Body.n338 lays171_ren))), t0 := Tryz.underlying0,
      a0 := Tryz.isAgg0, z0 := Tryz.sizeOf0, v0 := Tryz.zeroValue0, t2 := Tryz.underlying2, a2 := Tryz.isAgg2,
      z2 := Tryz.sizeOf2, v2 := Tryz.zeroValue2, t3 := Tryz.underlying3, a3 := Tryz.isAgg3, z3 := Tryz.sizeOf3,
      v3 := Tryz.zeroValue3, t4 := Tryz.underlying4, a4 := Tryz.isAgg4, z4 := Tryz.sizeOf4, v4 := Tryz.zeroValue4,
      t5 := Tryz.underlying5, a5 := Tryz.isAgg5, z5 := Tryz.sizeOf5, v5 := Tryz.zeroValue5, t9 := Tryz.underlying9,
      a9 := Tryz.isAgg9, z9 := Tryz.sizeOf9, v9 := Tryz.zeroValue9, t20 := Tryz.underlying20, a20 := Tryz.isAgg20,
      z20 := Tryz.sizeOf20, v20 := Tryz.zeroValue20, t37 := Tryz.underlying34, a37 := Tryz.isAgg34, z37 := Tryz.sizeOf34,
      v37 := Tryz.zeroValue34, t46 := Tryz.underlying247, a46 := Tryz.isAgg247, z46 := Tryz.sizeOf247,
      v46 := Tryz.zeroValue247, t51 := Tryz.underlying271, a51 := Tryz.isAgg271, z51 := Tryz.sizeOf271,
      v51 := Tryz.zeroValue271, t53 := Tryz.underlying273, a53 := Tryz.isAgg273, z53 := Tryz.sizeOf273,
      v53 := Tryz.zeroValue273, t171 := Tryz.underlying286, a171 := Tryz.isAgg286, z171 := Tryz.sizeOf286,
      v171 := Tryz.zeroValue286, t173 := Tryz.underlying288, a173 := Tryz.isAgg288, z173 := Tryz.sizeOf288,
      v173 := Tryz.zeroValue288, t212 := Tryz.underlying299, a212 := Tryz.isAgg299, z212 := Tryz.sizeOf299,
      v212 := Tryz.zeroValue299, t213 := Tryz.underlying300, a213 := Tryz.isAgg300, z213 := Tryz.sizeOf300,
      t232 := Tryz.underlying302, a232 := Tryz.isAgg302, z232 := Tryz.sizeOf302, v232 := Tryz.zeroValue302,
      t233 := Tryz.underlying303, a233 := Tryz.isAgg303, z233 := Tryz.sizeOf303, v233 := Tryz.zeroValue303,
      g17 := by kernel_rfl, g18 := by kernel_rfl,
      g19 := by kernel_rfl, i0 := by kernel_rfl,
      i2 := by kernel_rfl,
      i3 := by kernel_rfl, i4 := by kernel_rfl,
      i5 := by kernel_rfl,
      i9 := by kernel_rfl, i20 := by kernel_rfl,
      i37 := by kernel_rfl,
      i46 := by kernel_rfl,
      i51 := by kernel_rfl,
      i53 := by kernel_rfl,
      i171 := by kernel_rfl,
      i173 := by kernel_rfl,
      i212 := by kernel_rfl,
      i232 := by kernel_rfl,
      i233 := by kernel_rfl,
      m17 := by kernel_rfl, m18 := by kernel_rfl,
      m19 := by kernel_rfl }
end Go.Proofs.YteecbbnpgmceiaaGreatDoor
