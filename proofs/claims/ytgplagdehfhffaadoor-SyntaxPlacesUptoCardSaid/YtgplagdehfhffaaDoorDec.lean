import Derived.Test.YtgplagdehfhffaaDoorWord
import Derived.Shelf.Unicode.DecodeAny
namespace Go.Proofs.YtgplagdehfhffaaDoor
open Go Go.RowKit Go.Mine Go.Shelf
set_option linter.unusedVariables false

/-- the numbers of the two decoders' closure here -/
def lays197_ren : Go.Shelf.Ren where
  f := fun x =>
    match x with
    | 197 => 126
    | 260 => 149
    | n => n
  t := fun x =>
    match x with
    | 9 => 9
    | 21 => 21
    | 3 => 3
    | 4 => 4
    | 5 => 5
    | 105 => 183
    | 119 => 214
    | 0 => 0
    | 46 => 194
    | 139 => 217
    | 138 => 216
    | n => n
  g := fun x =>
    match x with
    | 3 => 1
    | 4 => 2
    | n => n
set_option maxRecDepth 100000 in
theorem lays197 : Lays.n197 Tryd.prog lays197_ren :=
    { mixed := Eq.refl true, f197 := Eq.trans Tryd.func126 (congrArg some (Eq.refl (Body.n197 lays197_ren))),
      f260 := Eq.trans Tryd.func149 (congrArg some (Eq.refl (Body.n260 lays197_ren))), t0 := Tryd.underlying0,
      a0 := Tryd.isAgg0, z0 := Tryd.sizeOf0, v0 := Tryd.zeroValue0, t3 := Tryd.underlying3, a3 := Tryd.isAgg3,
      z3 := Tryd.sizeOf3, v3 := Tryd.zeroValue3, t4 := Tryd.underlying4, a4 := Tryd.isAgg4, z4 := Tryd.sizeOf4,
      v4 := Tryd.zeroValue4, t5 := Tryd.underlying5, a5 := Tryd.isAgg5, z5 := Tryd.sizeOf5, v5 := Tryd.zeroValue5,
      t9 := Tryd.underlying9, a9 := Tryd.isAgg9, z9 := Tryd.sizeOf9, v9 := Tryd.zeroValue9, t21 := Tryd.underlying21,
      a21 := Tryd.isAgg21, z21 := Tryd.sizeOf21, v21 := Tryd.zeroValue21, t46 := Tryd.underlying194, a46 := Tryd.isAgg194,
      z46 := Tryd.sizeOf194, v46 := Tryd.zeroValue194, t105 := Tryd.underlying183, a105 := Tryd.isAgg183, z105 := Tryd.sizeOf183,
      v105 := Tryd.zeroValue183, t119 := Tryd.underlying214, a119 := Tryd.isAgg214, z119 := Tryd.sizeOf214,
      t138 := Tryd.underlying216, a138 := Tryd.isAgg216, z138 := Tryd.sizeOf216, v138 := Tryd.zeroValue216,
      t139 := Tryd.underlying217, a139 := Tryd.isAgg217, z139 := Tryd.sizeOf217, v139 := Tryd.zeroValue217,
      g3 := by kernel_rfl, g4 := by kernel_rfl }

/-- the rune that a text begins with, and its width -/
theorem decode_any (s : ByteArray) (w : World) (hT : Lib.Utf8Tabs 1 2 w) (h0 : 0 < s.size) :
    Calls Tryd.prog 126 #[.string s] w fun e w' => e = .returned (.tuple #[.int .i32 (Utf8.decode s 0).1, .int .i64 (Utf8.decode s 0).2]) ∧ Mod (fun _ => False) w w' := by
  have h := Any.utf8_DecodeRuneInString lays197 s w hT
  have e : Lib.decodeGo s = Utf8.decode s 0 := by unfold Lib.decodeGo; rw [if_neg (by omega)]
  rw [e] at h
  exact h.mono fun e w' ⟨h1, h2⟩ => ⟨h1, Mod.ofBelow h2⟩
end Go.Proofs.YtgplagdehfhffaaDoor
