import Derived.Test.YteecbbnpgmceiaaDoorWord
import Derived.Shelf.Unicode.DecodeAny
namespace Go.Proofs.YteecbbnpgmceiaaDoor
open Go Go.RowKit Go.Mine Go.Shelf
set_option linter.unusedVariables false

/-- the numbers of the two decoders' closure here -/
def lays197_ren : Go.Shelf.Ren where
  f := fun x =>
    match x with
    | 197 => 178
    | 260 => 197
    | n => n
  t := fun x =>
    match x with
    | 9 => 9
    | 21 => 21
    | 3 => 3
    | 4 => 4
    | 5 => 5
    | 105 => 250
    | 119 => 282
    | 0 => 0
    | 46 => 226
    | 139 => 285
    | 138 => 284
    | n => n
  g := fun x =>
    match x with
    | 3 => 1
    | 4 => 2
    | n => n
set_option maxRecDepth 100000 in
theorem lays197 : Lays.n197 Tryd.prog lays197_ren :=
    { mixed := Eq.refl true, f197 := Eq.trans Tryd.func178 (congrArg some (Eq.refl (Body.n197 lays197_ren))),
      f260 := Eq.trans Tryd.func197 (congrArg some (Eq.refl (Body.n260 lays197_ren))), t0 := Tryd.underlying0,
      a0 := Tryd.isAgg0, z0 := Tryd.sizeOf0, v0 := Tryd.zeroValue0, t3 := Tryd.underlying3, a3 := Tryd.isAgg3,
      z3 := Tryd.sizeOf3, v3 := Tryd.zeroValue3, t4 := Tryd.underlying4, a4 := Tryd.isAgg4, z4 := Tryd.sizeOf4,
      v4 := Tryd.zeroValue4, t5 := Tryd.underlying5, a5 := Tryd.isAgg5, z5 := Tryd.sizeOf5, v5 := Tryd.zeroValue5,
      t9 := Tryd.underlying9, a9 := Tryd.isAgg9, z9 := Tryd.sizeOf9, v9 := Tryd.zeroValue9, t21 := Tryd.underlying21,
      a21 := Tryd.isAgg21, z21 := Tryd.sizeOf21, v21 := Tryd.zeroValue21, t46 := Tryd.underlying226, a46 := Tryd.isAgg226,
      z46 := Tryd.sizeOf226, v46 := Tryd.zeroValue226, t105 := Tryd.underlying250, a105 := Tryd.isAgg250, z105 := Tryd.sizeOf250,
      v105 := Tryd.zeroValue250, t119 := Tryd.underlying282, a119 := Tryd.isAgg282, z119 := Tryd.sizeOf282,
      t138 := Tryd.underlying284, a138 := Tryd.isAgg284, z138 := Tryd.sizeOf284, v138 := Tryd.zeroValue284,
      t139 := Tryd.underlying285, a139 := Tryd.isAgg285, z139 := Tryd.sizeOf285, v139 := Tryd.zeroValue285,
      g3 := by kernel_rfl, g4 := by kernel_rfl }

/-- the rune that a text begins with, and its width -/
theorem decode_any (s : ByteArray) (w : World) (hT : Lib.Utf8Tabs 1 2 w) (h0 : 0 < s.size) :
    Calls Tryd.prog 178 #[.string s] w fun e w' => e = .returned (.tuple #[.int .i32 (Utf8.decode s 0).1, .int .i64 (Utf8.decode s 0).2]) ∧ Mod (fun _ => False) w w' := by
  have h := Any.utf8_DecodeRuneInString lays197 s w hT
  have e : Lib.decodeGo s = Utf8.decode s 0 := by unfold Lib.decodeGo; rw [if_neg (by omega)]
  rw [e] at h
  exact h.mono fun e w' ⟨h1, h2⟩ => ⟨h1, Mod.ofBelow h2⟩
end Go.Proofs.YteecbbnpgmceiaaDoor
