/- SymtabScripts answers true of any script of calls of several tables, where what it reads is of bulk at most 1048576. -/
import Derived.Test.YtcmgeiohcgngeaaOpS
import Derived.Test.YtcmgeiohcgngeaaClose
namespace Go.Proofs.Ytcmgeiohcgngeaa.symtabScripts
open Go Go.RowKit Go.Mine Go.ChangeShapes Go.WideShapes Go.ChangeAt
set_option linter.unusedVariables false

set_option maxRecDepth 100000 in
theorem contract (H : Type) (enc : TypeId × Value → H) (W : World) (base : Nat) (args : Array Value) (ds gs : List (DataW H)) (before : List MemPlace)
    (hval : ∀ (j : Nat) t v, Try.f3.params[j]? = some t → args[j]? = some v → Value.okWide Try.prog W .any base t v)
    (hW : DataW.Whole enc Try.prog Try.f3.params.toList Rows.symtabScriptsSpec.vars false W args.toList ds gs before) (hk : Rows.uptoSmall H (ds ++ gs) = true) :
    Calls Try.prog 3 args W fun e W' => ∃ v, e = .returned v ∧ Rows.symtabScriptsSpec.post enc Try.prog Try.f3 false true false false W args v W' := by
  have hW' := hW
  have hbulk := bulk_bound hk
  obtain ⟨p, q, hA0, hV, rfl, hfz, hnd⟩ := hW
  have hA : DataW.TrodAll enc Try.prog W 0 (fun _ => true) true Try.f3.params.toList args.toList ds p := hA0
  rw [Try.params3] at hA hval
  obtain ⟨v0, v1, d0, d1, p0, p1, rfl, rfl, rfl, h0, h1⟩ := trodAll_two hA
  obtain ⟨rfl, rfl⟩ := trodVars_none hV
  obtain ⟨a0, len, cap, rfl⟩ := okWide_slice Try.underlying22 (hval 1 22 v1 rfl rfl)
  obtain ⟨n, rfl⟩ := okWide_int Try.underlying3 (hval 0 3 v0 rfl rfl)
  obtain ⟨fuel, hf⟩ := h1
  have fin : ∀ W' : World, Mine.Mod (fun _ => False) W W' → Rows.symtabScriptsSpec.post enc Try.prog Try.f3 false true false false W #[.int .i64 n, .slice a0 len cap] (.bool true) W' := fun W' hM =>
    law_fin (by rw [Try.params3]; intro t ht; simp at ht; rcases ht with rfl | rfl <;> exact ⟨by kernel_rfl, of_decide_eq_true (by kernel_rfl)⟩) rfl rfl rfl rfl rfl hW' hM
  simp only [List.append_nil, Rows.uptoBulkAll] at hbulk
  obtain ⟨a, c, os, hcs, hr, hl, hq⟩ := el_ops hf
  simp [Value.cells] at hcs
  obtain ⟨rfl, rfl, rfl⟩ := hcs
  have hb : Rows.uptoBulk d1 ≤ 1048576 := by omega
  have hl' : os.length ≤ Rows.uptoBulk d1 := hl
  refine (scripts_walk n a0 cap os W hr (by omega) (fun o ho => ?_)).mono fun e W' ⟨he, hM⟩ => ⟨_, he, fin W' hM⟩
  obtain ⟨q1, q2, q3⟩ := hq o ho
  have q2' : o.xs.length ≤ Rows.uptoBulk d1 := q2
  exact ⟨q1, by omega, fun s hs => by have h3 : s.size ≤ Rows.uptoBulk d1 := q3 s hs; omega⟩

set_option maxRecDepth 100000 in
theorem lifted (os : Os) (started : os.Started) (H : Type) (enc : TypeId × Value → H) (F : Stop.Interp) :
    ReturnsInHanded {} Try.checked os 3 .any ((Rows.OpenSpec.upto Rows.symtabScriptsSpec).pre6 enc Try.prog Try.f3 Rows.symtabScriptsUptoRow.domain false) (((Rows.OpenSpec.upto Rows.symtabScriptsSpec).at F).post enc Try.prog Try.f3 false true false false) := by
  refine returnsInHanded_of_cond (C := Try.checked) (s := Rows.OpenSpec.upto Rows.symtabScriptsSpec) (k := Rows.uptoSmall) rfl own started (by kernel_rfl) Try.func3
    (OpenSpec.witness (enc := enc) (C := Try.checked) (s := Rows.OpenSpec.upto Rows.symtabScriptsSpec) (k := Rows.uptoSmall) rfl false ⟨#[], #[.int .i64 0, .slice none 0 0], []⟩ 8 (by kernel_rfl) (by kernel_rfl) (by kernel_rfl)
      (x := ([.lit (.int .i64 0), .nil], [], [])) (by kernel_rfl) rfl (by kernel_rfl)) ?_
  intro W base args ds gs before hval hW _ hk _
  exact contract H enc W base args ds gs before hval hW hk

theorem over : Rows.symtabScriptsUptoRow.holds Try.pinned (Rows.OpenSpec.upto Rows.symtabScriptsSpec) :=
  OpenClaim.holds_of_cond 3 Try.f3 rfl rfl rfl rfl rfl rfl rfl ⟨rfl, rfl, rfl, rfl, rfl⟩ rfl rfl rfl rfl rfl (by kernel_rfl) Try.func3 (by kernel_rfl)
    (of_decide_eq_true (by kernel_rfl)) (by unfold Func.isWrapper; first | (rw [if_pos (by decide +kernel)]; kernel_rfl) | (rw [if_neg (by decide +kernel)]; exact ⟨rfl, rfl⟩))
    (fun os started H enc _ F => lifted os started H enc F)

theorem proved : Rows.SymtabScriptsUptoSaid := over
end Go.Proofs.Ytcmgeiohcgngeaa.symtabScripts
