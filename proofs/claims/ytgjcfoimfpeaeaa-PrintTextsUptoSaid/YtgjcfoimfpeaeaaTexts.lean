/- PrintTexts answers true of any program, where what it reads is of bulk at most 1048576. -/
import Derived.Test.YtgjcfoimfpeaeaaTextsW
import Derived.Test.YtgjcfoimfpeaeaaOpen
namespace Go.Proofs.Ytgjcfoimfpeaeaa.printTexts
open Go Go.RowKit Go.Mine Go.ChangeShapes Go.WideShapes Go.ChangeAt
set_option linter.unusedVariables false

theorem small (N : Nat) (hN : N ≤ 1048576) (rs : List Rm) (h1 : rs.length ≤ N) (h2 : ∀ r ∈ rs, RmQ N r) : SmallPm rs := by
  have hA : ∀ a : Am, AmQ N a → SmallAm a := fun a h => ⟨by have := h.1; omega, by have := h.2.1; omega, fun t ht => by have := h.2.2 t ht; omega⟩
  exact ⟨by omega, fun r hr => ⟨hA _ (h2 r hr).1, by have := (h2 r hr).2.1; omega, fun l hl => ⟨hA _ ((h2 r hr).2.2 l hl).1, by have := ((h2 r hr).2.2 l hl).2.1; omega, by have := ((h2 r hr).2.2 l hl).2.2; omega⟩⟩⟩

set_option maxRecDepth 100000 in
theorem contract (H : Type) (enc : TypeId × Value → H) (W : World) (base : Nat) (args : Array Value) (ds gs : List (DataW H)) (before : List MemPlace)
    (hval : ∀ (j : Nat) t v, Try.f3.params[j]? = some t → args[j]? = some v → Value.okWide Try.prog W .any base t v)
    (hW : DataW.Whole enc Try.prog Try.f3.params.toList Rows.printTextsSpec.vars false W args.toList ds gs before) (hk : Rows.uptoSmall H (ds ++ gs) = true) :
    Calls Try.prog 3 args W fun e W' => ∃ v, e = .returned v ∧ Rows.printTextsSpec.post enc Try.prog Try.f3 false true false false W args v W' := by
  have hW' := hW
  have hbulk := bulk_bound hk
  obtain ⟨p, q, hA0, hV, rfl, hfz, hnd⟩ := hW
  have hA : DataW.TrodAll enc Try.prog W 0 (fun _ => true) true Try.f3.params.toList args.toList ds p := hA0
  rw [Try.params3] at hA hval
  obtain ⟨v0, d0, rfl, rfl, h0⟩ := trodAll_one hA
  obtain ⟨rfl, rfl⟩ := trodVars_none hV
  obtain ⟨s, rs, rfl, hs, hl, hq⟩ := el_pm (hval 0 24 v0 rfl rfl) h0
  have fin : ∀ W' : World, Mine.Mod (fun _ => False) W W' → Rows.printTextsSpec.post enc Try.prog Try.f3 false true false false W #[.agg #[s]] (.bool true) W' := fun W' hM =>
    law_fin (by rw [Try.params3]; intro t ht; simp at ht; subst ht; exact ⟨by kernel_rfl, of_decide_eq_true (by kernel_rfl)⟩) rfl rfl rfl rfl rfl hW' hM
  simp only [List.append_nil, Rows.uptoBulkAll] at hbulk
  exact (PrintTexts_true rs s W hs (small _ (by omega) rs hl hq)).mono fun e W' ⟨he, hM⟩ => ⟨_, he, fin W' hM⟩

set_option maxRecDepth 100000 in
theorem lifted (os : Os) (started : os.Started) (H : Type) (enc : TypeId × Value → H) (F : Stop.Interp) :
    ReturnsInHanded {} Try.checked os 3 .any ((Rows.OpenSpec.upto Rows.printTextsSpec).pre6 enc Try.prog Try.f3 Rows.printTextsUptoRow.domain false) (((Rows.OpenSpec.upto Rows.printTextsSpec).at F).post enc Try.prog Try.f3 false true false false) := by
  refine returnsInHanded_of_cond (C := Try.checked) (s := Rows.OpenSpec.upto Rows.printTextsSpec) (k := Rows.uptoSmall) rfl own started (by kernel_rfl) Try.func3
    (OpenSpec.witness (enc := enc) (C := Try.checked) (s := Rows.OpenSpec.upto Rows.printTextsSpec) (k := Rows.uptoSmall) rfl false ⟨#[], #[.agg #[.slice none 0 0]], []⟩ 8 (by kernel_rfl) (by kernel_rfl) (by kernel_rfl)
      (x := ([.agg [.nil]], [], [])) (by kernel_rfl) rfl (by kernel_rfl)) ?_
  intro W base args ds gs before hval hW _ hk _
  exact contract H enc W base args ds gs before hval hW hk

theorem over : Rows.printTextsUptoRow.holds Try.pinned (Rows.OpenSpec.upto Rows.printTextsSpec) :=
  OpenClaim.holds_of_cond 3 Try.f3 rfl rfl rfl rfl rfl rfl rfl ⟨rfl, rfl, rfl, rfl, rfl⟩ rfl rfl rfl rfl rfl (by kernel_rfl) Try.func3 (by kernel_rfl)
    (of_decide_eq_true (by kernel_rfl)) (by unfold Func.isWrapper; first | (rw [if_pos (by decide +kernel)]; kernel_rfl) | (rw [if_neg (by decide +kernel)]; exact ⟨rfl, rfl⟩))
    (fun os started H enc _ F => lifted os started H enc F)

theorem proved : Rows.PrintTextsUptoSaid := over
end Go.Proofs.Ytgjcfoimfpeaeaa.printTexts
