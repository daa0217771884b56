/- SymtabReads answers true of any texts, where what it reads is of bulk at most 1048576. -/
import Derived.Test.YtgfekdebjafodaaRdLaw
import Derived.Test.YtgfekdebjafodaaClose2
namespace Go.Proofs.Ytgfekdebjafodaa.symtabReads
open Go Go.RowKit Go.Mine Go.ChangeShapes Go.WideShapes Go.ChangeAt
set_option linter.unusedVariables false

set_option maxRecDepth 100000 in
theorem contract (H : Type) (enc : TypeId × Value → H) (W : World) (base : Nat) (args : Array Value) (ds gs : List (DataW H)) (before : List MemPlace)
    (hval : ∀ (j : Nat) t v, Try.f5.params[j]? = some t → args[j]? = some v → Value.okWide Try.prog W .any base t v)
    (hW : DataW.Whole enc Try.prog Try.f5.params.toList Rows.symtabReadsSpec.vars false W args.toList ds gs before) (hk : Rows.uptoSmall H (ds ++ gs) = true) :
    Calls Try.prog 5 args W fun e W' => ∃ v, e = .returned v ∧ Rows.symtabReadsSpec.post enc Try.prog Try.f5 false true false false W args v W' := by
  have hW' := hW
  have hbulk := bulk_bound hk
  obtain ⟨p, q, hA0, hV, rfl, hfz, hnd⟩ := hW
  have hA : DataW.TrodAll enc Try.prog W 0 (fun _ => true) true Try.f5.params.toList args.toList ds p := hA0
  rw [Try.params5] at hA hval
  obtain ⟨v0, d0, rfl, rfl, h0⟩ := trodAll_one hA
  obtain ⟨rfl, rfl⟩ := trodVars_none hV
  obtain ⟨a0, len, cap, rfl⟩ := okWide_slice Try.underlying24 (hval 0 24 v0 rfl rfl)
  obtain ⟨fuel, hf⟩ := h0
  have fin : ∀ W' : World, Mine.Mod (fun _ => False) W W' → Rows.symtabReadsSpec.post enc Try.prog Try.f5 false true false false W #[.slice a0 len cap] (.bool true) W' := fun W' hM =>
    law_fin (by rw [Try.params5]; intro t ht; simp at ht; subst ht; exact ⟨by kernel_rfl, of_decide_eq_true (by kernel_rfl)⟩) rfl rfl rfl rfl rfl hW' hM
  simp only [List.append_nil, Rows.uptoBulkAll] at hbulk
  rcases open_ints Try.underlying24 Try.underlying5 (by kernel_rfl) hf with ⟨hcs, hx⟩ | ⟨a, len', cap', zs, hcs, _, hl, hm, hz, hx, hcell, hws⟩
  · simp [Value.cells] at hcs
    obtain ⟨rfl, rfl, rfl⟩ := hcs
    exact (symtabReads_walk none 0 [] W (Rd.nil _ _) (by simp)).mono fun e W' ⟨he, hM⟩ => ⟨_, he, fin W' hM⟩
  · simp [Value.cells] at hcs
    obtain ⟨rfl, rfl, rfl⟩ := hcs
    simp only [Prod.mk.injEq] at hx
    obtain ⟨rfl, _⟩ := hx
    simp only [if_true] at hz
    simp only [Rows.uptoBulk] at hbulk
    have b1 := bulk_ints (H := H) .u8 (zs.take len)
    have hlen : (zs.take len).length = len := by rw [List.length_take, hz]; omega
    have hrd : Rd W (some a) (bts (u8s (zs.take len))) := Rd.ofBytes hcell hws
    have := symtabReads_walk (some a) cap (u8s (zs.take len)) W hrd (by rw [u8s_length]; omega)
    rw [u8s_length, hlen] at this
    exact this.mono fun e W' ⟨he, hM⟩ => ⟨_, he, fin W' hM⟩

set_option maxRecDepth 100000 in
theorem lifted (os : Os) (started : os.Started) (H : Type) (enc : TypeId × Value → H) (F : Stop.Interp) :
    ReturnsInHanded {} Try.checked os 5 .any ((Rows.OpenSpec.upto Rows.symtabReadsSpec).pre6 enc Try.prog Try.f5 Rows.symtabReadsUptoRow.domain false) (((Rows.OpenSpec.upto Rows.symtabReadsSpec).at F).post enc Try.prog Try.f5 false true false false) := by
  refine returnsInHanded_of_cond (C := Try.checked) (s := Rows.OpenSpec.upto Rows.symtabReadsSpec) (k := Rows.uptoSmall) rfl own started (by kernel_rfl) Try.func5
    (OpenSpec.witness (enc := enc) (C := Try.checked) (s := Rows.OpenSpec.upto Rows.symtabReadsSpec) (k := Rows.uptoSmall) rfl false ⟨#[], #[.slice none 0 0], []⟩ 8 (by kernel_rfl) (by kernel_rfl) (by kernel_rfl)
      (x := ([.nil], [], [])) (by kernel_rfl) rfl (by kernel_rfl)) ?_
  intro W base args ds gs before hval hW _ hk _
  exact contract H enc W base args ds gs before hval hW hk

theorem over : Rows.symtabReadsUptoRow.holds Try.pinned (Rows.OpenSpec.upto Rows.symtabReadsSpec) :=
  OpenClaim.holds_of_cond 5 Try.f5 rfl rfl rfl rfl rfl rfl rfl ⟨rfl, rfl, rfl, rfl, rfl⟩ rfl rfl rfl rfl rfl (by kernel_rfl) Try.func5 (by kernel_rfl)
    (of_decide_eq_true (by kernel_rfl)) (by unfold Func.isWrapper; first | (rw [if_pos (by decide +kernel)]; kernel_rfl) | (rw [if_neg (by decide +kernel)]; exact ⟨rfl, rfl⟩))
    (fun os started H enc _ F => lifted os started H enc F)

theorem proved : Rows.SymtabReadsUptoSaid := over
end Go.Proofs.Ytgfekdebjafodaa.symtabReads
