/- Of a program that a row hands in: its list of rules is no longer than its room; its sizes. -/
import Derived.Test.YteecbbnpgmceiaaDoorOpG
import Derived.Test.YteecbbnpgmceiaaDoorSch6
import Derived.Test.YteecbbnpgmceiaaDoorSchOW
import Derived.Test.YteecbbnpgmceiaaDoorCardL
import Derived.Test.YteecbbnpgmceiaaDoorArgs
namespace Go.Proofs.YteecbbnpgmceiaaDoor
open Go Go.RowKit Go.Mine Go.Joins Go.ChangeShapes Go.WideShapes Go.ChangeAt Go.Deep
set_option linter.unusedVariables false
set_option maxRecDepth 100000

theorem pm_cap {H : Type} {enc : TypeId × Value → H} {w : World} {base : Nat} {spare : Nat → Bool} {held : Bool} {r : Reach} {b0 : Nat} {v : Value} {d : DataW H} {p : List MemPlace} (hv : Value.okWide Tryd.prog w r b0 33 v) (h : DataW.Trod enc Tryd.prog w base spare held 33 v d p) :
    ∀ s, v = .agg #[s] → ∀ a n c, s = .slice a n c → n ≤ c := by
  obtain ⟨cs, rfl, hsz⟩ := okWide_struct Tryd.underlying33 hv
  obtain ⟨fuel, hf⟩ := h
  obtain ⟨xs, n', rfl, hl, hxl, hfd⟩ := st2 Tryd.underlying33 hf
  rw [cP] at hsz
  obtain ⟨l⟩ := cs
  match l, hsz with
  | [v0], _ =>
  match xs, hxl with
  | [y0], _ =>
  have h0 : DataW.trod enc Tryd.prog w base spare held n' 31 (List.take (Tryd.prog.cellsOf 31) [v0]) = some y0 := hfd 0 _ rfl
  rw [c1.2.2.2.2] at h0
  intro s hs a n c hsl
  simp only [Value.agg.injEq, Array.mk.injEq, List.cons.injEq, and_true] at hs
  subst hs
  subst hsl
  rcases open_slice Tryd.underlying31 h0 with ⟨e, _⟩ | ⟨a', len, cap, m, n2, D, Pl, e, hb, hlc, _⟩
  · simp at e; obtain ⟨_, rfl, rfl⟩ := e; exact Nat.le_refl _
  · simp at e; obtain ⟨_, rfl, rfl⟩ := e; exact hlc
theorem schOk_ofQ {N : Nat} {r : Rm} (h : RmQ N r) (hN : N ≤ 2 ^ 20) : SchOk r := by
  have h1 := h.1.1; have h2 := h.1.2.1; have h3 := h.2.1
  exact ⟨h.small (by omega), ⟨⟨by unfold maxLen; omega, by omega⟩, by omega, fun l hl => ⟨by have := (h.2.2 l hl).1.1; unfold maxLen; omega, by have := (h.2.2 l hl).1.2.1; omega⟩⟩, by omega, by omega, fun l hl => by have := (h.2.2 l hl).1.2.1; omega⟩
end Go.Proofs.YteecbbnpgmceiaaDoor
/- SchemaOrder answers true, where what it reads is of bulk at most 1048576; the variables that its row lists are tied to the text by the card. -/
namespace Go.Proofs.YteecbbnpgmceiaaDoor.schemaOrder
open Go Go.RowKit Go.Mine Go.ChangeShapes Go.WideShapes Go.ChangeAt
set_option linter.unusedVariables false

set_option maxRecDepth 100000 in
theorem contract (H : Type) (enc : TypeId × Value → H) (W : World) (base : Nat) (args : Array Value) (ds gs : List (DataW H)) (before : List MemPlace)
    (hval : ∀ (j : Nat) t v, Tryd.f7.params[j]? = some t → args[j]? = some v → Value.okWide Tryd.prog W .any base t v)
    (hW : DataW.Whole enc Tryd.prog Tryd.f7.params.toList Rows.schemaOrderSpec.vars false W args.toList ds gs before) (hk : Rows.uptoSmall H (ds ++ gs) = true)
    (hL : laidMetH Tryd.prog laidL W) :
    Calls Tryd.prog 7 args W fun e W' => ∃ v, e = .returned v ∧ Rows.schemaOrderSpec.post enc Tryd.prog Tryd.f7 false true false false W args v W' := by
  have hW' := hW
  have hbulk := bulk_bound hk
  have hT := tabs_of_laid hL
  obtain ⟨p, q, hA0, hV, rfl, hfz, hnd⟩ := hW
  have hA : DataW.TrodAll enc Tryd.prog W 0 (fun _ => true) true Tryd.f7.params.toList args.toList ds p := hA0
  rw [Tryd.params7] at hA hval
  obtain ⟨v0, v1, d0, d1, p0, p1, rfl, rfl, rfl, h0, h1⟩ := trodAll_two hA
  obtain ⟨rfl, rfl⟩ := trodVars_none hV
  obtain ⟨s0, rs0, rfl, hr0, hl0, hb0⟩ := el_pm (hval 0 33 v0 rfl rfl) h0
  obtain ⟨z1, rfl, hd1, hp1, hb1⟩ := arg_int (hval 1 3 v1 rfl rfl) h1
  subst hd1 hp1
  try simp only [List.append_nil, Rows.uptoBulkAll] at hbulk
  exact (schOrder_walk rs0 s0 z1 W hr0 (pm_cap (hval 0 33 _ rfl rfl) h0 _ rfl) (by omega) (fun r hr => schOk_ofQ (hb0 r hr) (by omega)) hb1 hT).mono fun e W' ⟨he, hM⟩ => ⟨_, he,
    law_fin (by rw [Tryd.params7]; intro t ht; simp at ht; rcases ht with rfl | rfl <;> exact ⟨by kernel_rfl, of_decide_eq_true (by kernel_rfl)⟩) rfl rfl rfl rfl rfl hW' hM⟩

theorem reads (os : Os) {H : Type} (enc : TypeId × Value → H) : ∃ places, DataW.whole enc Tryd.prog ((laidWorld os).forCall (fun _ _ => 0) ⟨#[], #[.agg #[.slice none 0 0], .int .i64 0], []⟩).memory Tryd.f7.params.toList Rows.schemaOrderSpec.vars false #[Value.agg #[.slice none 0 0], Value.int .i64 0].toList 8 = some ([.agg [.nil], .lit (.int .i64 0)], [], places) :=
  ⟨[], by kernel_rfl⟩
set_option maxRecDepth 100000 in
theorem lifted (os : Os) (started : os.Started) (H : Type) (enc : TypeId × Value → H) (F : Stop.Interp) :
    ReturnsInHanded {} Tryd.checked os 7 .any ((Rows.OpenSpec.upto Rows.schemaOrderSpec).preRow enc Tryd.prog Tryd.f7 Rows.schemaOrderUptoRow.domain false Rows.schemaOrderUptoRow.laid) (((Rows.OpenSpec.upto Rows.schemaOrderSpec).at F).post enc Tryd.prog Tryd.f7 false true false false) := by
  obtain ⟨places, hx⟩ := reads os enc
  refine returnsInHanded_of_row (C := Tryd.checked) (s := Rows.OpenSpec.upto Rows.schemaOrderSpec) own started (by kernel_rfl) Tryd.func7
    (witness_row_at (enc := enc) (C := Tryd.checked) false (laidWorld os) #[.agg #[.slice none 0 0], .int .i64 0] rfl (by kernel_rfl) (by kernel_rfl) (by kernel_rfl)
      (OpenSpec.preRow_of_cond 8 hx (by kernel_rfl) (fun k hk => by cases hk; kernel_rfl) (by kernel_rfl) (laid_met os _))) ?_
  intro W base args ds gs before hval hW _ hcond _ hL _ _
  exact contract H enc W base args ds gs before hval hW (hcond _ rfl) hL
theorem saidUpto : Rows.SchemaOrderUptoSaid :=
  OpenClaim.holds_of_cond 7 Tryd.f7 rfl rfl rfl rfl rfl rfl rfl ⟨rfl, rfl, rfl, rfl, rfl⟩ rfl rfl rfl rfl rfl (by kernel_rfl) Tryd.func7 (by kernel_rfl)
    (of_decide_eq_true (by kernel_rfl)) (by unfold Func.isWrapper; first | (rw [if_pos (by decide +kernel)]; kernel_rfl) | (rw [if_neg (by decide +kernel)]; exact ⟨rfl, rfl⟩))
    (fun os started H enc _ F => by rw [OpenClaim.pre_eq_preRow]; exact lifted os started H enc F)
theorem plain (f : FuncId) (fn : Func) (hf : Tryd.pinned.checked.prog.funcNamed "sibyl/sibyllaw11.SchemaOrder" = some f) (hfn : Tryd.pinned.checked.prog.funcs[f]? = some fn) :
    true = Tryd.pinned.checked.prog.looks [] ∧ ∀ (j : Nat) t, fn.params[j]? = some t → Tryd.pinned.checked.prog.wantsStandIn t = false := by
  obtain rfl : f = 7 := Option.some.inj ((show Tryd.prog.funcNamed "sibyl/sibyllaw11.SchemaOrder" = some 7 by kernel_rfl).symm.trans hf) |>.symm
  obtain rfl : fn = Tryd.f7 := (Option.some.inj (Tryd.func7.symm.trans hfn)).symm
  refine ⟨by kernel_rfl, fun j t ht => ?_⟩
  rw [Tryd.params7] at ht
  have hm := Array.mem_of_getElem? ht
  simp at hm
  rcases hm with rfl | rfl
  · exact (show Tryd.prog.wantsStandIn 33 = false by kernel_rfl)
  · exact (show Tryd.prog.wantsStandIn 3 = false by kernel_rfl)
theorem proved : Rows.SchemaOrderUptoCardSaid :=
  Claim7.holds_tied_plain_at .later [] _ _ _ _ saidUpto (fun _ h => by cases h) (by kernel_rfl) (fun _ h => by cases h) schemaOrderUpto_row_tie rfl ⟨rfl, rfl⟩ (by kernel_rfl) rfl plain (by kernel_rfl)
end Go.Proofs.YteecbbnpgmceiaaDoor.schemaOrder
