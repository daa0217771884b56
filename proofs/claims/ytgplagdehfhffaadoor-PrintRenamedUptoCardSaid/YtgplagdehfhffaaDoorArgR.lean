/- How a rule that a row hands in is opened. -/
import Derived.Test.YtgplagdehfhffaaDoorOpen
import Derived.Test.YtgplagdehfhffaaDoorNorm
import Derived.Test.YtgplagdehfhffaaDoorMayG
namespace Go.Proofs.YtgplagdehfhffaaDoor
open Go Go.RowKit Go.Mine Go.Joins Go.ChangeShapes Go.WideShapes Go.ChangeAt Go.Deep
set_option linter.unusedVariables false
set_option maxRecDepth 100000

theorem ar_rm {H : Type} {enc : TypeId × Value → H} {w : World} {base : Nat} {spare : Nat → Bool} {held : Bool} {r : Reach} {b0 : Nat} {v : Value} {d : DataW H} {p : List MemPlace} (hv : Value.okWide Tryd.prog w r b0 40 v) (h : DataW.Trod enc Tryd.prog w base spare held 40 v d p) :
    ∃ (q : Rm) (s b : Value), v = rmV q s b ∧ TsAt w s q.head.terms ∧ LsAt w b q.body ∧ RmQ (Rows.uptoBulk d) q := by
  obtain ⟨cs, rfl, hsz⟩ := okWide_struct Tryd.underlying40 hv
  obtain ⟨fuel, hf⟩ := h
  obtain ⟨⟨q, s, b⟩, e, h1, h2, h3⟩ := el_rm hf
  obtain ⟨l⟩ := cs
  have e' : l = rmC (q, s, b) := e
  subst e'
  exact ⟨q, s, b, rfl, h1, h2, h3⟩
theorem RmQ.small {N : Nat} {r : Rm} (h : RmQ N r) (hN : N < 2 ^ 30) : SmallRm r :=
  ⟨⟨by have := h.1.1; omega, by have := h.1.2.1; omega, fun t ht => by have := h.1.2.2 t ht; omega⟩, by have := h.2.1; omega,
    fun l hl => ⟨⟨by have := (h.2.2 l hl).1.1; omega, by have := (h.2.2 l hl).1.2.1; omega, fun t ht => by have := (h.2.2 l hl).1.2.2 t ht; omega⟩, by have := (h.2.2 l hl).2.1; omega, by have := (h.2.2 l hl).2.2; omega⟩⟩
end Go.Proofs.YtgplagdehfhffaaDoor
