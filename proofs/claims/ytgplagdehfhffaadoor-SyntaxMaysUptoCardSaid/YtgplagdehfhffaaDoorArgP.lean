/- A program as an argument: what it holds is small. -/
import Derived.Test.YtgplagdehfhffaaDoorOpen
import Derived.Test.YtgplagdehfhffaaDoorMayG
namespace Go.Proofs.YtgplagdehfhffaaDoor
open Go Go.RowKit Go.Mine Go.ChangeShapes Go.WideShapes Go.ChangeAt
set_option linter.unusedVariables false

theorem RmQ.small {N : Nat} {r : Rm} (h : RmQ N r) (hN : N < 2 ^ 30) : SmallRm r :=
  ⟨⟨by have := h.1.1; omega, by have := h.1.2.1; omega, fun t ht => by have := h.1.2.2 t ht; omega⟩, by have := h.2.1; omega,
    fun l hl => ⟨⟨by have := (h.2.2 l hl).1.1; omega, by have := (h.2.2 l hl).1.2.1; omega, fun t ht => by have := (h.2.2 l hl).1.2.2 t ht; omega⟩, by have := (h.2.2 l hl).2.1; omega, by have := (h.2.2 l hl).2.2; omega⟩⟩
theorem smallP {N : Nat} {rs : List Rm} (hN : N < 2 ^ 30) (hl : rs.length ≤ N) (hq : ∀ r ∈ rs, RmQ N r) : SmallPm rs := ⟨by omega, fun r hr => RmQ.small (hq r hr) hN⟩
end Go.Proofs.YtgplagdehfhffaaDoor
