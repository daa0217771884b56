/-
  What the document's reader answers.
-/
import Derived.Test.YtgplagdehfhffaaDoorLawP
import Derived.Test.YtgplagdehfhffaaDoorRfC
namespace Go.Proofs.YtgplagdehfhffaaDoor
open Go Go.RowKit Go.Mine
set_option linter.unusedVariables false
set_option maxHeartbeats 1000000
set_option maxRecDepth 100000

theorem refParse_says (l : List UInt8) (n : Nat) (hl : l.length = n) (hn : n < 2 ^ 30) (a0 : Option Addr) (c0 : Nat) (w : World) (hR : Rd w a0 (bts l)) :
    Calls Tryd.prog 13 #[.slice a0 n c0] w (PSay w (progS ⟨l.toArray⟩)) := by
  subst hl
  refine (refParse_any a0 c0 l w hR hn).mono ?_
  rintro e w' ⟨h, hM⟩
  rcases h with ⟨x, hr, he⟩ | ⟨rs, v, hr, he, hv⟩
  · exact ⟨_, by rw [hr]; exact he, by rw [hr]; exact rsAt_nil w', hM⟩
  · obtain ⟨s, rfl, hf⟩ := hv
    exact ⟨_, by rw [hr]; exact he, by rw [hr]; exact hf.at_, hM⟩
theorem refParseRule_says (l : List UInt8) (n : Nat) (hl : l.length = n) (hn : n < 2 ^ 30) (a0 : Option Addr) (c0 : Nat) (w : World) (hR : Rd w a0 (bts l)) :
    Calls Tryd.prog 18 #[.slice a0 n c0] w (RSay w (ruleS ⟨l.toArray⟩)) := by
  subst hl
  refine (refParseRule_any a0 c0 l w hR hn).mono ?_
  rintro e w' ⟨h, hM⟩
  rcases h with ⟨x, hr, he⟩ | ⟨r, v, hr, he, hv⟩
  · exact ⟨_, _, by rw [hr]; exact he, by rw [hr]; exact tsAt_nil w', by rw [hr]; exact lsAt_nil w', hM⟩
  · obtain ⟨s, b, rfl, h1, h2⟩ := hv
    exact ⟨_, _, by rw [hr]; exact he, by rw [hr]; exact h1.at_, by rw [hr]; exact h2.at_, hM⟩
theorem refParseAtom_says (l : List UInt8) (n : Nat) (hl : l.length = n) (hn : n < 2 ^ 30) (a0 : Option Addr) (c0 : Nat) (w : World) (hR : Rd w a0 (bts l)) :
    Calls Tryd.prog 21 #[.slice a0 n c0] w (ASay w (atomS ⟨l.toArray⟩)) := by
  subst hl
  refine (refParseAtom_any a0 c0 l w hR hn).mono ?_
  rintro e w' ⟨h, hM⟩
  rcases h with ⟨x, hr, he⟩ | ⟨r, v, hr, he, hv⟩
  · exact ⟨_, by rw [hr]; exact he, by rw [hr]; exact tsAt_nil w', hM⟩
  · obtain ⟨s, rfl, h1⟩ := hv
    exact ⟨_, by rw [hr]; exact he, by rw [hr]; exact h1.at_, hM⟩
end Go.Proofs.YtgplagdehfhffaaDoor
