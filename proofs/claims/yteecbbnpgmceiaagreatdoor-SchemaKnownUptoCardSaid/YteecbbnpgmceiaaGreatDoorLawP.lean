/-
  What the parser answers.
-/
import Derived.Test.YteecbbnpgmceiaaGreatDoorLawA
import Derived.Test.YteecbbnpgmceiaaGreatDoorSmallP
import Derived.Test.YteecbbnpgmceiaaGreatDoorPar3
namespace Go.Proofs.YteecbbnpgmceiaaGreatDoor
open Go Go.RowKit Go.Mine
set_option linter.unusedVariables false
set_option maxHeartbeats 1000000
set_option maxRecDepth 100000

def noOf {α : Type} : PR α → Nat
  | .ok _ => 0
  | .error x => x.1
def atOf {α : Type} : PR α → Nat
  | .ok _ => 0
  | .error x => x.2
def valOf {α : Type} (d : α) : PR α → α
  | .ok a => a
  | .error _ => d
def rm0 : Rm := ⟨⟨emptyB, []⟩, []⟩
def am0 : Am := ⟨emptyB, []⟩
theorem rsAt_nil (w : World) : RsAt w (.slice none 0 0) [] := ⟨none, 0, [], rfl, rfl, Rd.nil _ _, by simp⟩
theorem lsAt_nil (w : World) : LsAt w (.slice none 0 0) [] := ⟨none, 0, [], rfl, rfl, Rd.nil _ _, by simp⟩
theorem tsAt_nil (w : World) : TsAt w (.slice none 0 0) [] := ⟨none, 0, rfl, Rd.nil _ _⟩
/-- what a reader of programs answers -/
def PSay (w : World) (r : PR (List Rm)) (e : Ending) (w' : World) : Prop :=
  ∃ s, e = .returned (.tuple #[.agg #[s], .int .i64 (atOf r), .int .i64 (noOf r)]) ∧ RsAt w' s (valOf [] r) ∧ Mod (fun _ => False) w w'
def RSay (w : World) (r : PR Rm) (e : Ending) (w' : World) : Prop :=
  ∃ s b, e = .returned (.tuple #[rmV (valOf rm0 r) s b, .int .i64 (atOf r), .int .i64 (noOf r)]) ∧ TsAt w' s (valOf rm0 r).head.terms ∧ LsAt w' b (valOf rm0 r).body ∧ Mod (fun _ => False) w w'
def ASay (w : World) (r : PR Am) (e : Ending) (w' : World) : Prop :=
  ∃ s, e = .returned (.tuple #[.agg #[.string (valOf am0 r).pred, s], .int .i64 (atOf r), .int .i64 (noOf r)]) ∧ TsAt w' s (valOf am0 r).terms ∧ Mod (fun _ => False) w w'
theorem parse_says (l : List UInt8) (n : Nat) (hl : l.length = n) (hn : n < 2 ^ 30) (a0 : Option Addr) (c0 : Nat) (w : World) (hR : Rd w a0 (bts l)) (hT : Lib.Utf8Tabs 1 2 w) :
    Calls Tryz.prog 15 #[.slice a0 n c0] w (PSay w (progS ⟨l.toArray⟩)) := by
  subst hl
  refine (parse_any a0 c0 l w hR hT hn).mono ?_
  rintro e w' ⟨h, hM⟩
  rcases h with ⟨x, hr, he⟩ | ⟨rs, v, hr, he, a, k, rfl, bs, hf⟩
  · exact ⟨_, by rw [hr]; exact he, by rw [hr]; exact rsAt_nil w', hM⟩
  · exact ⟨_, by rw [hr]; exact he, by rw [hr]; exact hf.at_, hM⟩
theorem parseRule_says (l : List UInt8) (n : Nat) (hl : l.length = n) (hn : n < 2 ^ 30) (a0 : Option Addr) (c0 : Nat) (w : World) (hR : Rd w a0 (bts l)) (hT : Lib.Utf8Tabs 1 2 w) :
    Calls Tryz.prog 18 #[.slice a0 n c0] w (RSay w (ruleS ⟨l.toArray⟩)) := by
  subst hl
  refine (parseRule_any a0 c0 l w hR hT hn).mono ?_
  rintro e w' ⟨h, hM⟩
  rcases h with ⟨x, hr, he⟩ | ⟨r, v, hr, he, p, a1, n1, a2, n2, rfl, rfl, b, hb, lb, h1, h2, _, _⟩
  · exact ⟨_, _, by rw [hr]; exact he, by rw [hr]; exact tsAt_nil w', by rw [hr]; exact lsAt_nil w', hM⟩
  · exact ⟨_, _, by rw [hr]; exact he, by rw [hr]; exact h1.at_, by rw [hr]; exact h2.at_, hM⟩
theorem parseAtom_says (l : List UInt8) (n : Nat) (hl : l.length = n) (hn : n < 2 ^ 30) (a0 : Option Addr) (c0 : Nat) (w : World) (hR : Rd w a0 (bts l)) (hT : Lib.Utf8Tabs 1 2 w) :
    Calls Tryz.prog 22 #[.slice a0 n c0] w (ASay w (atomS ⟨l.toArray⟩)) := by
  subst hl
  refine (parseAtom_any a0 c0 l w hR hT hn).mono ?_
  rintro e w' ⟨h, hM⟩
  rcases h with ⟨x, hr, he⟩ | ⟨r, v, hr, he, p, a1, n1, rfl, rfl, b, hf⟩
  · exact ⟨_, by rw [hr]; exact he, by rw [hr]; exact tsAt_nil w', hM⟩
  · exact ⟨_, by rw [hr]; exact he, by rw [hr]; exact hf.at_, hM⟩
theorem RmS.smR {r : Rm} (h : RmS r) : SmR r := ⟨by have := h.1.2.1; omega, by have := h.2.1; omega, fun l hl => by have := (h.2.2 l hl).1.2.1; omega⟩
theorem progV_small (s : ByteArray) : (valOf [] (progS s)).length ≤ 1024 ∧ ∀ r ∈ valOf [] (progS s), RmS r := by
  rcases h : progS s with x | rs
  · exact ⟨by simp [valOf], by simp [valOf]⟩
  · exact prog_small h
theorem rm0S : RmS rm0 := ⟨amS_empty, by simp [rm0], by simp [rm0]⟩
theorem ruleV_small (s : ByteArray) : RmS (valOf rm0 (ruleS s)) := by
  rcases h : ruleS s with x | r
  · exact rm0S
  · exact rule_small h
theorem atomV_small (s : ByteArray) : AmS (valOf am0 (atomS s)) := by
  rcases h : atomS s with x | r
  · exact amS_empty
  · exact atom_small h
end Go.Proofs.YteecbbnpgmceiaaGreatDoor
