/-
  No cell of these rows narrows 'for every input' (looked for: loops, veiled, ifaces, maps, wideKeys, modest, calm, conditions, laid).
  DERIVED. THE GIVEN ROWS OF THIS SEAT. 4 by the template 'for every input the law returns true; each argument reads behind the call as it read before'; 0 by the template 'total and deterministic' (their statements: YtgfekdebjafodaaTotals.lean).
  GIVEN WITH THE SEED: the statements are not yours to turn. If you find one false, say at which input.
  Laid BY PROGRAM, IN A SANDBOX (cutbox-rows.mjs): the forced cells as the released guide's own fill.sh prints them over the translation b4ed2b6984ca308c… (all of the seat's roots in one cut). By AI agents, Wed Nov 11 2026. No macro, syntax, notation, axiom, sorry.
-/
import Derived.Test.YtgfekdebjafodaaChecked
import GoSem.Claim
import GoSem.ClaimJoined
import GoSem.ClaimMapViews
import Derived.JoinedTies
import Derived.KernelRfl
namespace Go.Proofs.Ytgfekdebjafodaa
/- THE CELL 'sum', in the pinned program and in every row, IS THE sha256 OF THE DUMP (.gsa) THAT YtgfekdebjafodaaProg.lean LOADS. Nothing in Lean hashes anything: it is a label: what it is worth is what the hold of that sum in a sandbox is worth. -/
noncomputable def Try.pinned : Pinned := { name := "ytgfekdebjafodaa", sum := "b4ed2b6984ca308c51d959f0fca87be2cb78cf9066aecb26cbd0bdcb8643104c", checked := Try.checked }
namespace Rows
def none {H : Type} : Left H := { results := [], args := [] }

/-- 'sibyllaw04.SymtabPages': WHATEVER THE INPUT: true; the input reads as it did. -/
def symtabPagesSpec : ChangeSpec := { name := "symtabPages", fn := fun _ => fun
  | [d] => { results := [.lit (.bool true)], args := [d] }
  | _ => none }
def symtabPagesRow : OpenClaim := { program := "ytgfekdebjafodaa", sum := "b4ed2b6984ca308c51d959f0fca87be2cb78cf9066aecb26cbd0bdcb8643104c", func := "sibyl/sibyllaw04.SymtabPages", spec := "symtabPages", unfollowed := true, recurses := true, apart := false }
def SymtabPagesSaid : Prop := symtabPagesRow.holds Try.pinned (OpenSpec.ofChange symtabPagesSpec)

/-- ITS FALSE NEIGHBOUR: 'it returns false'. Refute it at one input. -/
def symtabPagesWrong : ChangeSpec := { name := "symtabPages", fn := fun _ => fun
  | [d] => { results := [.lit (.bool false)], args := [d] }
  | _ => none }
def SymtabPagesWrongFalsely : Prop := symtabPagesRow.holds Try.pinned (OpenSpec.ofChange symtabPagesWrong)

/-- 'sibyllaw06.LexWords': WHATEVER THE INPUT: true; the input reads as it did. -/
def lexWordsSpec : ChangeSpec := { name := "lexWords", fn := fun _ => fun
  | [d] => { results := [.lit (.bool true)], args := [d] }
  | _ => none }
def lexWordsRow : OpenClaim := { program := "ytgfekdebjafodaa", sum := "b4ed2b6984ca308c51d959f0fca87be2cb78cf9066aecb26cbd0bdcb8643104c", func := "sibyl/sibyllaw06.LexWords", spec := "lexWords", inPlace := ["internal/abi.NoEscape"], apart := false }
def LexWordsSaid : Prop := lexWordsRow.holds Try.pinned (OpenSpec.ofChange lexWordsSpec)

/-- ITS FALSE NEIGHBOUR: 'it returns false'. Refute it at one input. -/
def lexWordsWrong : ChangeSpec := { name := "lexWords", fn := fun _ => fun
  | [d] => { results := [.lit (.bool false)], args := [d] }
  | _ => none }
def LexWordsWrongFalsely : Prop := lexWordsRow.holds Try.pinned (OpenSpec.ofChange lexWordsWrong)

/-- 'sibyllaw04.SymtabReads': WHATEVER THE INPUT: true; the input reads as it did. -/
def symtabReadsSpec : ChangeSpec := { name := "symtabReads", fn := fun _ => fun
  | [d] => { results := [.lit (.bool true)], args := [d] }
  | _ => none }
def symtabReadsRow : OpenClaim := { program := "ytgfekdebjafodaa", sum := "b4ed2b6984ca308c51d959f0fca87be2cb78cf9066aecb26cbd0bdcb8643104c", func := "sibyl/sibyllaw04.SymtabReads", spec := "symtabReads", unfollowed := true, recurses := true, apart := false }
def SymtabReadsSaid : Prop := symtabReadsRow.holds Try.pinned (OpenSpec.ofChange symtabReadsSpec)

/-- ITS FALSE NEIGHBOUR: 'it returns false'. Refute it at one input. -/
def symtabReadsWrong : ChangeSpec := { name := "symtabReads", fn := fun _ => fun
  | [d] => { results := [.lit (.bool false)], args := [d] }
  | _ => none }
def SymtabReadsWrongFalsely : Prop := symtabReadsRow.holds Try.pinned (OpenSpec.ofChange symtabReadsWrong)

/-- 'sibyllaw04.SymtabScripts': WHATEVER THE INPUT: true; the input reads as it did. -/
def symtabScriptsSpec : ChangeSpec := { name := "symtabScripts", fn := fun _ => fun
  | [d1, d2] => { results := [.lit (.bool true)], args := [d1, d2] }
  | _ => none }
def symtabScriptsRow : OpenClaim := { program := "ytgfekdebjafodaa", sum := "b4ed2b6984ca308c51d959f0fca87be2cb78cf9066aecb26cbd0bdcb8643104c", func := "sibyl/sibyllaw04.SymtabScripts", spec := "symtabScripts", unfollowed := true, recurses := true, apart := false }
def SymtabScriptsSaid : Prop := symtabScriptsRow.holds Try.pinned (OpenSpec.ofChange symtabScriptsSpec)

/-- ITS FALSE NEIGHBOUR: 'it returns false'. Refute it at one input. -/
def symtabScriptsWrong : ChangeSpec := { name := "symtabScripts", fn := fun _ => fun
  | [d1, d2] => { results := [.lit (.bool false)], args := [d1, d2] }
  | _ => none }
def SymtabScriptsWrongFalsely : Prop := symtabScriptsRow.holds Try.pinned (OpenSpec.ofChange symtabScriptsWrong)

/- THE SECOND FORM. 'bulk': how many values and letters a reading holds, each counted each time it is reached (what is shared counts as often as it is met; a slice's spare places count too). A statement '..UptoSaid' is the law's where the arguments, and the package variables that the reading takes, are together of bulk at most 1048576: NARROWER than '..Said'. Prove '..Said' where nothing that the law and all that it calls make is longer than what came in: it says more and counts as full. Else prove '..UptoSaid'. A law counts once. -/
mutual
def uptoBulk {H : Type} : DataW H → Nat
  | .lit (.string bytes) => bytes.length + 1
  | .lit _ => 1
  | .nil => 1
  | .ptr d => uptoBulk d + 1
  | .slice elems spare => uptoBulkAll elems + uptoBulkAll spare + 1
  | .agg parts => uptoBulkAll parts + 1
  | .iface _ d => uptoBulk d + 1
  | .map entries => uptoBulkEntries entries + 1
  | .held _ => 1
def uptoBulkAll {H : Type} : List (DataW H) → Nat
  | [] => 0
  | d :: r => uptoBulk d + uptoBulkAll r
def uptoBulkEntries {H : Type} : List (Lit × DataW H) → Nat
  | [] => 0
  | x :: r => uptoBulkEntry x + uptoBulkEntries r
def uptoBulkEntry {H : Type} : Lit × DataW H → Nat
  | (.string bytes, d) => bytes.length + uptoBulk d + 1
  | (_, d) => uptoBulk d + 1
 end
def uptoSmall : (H : Type) → List (DataW H) → Bool := fun _ ds => decide (uptoBulkAll ds ≤ 1048576)
def OpenSpec.upto (s : _root_.Go.ChangeSpec) : _root_.Go.OpenSpec := { _root_.Go.OpenSpec.ofChange s with cond := some uptoSmall }

/-- 'sibyllaw04.SymtabPages', WHERE WHAT IT READS IS OF BULK AT MOST 1048576: true; the input reads as it did. -/
def symtabPagesUptoRow : OpenClaim := { program := "ytgfekdebjafodaa", sum := "b4ed2b6984ca308c51d959f0fca87be2cb78cf9066aecb26cbd0bdcb8643104c", func := "sibyl/sibyllaw04.SymtabPages", spec := "symtabPages", unfollowed := true, recurses := true, apart := false, narrowed := true }
def SymtabPagesUptoSaid : Prop := symtabPagesUptoRow.holds Try.pinned (OpenSpec.upto symtabPagesSpec)

/-- 'sibyllaw06.LexWords', WHERE WHAT IT READS IS OF BULK AT MOST 1048576: true; the input reads as it did. -/
def lexWordsUptoRow : OpenClaim := { program := "ytgfekdebjafodaa", sum := "b4ed2b6984ca308c51d959f0fca87be2cb78cf9066aecb26cbd0bdcb8643104c", func := "sibyl/sibyllaw06.LexWords", spec := "lexWords", inPlace := ["internal/abi.NoEscape"], apart := false, narrowed := true }
def LexWordsUptoSaid : Prop := lexWordsUptoRow.holds Try.pinned (OpenSpec.upto lexWordsSpec)

/-- 'sibyllaw04.SymtabReads', WHERE WHAT IT READS IS OF BULK AT MOST 1048576: true; the input reads as it did. -/
def symtabReadsUptoRow : OpenClaim := { program := "ytgfekdebjafodaa", sum := "b4ed2b6984ca308c51d959f0fca87be2cb78cf9066aecb26cbd0bdcb8643104c", func := "sibyl/sibyllaw04.SymtabReads", spec := "symtabReads", unfollowed := true, recurses := true, apart := false, narrowed := true }
def SymtabReadsUptoSaid : Prop := symtabReadsUptoRow.holds Try.pinned (OpenSpec.upto symtabReadsSpec)

/-- 'sibyllaw04.SymtabScripts', WHERE WHAT IT READS IS OF BULK AT MOST 1048576: true; the input reads as it did. -/
def symtabScriptsUptoRow : OpenClaim := { program := "ytgfekdebjafodaa", sum := "b4ed2b6984ca308c51d959f0fca87be2cb78cf9066aecb26cbd0bdcb8643104c", func := "sibyl/sibyllaw04.SymtabScripts", spec := "symtabScripts", unfollowed := true, recurses := true, apart := false, narrowed := true }
def SymtabScriptsUptoSaid : Prop := symtabScriptsUptoRow.holds Try.pinned (OpenSpec.upto symtabScriptsSpec)

end Rows
end Go.Proofs.Ytgfekdebjafodaa
