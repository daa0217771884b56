/-
  No cell of these rows narrows 'for every input' (looked for: loops, veiled, ifaces, maps, wideKeys, modest, calm, conditions, laid).
  DERIVED. THE GIVEN ROWS OF THIS SEAT. 3 by the template 'for every input the law returns true; each argument reads behind the call as it read before'; 0 by the template 'total and deterministic' (their statements: YtjoiaejbahdjkaaGreatTotals.lean).
  GIVEN WITH THE SEED: the statements are not yours to turn. If you find one false, say at which input.
  Laid BY PROGRAM, IN A SANDBOX (cutbox-rows.mjs): the forced cells as the released guide's own fill.sh prints them over the translation 5d70d9ceeda11118… (all of the seat's roots in one cut). By AI agents, Wed Nov 11 2026. No macro, syntax, notation, axiom, sorry.
-/
import Derived.Test.YtjoiaejbahdjkaaGreatChecked
import GoSem.Claim
import GoSem.ClaimJoined
import GoSem.ClaimMapViews
import Derived.JoinedTies
import Derived.KernelRfl
namespace Go.Proofs.YtjoiaejbahdjkaaGreat
/- THE CELL 'sum', in the pinned program and in every row, IS THE sha256 OF THE DUMP (.gsa) THAT YtjoiaejbahdjkaaGreatProg.lean LOADS. Nothing in Lean hashes anything: it is a label: what it is worth is what the hold of that sum in a sandbox is worth. -/
noncomputable def Tryz.pinned : Pinned := { name := "ytjoiaejbahdjkaagreat", sum := "5d70d9ceeda11118cf9fdd78f208d65d38091197a370514c5f8a33e0c859b811", checked := Tryz.checked }
namespace Rows
def none {H : Type} : Left H := { results := [], args := [] }

/-- 'sibyllaw26.ArchivePacks': WHATEVER THE INPUT: true; the input reads as it did. -/
def archivePacksSpec : ChangeSpec := { name := "archivePacks", fn := fun _ => fun
  | [d] => { results := [.lit (.bool true)], args := [d] }
  | _ => none }
def archivePacksRow : OpenClaim := { program := "ytjoiaejbahdjkaagreat", sum := "5d70d9ceeda11118cf9fdd78f208d65d38091197a370514c5f8a33e0c859b811", func := "sibyl/sibyllaw26.ArchivePacks", spec := "archivePacks", inPlace := ["maps.clone"], unfollowed := true, recurses := true, apart := false }
def ArchivePacksSaid : Prop := archivePacksRow.holds Tryz.pinned (OpenSpec.ofChange archivePacksSpec)

/-- ITS FALSE NEIGHBOUR: 'it returns false'. Refute it at one input. -/
def archivePacksWrong : ChangeSpec := { name := "archivePacks", fn := fun _ => fun
  | [d] => { results := [.lit (.bool false)], args := [d] }
  | _ => none }
def ArchivePacksWrongFalsely : Prop := archivePacksRow.holds Tryz.pinned (OpenSpec.ofChange archivePacksWrong)

/-- 'sibyllaw26.ArchiveOpens': WHATEVER THE INPUT: true; the input reads as it did. -/
def archiveOpensSpec : ChangeSpec := { name := "archiveOpens", fn := fun _ => fun
  | [d] => { results := [.lit (.bool true)], args := [d] }
  | _ => none }
def archiveOpensRow : OpenClaim := { program := "ytjoiaejbahdjkaagreat", sum := "5d70d9ceeda11118cf9fdd78f208d65d38091197a370514c5f8a33e0c859b811", func := "sibyl/sibyllaw26.ArchiveOpens", spec := "archiveOpens", unfollowed := true, recurses := true, apart := false }
def ArchiveOpensSaid : Prop := archiveOpensRow.holds Tryz.pinned (OpenSpec.ofChange archiveOpensSpec)

/-- ITS FALSE NEIGHBOUR: 'it returns false'. Refute it at one input. -/
def archiveOpensWrong : ChangeSpec := { name := "archiveOpens", fn := fun _ => fun
  | [d] => { results := [.lit (.bool false)], args := [d] }
  | _ => none }
def ArchiveOpensWrongFalsely : Prop := archiveOpensRow.holds Tryz.pinned (OpenSpec.ofChange archiveOpensWrong)

/-- 'sibyllaw26.ArchivePlays': WHATEVER THE INPUT: true; the input reads as it did. -/
def archivePlaysSpec : ChangeSpec := { name := "archivePlays", fn := fun _ => fun
  | [d] => { results := [.lit (.bool true)], args := [d] }
  | _ => none }
def archivePlaysRow : OpenClaim := { program := "ytjoiaejbahdjkaagreat", sum := "5d70d9ceeda11118cf9fdd78f208d65d38091197a370514c5f8a33e0c859b811", func := "sibyl/sibyllaw26.ArchivePlays", spec := "archivePlays", inPlace := ["maps.clone"], unfollowed := true, recurses := true, apart := false }
def ArchivePlaysSaid : Prop := archivePlaysRow.holds Tryz.pinned (OpenSpec.ofChange archivePlaysSpec)

/-- ITS FALSE NEIGHBOUR: 'it returns false'. Refute it at one input. -/
def archivePlaysWrong : ChangeSpec := { name := "archivePlays", fn := fun _ => fun
  | [d] => { results := [.lit (.bool false)], args := [d] }
  | _ => none }
def ArchivePlaysWrongFalsely : Prop := archivePlaysRow.holds Tryz.pinned (OpenSpec.ofChange archivePlaysWrong)

/- THE SECOND FORM. 'bulk': how many values and letters a reading holds, each counted each time it is reached (what is shared counts as often as it is met; a slice's spare places count too). A statement '..UptoSaid' is the law's where the arguments, and the package variables that the reading takes, are together of bulk at most 1048576: NARROWER than '..Said'. Prove '..Said' where nothing that the law and all that it calls make is longer than what came in: it says more and counts as full. Else prove '..UptoSaid'. A law counts once. -/
mutual
def uptoBulk {H : Type} : DataW H → Nat
  | .lit (.string bytes) => bytes.length + 1
  | .lit _ => 1
  | .nil => 1
  | .ptr d => uptoBulk d + 1
  | .slice elems spare => uptoBulkAll elems + uptoBulkAll spare + 1
  | .agg parts => uptoBulkAll parts + 1
  | .iface _ d => uptoBulk d + 1
  | .map entries => uptoBulkEntries entries + 1
  | .held _ => 1
def uptoBulkAll {H : Type} : List (DataW H) → Nat
  | [] => 0
  | d :: r => uptoBulk d + uptoBulkAll r
def uptoBulkEntries {H : Type} : List (Lit × DataW H) → Nat
  | [] => 0
  | x :: r => uptoBulkEntry x + uptoBulkEntries r
def uptoBulkEntry {H : Type} : Lit × DataW H → Nat
  | (.string bytes, d) => bytes.length + uptoBulk d + 1
  | (_, d) => uptoBulk d + 1
 end
def uptoSmall : (H : Type) → List (DataW H) → Bool := fun _ ds => decide (uptoBulkAll ds ≤ 1048576)
def OpenSpec.upto (s : _root_.Go.ChangeSpec) : _root_.Go.OpenSpec := { _root_.Go.OpenSpec.ofChange s with cond := some uptoSmall }

/-- 'sibyllaw26.ArchivePacks', WHERE WHAT IT READS IS OF BULK AT MOST 1048576: true; the input reads as it did. -/
def archivePacksUptoRow : OpenClaim := { program := "ytjoiaejbahdjkaagreat", sum := "5d70d9ceeda11118cf9fdd78f208d65d38091197a370514c5f8a33e0c859b811", func := "sibyl/sibyllaw26.ArchivePacks", spec := "archivePacks", inPlace := ["maps.clone"], unfollowed := true, recurses := true, apart := false, narrowed := true }
def ArchivePacksUptoSaid : Prop := archivePacksUptoRow.holds Tryz.pinned (OpenSpec.upto archivePacksSpec)

/-- 'sibyllaw26.ArchiveOpens', WHERE WHAT IT READS IS OF BULK AT MOST 1048576: true; the input reads as it did. -/
def archiveOpensUptoRow : OpenClaim := { program := "ytjoiaejbahdjkaagreat", sum := "5d70d9ceeda11118cf9fdd78f208d65d38091197a370514c5f8a33e0c859b811", func := "sibyl/sibyllaw26.ArchiveOpens", spec := "archiveOpens", unfollowed := true, recurses := true, apart := false, narrowed := true }
def ArchiveOpensUptoSaid : Prop := archiveOpensUptoRow.holds Tryz.pinned (OpenSpec.upto archiveOpensSpec)

/-- 'sibyllaw26.ArchivePlays', WHERE WHAT IT READS IS OF BULK AT MOST 1048576: true; the input reads as it did. -/
def archivePlaysUptoRow : OpenClaim := { program := "ytjoiaejbahdjkaagreat", sum := "5d70d9ceeda11118cf9fdd78f208d65d38091197a370514c5f8a33e0c859b811", func := "sibyl/sibyllaw26.ArchivePlays", spec := "archivePlays", inPlace := ["maps.clone"], unfollowed := true, recurses := true, apart := false, narrowed := true }
def ArchivePlaysUptoSaid : Prop := archivePlaysUptoRow.holds Tryz.pinned (OpenSpec.upto archivePlaysSpec)

end Rows
end Go.Proofs.YtjoiaejbahdjkaaGreat
