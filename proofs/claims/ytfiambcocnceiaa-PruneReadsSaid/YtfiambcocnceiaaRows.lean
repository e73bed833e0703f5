/-
  No cell of these rows narrows 'for every input' (looked for: loops, veiled, ifaces, maps, wideKeys, modest, calm, conditions, laid).
  DERIVED. THE GIVEN ROWS OF THIS SEAT. 2 by the template 'for every input the law returns true; each argument reads behind the call as it read before'; 0 by the template 'total and deterministic' (their statements: YtfiambcocnceiaaTotals.lean).
  GIVEN WITH THE SEED: the statements are not yours to turn. If you find one false, say at which input.
  Laid BY PROGRAM, IN A SANDBOX (cutbox-rows.mjs): the forced cells as the released guide's own fill.sh prints them over the translation 0137336564ad36c0… (all of the seat's roots in one cut). By AI agents, Wed Nov 11 2026. No macro, syntax, notation, axiom, sorry.
-/
import Derived.Test.YtfiambcocnceiaaChecked
import GoSem.Claim
import GoSem.ClaimJoined
import GoSem.ClaimMapViews
import Derived.JoinedTies
import Derived.KernelRfl
namespace Go.Proofs.Ytfiambcocnceiaa
/- THE CELL 'sum', in the pinned program and in every row, IS THE sha256 OF THE DUMP (.gsa) THAT YtfiambcocnceiaaProg.lean LOADS. Nothing in Lean hashes anything: it is a label: what it is worth is what the hold of that sum in a sandbox is worth. -/
noncomputable def Try.pinned : Pinned := { name := "ytfiambcocnceiaa", sum := "0137336564ad36c0f78e4a534a4cf6f4c5933d62faa6f104303ac87afa6736c4", checked := Try.checked }
namespace Rows
def none {H : Type} : Left H := { results := [], args := [] }

/-- 'affidavitlaw24.PruneDoes': WHATEVER THE INPUT: true; the input reads as it did. -/
def pruneDoesSpec : ChangeSpec := { name := "pruneDoes", fn := fun _ => fun
  | [d] => { results := [.lit (.bool true)], args := [d] }
  | _ => none }
def pruneDoesRow : OpenClaim := { program := "ytfiambcocnceiaa", sum := "0137336564ad36c0f78e4a534a4cf6f4c5933d62faa6f104303ac87afa6736c4", func := "affidavit/affidavitlaw24.PruneDoes", spec := "pruneDoes", unfollowed := true, recurses := true, apart := false }
def PruneDoesSaid : Prop := pruneDoesRow.holds Try.pinned (OpenSpec.ofChange pruneDoesSpec)

/-- ITS FALSE NEIGHBOUR: 'it returns false'. Refute it at one input. -/
def pruneDoesWrong : ChangeSpec := { name := "pruneDoes", fn := fun _ => fun
  | [d] => { results := [.lit (.bool false)], args := [d] }
  | _ => none }
def PruneDoesWrongFalsely : Prop := pruneDoesRow.holds Try.pinned (OpenSpec.ofChange pruneDoesWrong)

/-- 'affidavitlaw24.PruneReads': WHATEVER THE INPUT: true; the input reads as it did. -/
def pruneReadsSpec : ChangeSpec := { name := "pruneReads", fn := fun _ => fun
  | [d] => { results := [.lit (.bool true)], args := [d] }
  | _ => none }
def pruneReadsRow : OpenClaim := { program := "ytfiambcocnceiaa", sum := "0137336564ad36c0f78e4a534a4cf6f4c5933d62faa6f104303ac87afa6736c4", func := "affidavit/affidavitlaw24.PruneReads", spec := "pruneReads", unfollowed := true, recurses := true, apart := false }
def PruneReadsSaid : Prop := pruneReadsRow.holds Try.pinned (OpenSpec.ofChange pruneReadsSpec)

/-- ITS FALSE NEIGHBOUR: 'it returns false'. Refute it at one input. -/
def pruneReadsWrong : ChangeSpec := { name := "pruneReads", fn := fun _ => fun
  | [d] => { results := [.lit (.bool false)], args := [d] }
  | _ => none }
def PruneReadsWrongFalsely : Prop := pruneReadsRow.holds Try.pinned (OpenSpec.ofChange pruneReadsWrong)

/- THE SECOND FORM. 'bulk': how many values and letters a reading holds, each counted each time it is reached (what is shared counts as often as it is met; a slice's spare places count too). A statement '..UptoSaid' is the law's where the arguments, and the package variables that the reading takes, are together of bulk at most 1048576: NARROWER than '..Said'. Prove '..Said' where nothing that the law and all that it calls make is longer than what came in: it says more and counts as full. Else prove '..UptoSaid'. A law counts once. -/
mutual
def uptoBulk {H : Type} : DataW H → Nat
  | .lit (.string bytes) => bytes.length + 1
  | .lit _ => 1
  | .nil => 1
  | .ptr d => uptoBulk d + 1
  | .slice elems spare => uptoBulkAll elems + uptoBulkAll spare + 1
  | .agg parts => uptoBulkAll parts + 1
  | .iface _ d => uptoBulk d + 1
  | .map entries => uptoBulkEntries entries + 1
  | .held _ => 1
def uptoBulkAll {H : Type} : List (DataW H) → Nat
  | [] => 0
  | d :: r => uptoBulk d + uptoBulkAll r
def uptoBulkEntries {H : Type} : List (Lit × DataW H) → Nat
  | [] => 0
  | x :: r => uptoBulkEntry x + uptoBulkEntries r
def uptoBulkEntry {H : Type} : Lit × DataW H → Nat
  | (.string bytes, d) => bytes.length + uptoBulk d + 1
  | (_, d) => uptoBulk d + 1
 end
def uptoSmall : (H : Type) → List (DataW H) → Bool := fun _ ds => decide (uptoBulkAll ds ≤ 1048576)
def OpenSpec.upto (s : _root_.Go.ChangeSpec) : _root_.Go.OpenSpec := { _root_.Go.OpenSpec.ofChange s with cond := some uptoSmall }

/-- 'affidavitlaw24.PruneDoes', WHERE WHAT IT READS IS OF BULK AT MOST 1048576: true; the input reads as it did. -/
def pruneDoesUptoRow : OpenClaim := { program := "ytfiambcocnceiaa", sum := "0137336564ad36c0f78e4a534a4cf6f4c5933d62faa6f104303ac87afa6736c4", func := "affidavit/affidavitlaw24.PruneDoes", spec := "pruneDoes", unfollowed := true, recurses := true, apart := false, narrowed := true }
def PruneDoesUptoSaid : Prop := pruneDoesUptoRow.holds Try.pinned (OpenSpec.upto pruneDoesSpec)

/-- 'affidavitlaw24.PruneReads', WHERE WHAT IT READS IS OF BULK AT MOST 1048576: true; the input reads as it did. -/
def pruneReadsUptoRow : OpenClaim := { program := "ytfiambcocnceiaa", sum := "0137336564ad36c0f78e4a534a4cf6f4c5933d62faa6f104303ac87afa6736c4", func := "affidavit/affidavitlaw24.PruneReads", spec := "pruneReads", unfollowed := true, recurses := true, apart := false, narrowed := true }
def PruneReadsUptoSaid : Prop := pruneReadsUptoRow.holds Try.pinned (OpenSpec.upto pruneReadsSpec)

end Rows
end Go.Proofs.Ytfiambcocnceiaa
