/-
  No cell of these rows narrows 'for every input' (looked for: loops, veiled, ifaces, maps, wideKeys, modest, calm, conditions, laid).
  DERIVED. THE GIVEN ROWS OF THIS SEAT. 6 by the template 'for every input the law returns true; each argument reads behind the call as it read before'; 0 by the template 'total and deterministic' (their statements: YtfljgkbgnfbhlaaTotals.lean).
  GIVEN WITH THE SEED: the statements are not yours to turn. If you find one false, say at which input.
  Laid BY PROGRAM, IN A SANDBOX (cutbox-rows.mjs): the forced cells as the released guide's own fill.sh prints them over the translation 4ebd261b2905a8d3… (all of the seat's roots in one cut). By AI agents, Wed Nov 11 2026. No macro, syntax, notation, axiom, sorry.
-/
import Derived.Test.YtfljgkbgnfbhlaaChecked
import GoSem.Claim
import GoSem.ClaimJoined
import GoSem.ClaimMapViews
import Derived.JoinedTies
import Derived.KernelRfl
namespace Go.Proofs.Ytfljgkbgnfbhlaa
/- THE CELL 'sum', in the pinned program and in every row, IS THE sha256 OF THE DUMP (.gsa) THAT YtfljgkbgnfbhlaaProg.lean LOADS. Nothing in Lean hashes anything: it is a label: what it is worth is what the hold of that sum in a sandbox is worth. -/
noncomputable def Try.pinned : Pinned := { name := "ytfljgkbgnfbhlaa", sum := "4ebd261b2905a8d3d30eb9c77469fed63bbde9a474940533919c1058140409da", checked := Try.checked }
namespace Rows
def none {H : Type} : Left H := { results := [], args := [] }

/-- 'shellaclaw16.LeafChildren': WHATEVER THE INPUT: true; the input reads as it did. -/
def leafChildrenSpec : ChangeSpec := { name := "leafChildren", fn := fun _ => fun
  | [d1, d2, d3] => { results := [.lit (.bool true)], args := [d1, d2, d3] }
  | _ => none }
def leafChildrenRow : OpenClaim := { program := "ytfljgkbgnfbhlaa", sum := "4ebd261b2905a8d3d30eb9c77469fed63bbde9a474940533919c1058140409da", func := "shellac/shellaclaw16.LeafChildren", spec := "leafChildren", inPlace := ["internal/abi.NoEscape"], apart := false }
def LeafChildrenSaid : Prop := leafChildrenRow.holds Try.pinned (OpenSpec.ofChange leafChildrenSpec)

/-- ITS FALSE NEIGHBOUR: 'it returns false'. Refute it at one input. -/
def leafChildrenWrong : ChangeSpec := { name := "leafChildren", fn := fun _ => fun
  | [d1, d2, d3] => { results := [.lit (.bool false)], args := [d1, d2, d3] }
  | _ => none }
def LeafChildrenWrongFalsely : Prop := leafChildrenRow.holds Try.pinned (OpenSpec.ofChange leafChildrenWrong)

/-- 'shellaclaw16.LeafMerges': WHATEVER THE INPUT: true; the input reads as it did. -/
def leafMergesSpec : ChangeSpec := { name := "leafMerges", fn := fun _ => fun
  | [d1, d2, d3] => { results := [.lit (.bool true)], args := [d1, d2, d3] }
  | _ => none }
def leafMergesRow : OpenClaim := { program := "ytfljgkbgnfbhlaa", sum := "4ebd261b2905a8d3d30eb9c77469fed63bbde9a474940533919c1058140409da", func := "shellac/shellaclaw16.LeafMerges", spec := "leafMerges", inPlace := ["internal/abi.NoEscape"], apart := false }
def LeafMergesSaid : Prop := leafMergesRow.holds Try.pinned (OpenSpec.ofChange leafMergesSpec)

/-- ITS FALSE NEIGHBOUR: 'it returns false'. Refute it at one input. -/
def leafMergesWrong : ChangeSpec := { name := "leafMerges", fn := fun _ => fun
  | [d1, d2, d3] => { results := [.lit (.bool false)], args := [d1, d2, d3] }
  | _ => none }
def LeafMergesWrongFalsely : Prop := leafMergesRow.holds Try.pinned (OpenSpec.ofChange leafMergesWrong)

/-- 'shellaclaw16.LeafHalves': WHATEVER THE INPUT: true; the input reads as it did. -/
def leafHalvesSpec : ChangeSpec := { name := "leafHalves", fn := fun _ => fun
  | [d] => { results := [.lit (.bool true)], args := [d] }
  | _ => none }
def leafHalvesRow : OpenClaim := { program := "ytfljgkbgnfbhlaa", sum := "4ebd261b2905a8d3d30eb9c77469fed63bbde9a474940533919c1058140409da", func := "shellac/shellaclaw16.LeafHalves", spec := "leafHalves", inPlace := ["internal/abi.NoEscape"], apart := false }
def LeafHalvesSaid : Prop := leafHalvesRow.holds Try.pinned (OpenSpec.ofChange leafHalvesSpec)

/-- ITS FALSE NEIGHBOUR: 'it returns false'. Refute it at one input. -/
def leafHalvesWrong : ChangeSpec := { name := "leafHalves", fn := fun _ => fun
  | [d] => { results := [.lit (.bool false)], args := [d] }
  | _ => none }
def LeafHalvesWrongFalsely : Prop := leafHalvesRow.holds Try.pinned (OpenSpec.ofChange leafHalvesWrong)

/-- 'shellaclaw16.LeafSplits': WHATEVER THE INPUT: true; the input reads as it did. -/
def leafSplitsSpec : ChangeSpec := { name := "leafSplits", fn := fun _ => fun
  | [d] => { results := [.lit (.bool true)], args := [d] }
  | _ => none }
def leafSplitsRow : OpenClaim := { program := "ytfljgkbgnfbhlaa", sum := "4ebd261b2905a8d3d30eb9c77469fed63bbde9a474940533919c1058140409da", func := "shellac/shellaclaw16.LeafSplits", spec := "leafSplits", inPlace := ["internal/abi.NoEscape"], apart := false }
def LeafSplitsSaid : Prop := leafSplitsRow.holds Try.pinned (OpenSpec.ofChange leafSplitsSpec)

/-- ITS FALSE NEIGHBOUR: 'it returns false'. Refute it at one input. -/
def leafSplitsWrong : ChangeSpec := { name := "leafSplits", fn := fun _ => fun
  | [d] => { results := [.lit (.bool false)], args := [d] }
  | _ => none }
def LeafSplitsWrongFalsely : Prop := leafSplitsRow.holds Try.pinned (OpenSpec.ofChange leafSplitsWrong)

/-- 'shellaclaw16.LeafKeeps': WHATEVER THE INPUT: true; the input reads as it did. -/
def leafKeepsSpec : ChangeSpec := { name := "leafKeeps", fn := fun _ => fun
  | [d1, d2] => { results := [.lit (.bool true)], args := [d1, d2] }
  | _ => none }
def leafKeepsRow : OpenClaim := { program := "ytfljgkbgnfbhlaa", sum := "4ebd261b2905a8d3d30eb9c77469fed63bbde9a474940533919c1058140409da", func := "shellac/shellaclaw16.LeafKeeps", spec := "leafKeeps", inPlace := ["internal/abi.NoEscape"], apart := false }
def LeafKeepsSaid : Prop := leafKeepsRow.holds Try.pinned (OpenSpec.ofChange leafKeepsSpec)

/-- ITS FALSE NEIGHBOUR: 'it returns false'. Refute it at one input. -/
def leafKeepsWrong : ChangeSpec := { name := "leafKeeps", fn := fun _ => fun
  | [d1, d2] => { results := [.lit (.bool false)], args := [d1, d2] }
  | _ => none }
def LeafKeepsWrongFalsely : Prop := leafKeepsRow.holds Try.pinned (OpenSpec.ofChange leafKeepsWrong)

/-- 'shellaclaw16.LeafShares': WHATEVER THE INPUT: true; the input reads as it did. -/
def leafSharesSpec : ChangeSpec := { name := "leafShares", fn := fun _ => fun
  | [d1, d2] => { results := [.lit (.bool true)], args := [d1, d2] }
  | _ => none }
def leafSharesRow : OpenClaim := { program := "ytfljgkbgnfbhlaa", sum := "4ebd261b2905a8d3d30eb9c77469fed63bbde9a474940533919c1058140409da", func := "shellac/shellaclaw16.LeafShares", spec := "leafShares", inPlace := ["internal/abi.NoEscape"], apart := false }
def LeafSharesSaid : Prop := leafSharesRow.holds Try.pinned (OpenSpec.ofChange leafSharesSpec)

/-- ITS FALSE NEIGHBOUR: 'it returns false'. Refute it at one input. -/
def leafSharesWrong : ChangeSpec := { name := "leafShares", fn := fun _ => fun
  | [d1, d2] => { results := [.lit (.bool false)], args := [d1, d2] }
  | _ => none }
def LeafSharesWrongFalsely : Prop := leafSharesRow.holds Try.pinned (OpenSpec.ofChange leafSharesWrong)

/- THE SECOND FORM. 'bulk': how many values and letters a reading holds, each counted each time it is reached (what is shared counts as often as it is met; a slice's spare places count too). A statement '..UptoSaid' is the law's where the arguments, and the package variables that the reading takes, are together of bulk at most 1048576: NARROWER than '..Said'. Prove '..Said' where nothing that the law and all that it calls make is longer than what came in: it says more and counts as full. Else prove '..UptoSaid'. A law counts once. -/
mutual
def uptoBulk {H : Type} : DataW H → Nat
  | .lit (.string bytes) => bytes.length + 1
  | .lit _ => 1
  | .nil => 1
  | .ptr d => uptoBulk d + 1
  | .slice elems spare => uptoBulkAll elems + uptoBulkAll spare + 1
  | .agg parts => uptoBulkAll parts + 1
  | .iface _ d => uptoBulk d + 1
  | .map entries => uptoBulkEntries entries + 1
  | .held _ => 1
def uptoBulkAll {H : Type} : List (DataW H) → Nat
  | [] => 0
  | d :: r => uptoBulk d + uptoBulkAll r
def uptoBulkEntries {H : Type} : List (Lit × DataW H) → Nat
  | [] => 0
  | x :: r => uptoBulkEntry x + uptoBulkEntries r
def uptoBulkEntry {H : Type} : Lit × DataW H → Nat
  | (.string bytes, d) => bytes.length + uptoBulk d + 1
  | (_, d) => uptoBulk d + 1
 end
def uptoSmall : (H : Type) → List (DataW H) → Bool := fun _ ds => decide (uptoBulkAll ds ≤ 1048576)
def OpenSpec.upto (s : _root_.Go.ChangeSpec) : _root_.Go.OpenSpec := { _root_.Go.OpenSpec.ofChange s with cond := some uptoSmall }

/-- 'shellaclaw16.LeafChildren', WHERE WHAT IT READS IS OF BULK AT MOST 1048576: true; the input reads as it did. -/
def leafChildrenUptoRow : OpenClaim := { program := "ytfljgkbgnfbhlaa", sum := "4ebd261b2905a8d3d30eb9c77469fed63bbde9a474940533919c1058140409da", func := "shellac/shellaclaw16.LeafChildren", spec := "leafChildren", inPlace := ["internal/abi.NoEscape"], apart := false, narrowed := true }
def LeafChildrenUptoSaid : Prop := leafChildrenUptoRow.holds Try.pinned (OpenSpec.upto leafChildrenSpec)

/-- 'shellaclaw16.LeafMerges', WHERE WHAT IT READS IS OF BULK AT MOST 1048576: true; the input reads as it did. -/
def leafMergesUptoRow : OpenClaim := { program := "ytfljgkbgnfbhlaa", sum := "4ebd261b2905a8d3d30eb9c77469fed63bbde9a474940533919c1058140409da", func := "shellac/shellaclaw16.LeafMerges", spec := "leafMerges", inPlace := ["internal/abi.NoEscape"], apart := false, narrowed := true }
def LeafMergesUptoSaid : Prop := leafMergesUptoRow.holds Try.pinned (OpenSpec.upto leafMergesSpec)

/-- 'shellaclaw16.LeafHalves', WHERE WHAT IT READS IS OF BULK AT MOST 1048576: true; the input reads as it did. -/
def leafHalvesUptoRow : OpenClaim := { program := "ytfljgkbgnfbhlaa", sum := "4ebd261b2905a8d3d30eb9c77469fed63bbde9a474940533919c1058140409da", func := "shellac/shellaclaw16.LeafHalves", spec := "leafHalves", inPlace := ["internal/abi.NoEscape"], apart := false, narrowed := true }
def LeafHalvesUptoSaid : Prop := leafHalvesUptoRow.holds Try.pinned (OpenSpec.upto leafHalvesSpec)

/-- 'shellaclaw16.LeafSplits', WHERE WHAT IT READS IS OF BULK AT MOST 1048576: true; the input reads as it did. -/
def leafSplitsUptoRow : OpenClaim := { program := "ytfljgkbgnfbhlaa", sum := "4ebd261b2905a8d3d30eb9c77469fed63bbde9a474940533919c1058140409da", func := "shellac/shellaclaw16.LeafSplits", spec := "leafSplits", inPlace := ["internal/abi.NoEscape"], apart := false, narrowed := true }
def LeafSplitsUptoSaid : Prop := leafSplitsUptoRow.holds Try.pinned (OpenSpec.upto leafSplitsSpec)

/-- 'shellaclaw16.LeafKeeps', WHERE WHAT IT READS IS OF BULK AT MOST 1048576: true; the input reads as it did. -/
def leafKeepsUptoRow : OpenClaim := { program := "ytfljgkbgnfbhlaa", sum := "4ebd261b2905a8d3d30eb9c77469fed63bbde9a474940533919c1058140409da", func := "shellac/shellaclaw16.LeafKeeps", spec := "leafKeeps", inPlace := ["internal/abi.NoEscape"], apart := false, narrowed := true }
def LeafKeepsUptoSaid : Prop := leafKeepsUptoRow.holds Try.pinned (OpenSpec.upto leafKeepsSpec)

/-- 'shellaclaw16.LeafShares', WHERE WHAT IT READS IS OF BULK AT MOST 1048576: true; the input reads as it did. -/
def leafSharesUptoRow : OpenClaim := { program := "ytfljgkbgnfbhlaa", sum := "4ebd261b2905a8d3d30eb9c77469fed63bbde9a474940533919c1058140409da", func := "shellac/shellaclaw16.LeafShares", spec := "leafShares", inPlace := ["internal/abi.NoEscape"], apart := false, narrowed := true }
def LeafSharesUptoSaid : Prop := leafSharesUptoRow.holds Try.pinned (OpenSpec.upto leafSharesSpec)

end Rows
end Go.Proofs.Ytfljgkbgnfbhlaa
