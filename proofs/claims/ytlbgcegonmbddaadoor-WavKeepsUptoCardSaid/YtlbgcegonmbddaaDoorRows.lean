/-
  NARROWER THAN 'FOR EVERY INPUT', by the rows' own cells (each row's printed sentence says how): WavFiles: laid · WavCuts: laid · WavReturns: laid · WavReads: laid · WavLimits: laid · WavJoins: laid · WavKeeps: laid.
  DERIVED. THE GIVEN ROWS OF THIS SEAT. 7 by the template 'for every input the law returns true; each argument reads behind the call as it read before'; 0 by the template 'total and deterministic' (their statements: YtlbgcegonmbddaaDoorTotals.lean).
  GIVEN WITH THE SEED: the statements are not yours to turn. If you find one false, say at which input.
  Laid BY PROGRAM, IN A SANDBOX (cutbox-rows.mjs): the forced cells as the released guide's own fill.sh prints them over the translation 2f2635b2a13ae1f4… (all of the seat's roots in one cut). By AI agents, Wed Nov 11 2026. No macro, syntax, notation, axiom, sorry.
-/
import Derived.Test.YtlbgcegonmbddaaDoorChecked
import GoSem.PinnedTables
import GoSem.Claim
import GoSem.ClaimJoined
import GoSem.ClaimMapViews
import Derived.JoinedTies
import Derived.KernelRfl
namespace Go.Proofs.YtlbgcegonmbddaaDoor
/- THE CELL 'sum', in the pinned program and in every row, IS THE sha256 OF THE DUMP (.gsa) THAT YtlbgcegonmbddaaDoorProg.lean LOADS. Nothing in Lean hashes anything: it is a label: what it is worth is what the hold of that sum in a sandbox is worth. -/
noncomputable def Tryd.pinned : Pinned := { name := "ytlbgcegonmbddaadoor", sum := "2f2635b2a13ae1f42d0a69a39ae15fa2fdc990f9c73ecbfd18f0db25a0d4166d", checked := Tryd.checked }
namespace Rows
def none {H : Type} : Left H := { results := [], args := [] }

/- WHAT THE LISTED PACKAGE-LEVEL VARIABLES READ AS WHEN THE CALL BEGINS. Each datum BY PROGRAM (the guide's laid-datum.mjs) off the statement by which the dump's own 'gosem.cut.vars' lays the variable. In a bare row this is a premise. The card (YtlbgcegonmbddaaDoorCards.lean) ties it to the program's text. -/
def laid_unicode_utf8_acceptRanges {H : Type} : DataW H := .agg [.agg [.lit (.int .u8 128), .lit (.int .u8 191)], .agg [.lit (.int .u8 160), .lit (.int .u8 191)], .agg [.lit (.int .u8 128), .lit (.int .u8 159)], .agg [.lit (.int .u8 144), .lit (.int .u8 191)], .agg [.lit (.int .u8 128), .lit (.int .u8 143)], .agg [.lit (.int .u8 0), .lit (.int .u8 0)], .agg [.lit (.int .u8 0), .lit (.int .u8 0)], .agg [.lit (.int .u8 0), .lit (.int .u8 0)], .agg [.lit (.int .u8 0), .lit (.int .u8 0)], .agg [.lit (.int .u8 0), .lit (.int .u8 0)], .agg [.lit (.int .u8 0), .lit (.int .u8 0)], .agg [.lit (.int .u8 0), .lit (.int .u8 0)], .agg [.lit (.int .u8 0), .lit (.int .u8 0)], .agg [.lit (.int .u8 0), .lit (.int .u8 0)], .agg [.lit (.int .u8 0), .lit (.int .u8 0)], .agg [.lit (.int .u8 0), .lit (.int .u8 0)]]
/-- One of Go's own tables, pinned by name: the form's constant. -/
def laid_unicode_utf8_first : DataW Unit := Go.Pinned.utf8First

/-- 'shellaclaw23.WavFiles': WHATEVER THE INPUT: true; the input reads as it did. -/
def wavFilesSpec : ChangeSpec := { name := "wavFiles", fn := fun _ => fun
  | [d] => { results := [.lit (.bool true)], args := [d] }
  | _ => none }
def wavFilesRow : OpenClaim := { program := "ytlbgcegonmbddaadoor", sum := "2f2635b2a13ae1f42d0a69a39ae15fa2fdc990f9c73ecbfd18f0db25a0d4166d", func := "shellac/shellaclaw23.WavFiles", spec := "wavFiles", inPlace := ["internal/bytealg.IndexByteString", "internal/bytealg.IndexString"], unfollowed := true, recurses := true, named := ["internal/bytealg.MaxLen", "unicode/utf8.first", "unicode/utf8.acceptRanges"], apart := false, laid := [("unicode/utf8.acceptRanges", laid_unicode_utf8_acceptRanges), ("unicode/utf8.first", laid_unicode_utf8_first)] }
def WavFilesSaid : Prop := wavFilesRow.holds Tryd.pinned (OpenSpec.ofChange wavFilesSpec)

/-- ITS FALSE NEIGHBOUR: 'it returns false'. Refute it at one input. -/
def wavFilesWrong : ChangeSpec := { name := "wavFiles", fn := fun _ => fun
  | [d] => { results := [.lit (.bool false)], args := [d] }
  | _ => none }
def WavFilesWrongFalsely : Prop := wavFilesRow.holds Tryd.pinned (OpenSpec.ofChange wavFilesWrong)

/-- 'shellaclaw23.WavCuts': WHATEVER THE INPUT: true; the input reads as it did. -/
def wavCutsSpec : ChangeSpec := { name := "wavCuts", fn := fun _ => fun
  | [d] => { results := [.lit (.bool true)], args := [d] }
  | _ => none }
def wavCutsRow : OpenClaim := { program := "ytlbgcegonmbddaadoor", sum := "2f2635b2a13ae1f42d0a69a39ae15fa2fdc990f9c73ecbfd18f0db25a0d4166d", func := "shellac/shellaclaw23.WavCuts", spec := "wavCuts", inPlace := ["internal/bytealg.IndexByteString", "internal/bytealg.IndexString"], unfollowed := true, recurses := true, named := ["internal/bytealg.MaxLen", "unicode/utf8.first", "unicode/utf8.acceptRanges"], apart := false, laid := [("unicode/utf8.acceptRanges", laid_unicode_utf8_acceptRanges), ("unicode/utf8.first", laid_unicode_utf8_first)] }
def WavCutsSaid : Prop := wavCutsRow.holds Tryd.pinned (OpenSpec.ofChange wavCutsSpec)

/-- ITS FALSE NEIGHBOUR: 'it returns false'. Refute it at one input. -/
def wavCutsWrong : ChangeSpec := { name := "wavCuts", fn := fun _ => fun
  | [d] => { results := [.lit (.bool false)], args := [d] }
  | _ => none }
def WavCutsWrongFalsely : Prop := wavCutsRow.holds Tryd.pinned (OpenSpec.ofChange wavCutsWrong)

/-- 'shellaclaw23.WavReturns': WHATEVER THE INPUT: true; the input reads as it did. -/
def wavReturnsSpec : ChangeSpec := { name := "wavReturns", fn := fun _ => fun
  | [d1, d2] => { results := [.lit (.bool true)], args := [d1, d2] }
  | _ => none }
def wavReturnsRow : OpenClaim := { program := "ytlbgcegonmbddaadoor", sum := "2f2635b2a13ae1f42d0a69a39ae15fa2fdc990f9c73ecbfd18f0db25a0d4166d", func := "shellac/shellaclaw23.WavReturns", spec := "wavReturns", inPlace := ["internal/bytealg.IndexByteString", "internal/bytealg.IndexString"], unfollowed := true, recurses := true, named := ["internal/bytealg.MaxLen", "unicode/utf8.first", "unicode/utf8.acceptRanges"], apart := false, laid := [("unicode/utf8.acceptRanges", laid_unicode_utf8_acceptRanges), ("unicode/utf8.first", laid_unicode_utf8_first)] }
def WavReturnsSaid : Prop := wavReturnsRow.holds Tryd.pinned (OpenSpec.ofChange wavReturnsSpec)

/-- ITS FALSE NEIGHBOUR: 'it returns false'. Refute it at one input. -/
def wavReturnsWrong : ChangeSpec := { name := "wavReturns", fn := fun _ => fun
  | [d1, d2] => { results := [.lit (.bool false)], args := [d1, d2] }
  | _ => none }
def WavReturnsWrongFalsely : Prop := wavReturnsRow.holds Tryd.pinned (OpenSpec.ofChange wavReturnsWrong)

/-- 'shellaclaw23.WavReads': WHATEVER THE INPUT: true; the input reads as it did. -/
def wavReadsSpec : ChangeSpec := { name := "wavReads", fn := fun _ => fun
  | [d] => { results := [.lit (.bool true)], args := [d] }
  | _ => none }
def wavReadsRow : OpenClaim := { program := "ytlbgcegonmbddaadoor", sum := "2f2635b2a13ae1f42d0a69a39ae15fa2fdc990f9c73ecbfd18f0db25a0d4166d", func := "shellac/shellaclaw23.WavReads", spec := "wavReads", inPlace := ["internal/bytealg.IndexByteString", "internal/bytealg.IndexString"], unfollowed := true, recurses := true, named := ["internal/bytealg.MaxLen", "unicode/utf8.first", "unicode/utf8.acceptRanges"], apart := false, laid := [("unicode/utf8.acceptRanges", laid_unicode_utf8_acceptRanges), ("unicode/utf8.first", laid_unicode_utf8_first)] }
def WavReadsSaid : Prop := wavReadsRow.holds Tryd.pinned (OpenSpec.ofChange wavReadsSpec)

/-- ITS FALSE NEIGHBOUR: 'it returns false'. Refute it at one input. -/
def wavReadsWrong : ChangeSpec := { name := "wavReads", fn := fun _ => fun
  | [d] => { results := [.lit (.bool false)], args := [d] }
  | _ => none }
def WavReadsWrongFalsely : Prop := wavReadsRow.holds Tryd.pinned (OpenSpec.ofChange wavReadsWrong)

/-- 'shellaclaw23.WavLimits': WHATEVER THE INPUT: true; the input reads as it did. -/
def wavLimitsSpec : ChangeSpec := { name := "wavLimits", fn := fun _ => fun
  | [d1, d2, d3] => { results := [.lit (.bool true)], args := [d1, d2, d3] }
  | _ => none }
def wavLimitsRow : OpenClaim := { program := "ytlbgcegonmbddaadoor", sum := "2f2635b2a13ae1f42d0a69a39ae15fa2fdc990f9c73ecbfd18f0db25a0d4166d", func := "shellac/shellaclaw23.WavLimits", spec := "wavLimits", inPlace := ["internal/bytealg.IndexByteString", "internal/bytealg.IndexString"], unfollowed := true, recurses := true, named := ["internal/bytealg.MaxLen", "unicode/utf8.first", "unicode/utf8.acceptRanges"], apart := false, laid := [("unicode/utf8.acceptRanges", laid_unicode_utf8_acceptRanges), ("unicode/utf8.first", laid_unicode_utf8_first)] }
def WavLimitsSaid : Prop := wavLimitsRow.holds Tryd.pinned (OpenSpec.ofChange wavLimitsSpec)

/-- ITS FALSE NEIGHBOUR: 'it returns false'. Refute it at one input. -/
def wavLimitsWrong : ChangeSpec := { name := "wavLimits", fn := fun _ => fun
  | [d1, d2, d3] => { results := [.lit (.bool false)], args := [d1, d2, d3] }
  | _ => none }
def WavLimitsWrongFalsely : Prop := wavLimitsRow.holds Tryd.pinned (OpenSpec.ofChange wavLimitsWrong)

/-- 'shellaclaw23.WavJoins': WHATEVER THE INPUT: true; the input reads as it did. -/
def wavJoinsSpec : ChangeSpec := { name := "wavJoins", fn := fun _ => fun
  | [d1, d2, d3] => { results := [.lit (.bool true)], args := [d1, d2, d3] }
  | _ => none }
def wavJoinsRow : OpenClaim := { program := "ytlbgcegonmbddaadoor", sum := "2f2635b2a13ae1f42d0a69a39ae15fa2fdc990f9c73ecbfd18f0db25a0d4166d", func := "shellac/shellaclaw23.WavJoins", spec := "wavJoins", inPlace := ["internal/bytealg.IndexByteString", "internal/bytealg.IndexString"], unfollowed := true, recurses := true, named := ["internal/bytealg.MaxLen", "unicode/utf8.first", "unicode/utf8.acceptRanges"], apart := false, laid := [("unicode/utf8.acceptRanges", laid_unicode_utf8_acceptRanges), ("unicode/utf8.first", laid_unicode_utf8_first)] }
def WavJoinsSaid : Prop := wavJoinsRow.holds Tryd.pinned (OpenSpec.ofChange wavJoinsSpec)

/-- ITS FALSE NEIGHBOUR: 'it returns false'. Refute it at one input. -/
def wavJoinsWrong : ChangeSpec := { name := "wavJoins", fn := fun _ => fun
  | [d1, d2, d3] => { results := [.lit (.bool false)], args := [d1, d2, d3] }
  | _ => none }
def WavJoinsWrongFalsely : Prop := wavJoinsRow.holds Tryd.pinned (OpenSpec.ofChange wavJoinsWrong)

/-- 'shellaclaw23.WavKeeps': WHATEVER THE INPUT: true; the input reads as it did. -/
def wavKeepsSpec : ChangeSpec := { name := "wavKeeps", fn := fun _ => fun
  | [d] => { results := [.lit (.bool true)], args := [d] }
  | _ => none }
def wavKeepsRow : OpenClaim := { program := "ytlbgcegonmbddaadoor", sum := "2f2635b2a13ae1f42d0a69a39ae15fa2fdc990f9c73ecbfd18f0db25a0d4166d", func := "shellac/shellaclaw23.WavKeeps", spec := "wavKeeps", inPlace := ["internal/bytealg.IndexByteString", "internal/bytealg.IndexString"], unfollowed := true, recurses := true, named := ["internal/bytealg.MaxLen", "unicode/utf8.first", "unicode/utf8.acceptRanges"], apart := false, laid := [("unicode/utf8.acceptRanges", laid_unicode_utf8_acceptRanges), ("unicode/utf8.first", laid_unicode_utf8_first)] }
def WavKeepsSaid : Prop := wavKeepsRow.holds Tryd.pinned (OpenSpec.ofChange wavKeepsSpec)

/-- ITS FALSE NEIGHBOUR: 'it returns false'. Refute it at one input. -/
def wavKeepsWrong : ChangeSpec := { name := "wavKeeps", fn := fun _ => fun
  | [d] => { results := [.lit (.bool false)], args := [d] }
  | _ => none }
def WavKeepsWrongFalsely : Prop := wavKeepsRow.holds Tryd.pinned (OpenSpec.ofChange wavKeepsWrong)

/- THE SECOND FORM. 'bulk': how many values and letters a reading holds, each counted each time it is reached (what is shared counts as often as it is met; a slice's spare places count too). A statement '..UptoSaid' is the law's where the arguments, and the package variables that the reading takes, are together of bulk at most 1048576: NARROWER than '..Said'. Prove '..Said' where nothing that the law and all that it calls make is longer than what came in: it says more and counts as full. Else prove '..UptoSaid'. A law counts once. -/
mutual
def uptoBulk {H : Type} : DataW H → Nat
  | .lit (.string bytes) => bytes.length + 1
  | .lit _ => 1
  | .nil => 1
  | .ptr d => uptoBulk d + 1
  | .slice elems spare => uptoBulkAll elems + uptoBulkAll spare + 1
  | .agg parts => uptoBulkAll parts + 1
  | .iface _ d => uptoBulk d + 1
  | .map entries => uptoBulkEntries entries + 1
  | .held _ => 1
def uptoBulkAll {H : Type} : List (DataW H) → Nat
  | [] => 0
  | d :: r => uptoBulk d + uptoBulkAll r
def uptoBulkEntries {H : Type} : List (Lit × DataW H) → Nat
  | [] => 0
  | x :: r => uptoBulkEntry x + uptoBulkEntries r
def uptoBulkEntry {H : Type} : Lit × DataW H → Nat
  | (.string bytes, d) => bytes.length + uptoBulk d + 1
  | (_, d) => uptoBulk d + 1
 end
def uptoSmall : (H : Type) → List (DataW H) → Bool := fun _ ds => decide (uptoBulkAll ds ≤ 1048576)
def OpenSpec.upto (s : _root_.Go.ChangeSpec) : _root_.Go.OpenSpec := { _root_.Go.OpenSpec.ofChange s with cond := some uptoSmall }

/-- 'shellaclaw23.WavFiles', WHERE WHAT IT READS IS OF BULK AT MOST 1048576: true; the input reads as it did. -/
def wavFilesUptoRow : OpenClaim := { program := "ytlbgcegonmbddaadoor", sum := "2f2635b2a13ae1f42d0a69a39ae15fa2fdc990f9c73ecbfd18f0db25a0d4166d", func := "shellac/shellaclaw23.WavFiles", spec := "wavFiles", inPlace := ["internal/bytealg.IndexByteString", "internal/bytealg.IndexString"], unfollowed := true, recurses := true, named := ["internal/bytealg.MaxLen", "unicode/utf8.first", "unicode/utf8.acceptRanges"], apart := false, laid := [("unicode/utf8.acceptRanges", laid_unicode_utf8_acceptRanges), ("unicode/utf8.first", laid_unicode_utf8_first)], narrowed := true }
def WavFilesUptoSaid : Prop := wavFilesUptoRow.holds Tryd.pinned (OpenSpec.upto wavFilesSpec)

/-- 'shellaclaw23.WavCuts', WHERE WHAT IT READS IS OF BULK AT MOST 1048576: true; the input reads as it did. -/
def wavCutsUptoRow : OpenClaim := { program := "ytlbgcegonmbddaadoor", sum := "2f2635b2a13ae1f42d0a69a39ae15fa2fdc990f9c73ecbfd18f0db25a0d4166d", func := "shellac/shellaclaw23.WavCuts", spec := "wavCuts", inPlace := ["internal/bytealg.IndexByteString", "internal/bytealg.IndexString"], unfollowed := true, recurses := true, named := ["internal/bytealg.MaxLen", "unicode/utf8.first", "unicode/utf8.acceptRanges"], apart := false, laid := [("unicode/utf8.acceptRanges", laid_unicode_utf8_acceptRanges), ("unicode/utf8.first", laid_unicode_utf8_first)], narrowed := true }
def WavCutsUptoSaid : Prop := wavCutsUptoRow.holds Tryd.pinned (OpenSpec.upto wavCutsSpec)

/-- 'shellaclaw23.WavReturns', WHERE WHAT IT READS IS OF BULK AT MOST 1048576: true; the input reads as it did. -/
def wavReturnsUptoRow : OpenClaim := { program := "ytlbgcegonmbddaadoor", sum := "2f2635b2a13ae1f42d0a69a39ae15fa2fdc990f9c73ecbfd18f0db25a0d4166d", func := "shellac/shellaclaw23.WavReturns", spec := "wavReturns", inPlace := ["internal/bytealg.IndexByteString", "internal/bytealg.IndexString"], unfollowed := true, recurses := true, named := ["internal/bytealg.MaxLen", "unicode/utf8.first", "unicode/utf8.acceptRanges"], apart := false, laid := [("unicode/utf8.acceptRanges", laid_unicode_utf8_acceptRanges), ("unicode/utf8.first", laid_unicode_utf8_first)], narrowed := true }
def WavReturnsUptoSaid : Prop := wavReturnsUptoRow.holds Tryd.pinned (OpenSpec.upto wavReturnsSpec)

/-- 'shellaclaw23.WavReads', WHERE WHAT IT READS IS OF BULK AT MOST 1048576: true; the input reads as it did. -/
def wavReadsUptoRow : OpenClaim := { program := "ytlbgcegonmbddaadoor", sum := "2f2635b2a13ae1f42d0a69a39ae15fa2fdc990f9c73ecbfd18f0db25a0d4166d", func := "shellac/shellaclaw23.WavReads", spec := "wavReads", inPlace := ["internal/bytealg.IndexByteString", "internal/bytealg.IndexString"], unfollowed := true, recurses := true, named := ["internal/bytealg.MaxLen", "unicode/utf8.first", "unicode/utf8.acceptRanges"], apart := false, laid := [("unicode/utf8.acceptRanges", laid_unicode_utf8_acceptRanges), ("unicode/utf8.first", laid_unicode_utf8_first)], narrowed := true }
def WavReadsUptoSaid : Prop := wavReadsUptoRow.holds Tryd.pinned (OpenSpec.upto wavReadsSpec)

/-- 'shellaclaw23.WavLimits', WHERE WHAT IT READS IS OF BULK AT MOST 1048576: true; the input reads as it did. -/
def wavLimitsUptoRow : OpenClaim := { program := "ytlbgcegonmbddaadoor", sum := "2f2635b2a13ae1f42d0a69a39ae15fa2fdc990f9c73ecbfd18f0db25a0d4166d", func := "shellac/shellaclaw23.WavLimits", spec := "wavLimits", inPlace := ["internal/bytealg.IndexByteString", "internal/bytealg.IndexString"], unfollowed := true, recurses := true, named := ["internal/bytealg.MaxLen", "unicode/utf8.first", "unicode/utf8.acceptRanges"], apart := false, laid := [("unicode/utf8.acceptRanges", laid_unicode_utf8_acceptRanges), ("unicode/utf8.first", laid_unicode_utf8_first)], narrowed := true }
def WavLimitsUptoSaid : Prop := wavLimitsUptoRow.holds Tryd.pinned (OpenSpec.upto wavLimitsSpec)

/-- 'shellaclaw23.WavJoins', WHERE WHAT IT READS IS OF BULK AT MOST 1048576: true; the input reads as it did. -/
def wavJoinsUptoRow : OpenClaim := { program := "ytlbgcegonmbddaadoor", sum := "2f2635b2a13ae1f42d0a69a39ae15fa2fdc990f9c73ecbfd18f0db25a0d4166d", func := "shellac/shellaclaw23.WavJoins", spec := "wavJoins", inPlace := ["internal/bytealg.IndexByteString", "internal/bytealg.IndexString"], unfollowed := true, recurses := true, named := ["internal/bytealg.MaxLen", "unicode/utf8.first", "unicode/utf8.acceptRanges"], apart := false, laid := [("unicode/utf8.acceptRanges", laid_unicode_utf8_acceptRanges), ("unicode/utf8.first", laid_unicode_utf8_first)], narrowed := true }
def WavJoinsUptoSaid : Prop := wavJoinsUptoRow.holds Tryd.pinned (OpenSpec.upto wavJoinsSpec)

/-- 'shellaclaw23.WavKeeps', WHERE WHAT IT READS IS OF BULK AT MOST 1048576: true; the input reads as it did. -/
def wavKeepsUptoRow : OpenClaim := { program := "ytlbgcegonmbddaadoor", sum := "2f2635b2a13ae1f42d0a69a39ae15fa2fdc990f9c73ecbfd18f0db25a0d4166d", func := "shellac/shellaclaw23.WavKeeps", spec := "wavKeeps", inPlace := ["internal/bytealg.IndexByteString", "internal/bytealg.IndexString"], unfollowed := true, recurses := true, named := ["internal/bytealg.MaxLen", "unicode/utf8.first", "unicode/utf8.acceptRanges"], apart := false, laid := [("unicode/utf8.acceptRanges", laid_unicode_utf8_acceptRanges), ("unicode/utf8.first", laid_unicode_utf8_first)], narrowed := true }
def WavKeepsUptoSaid : Prop := wavKeepsUptoRow.holds Tryd.pinned (OpenSpec.upto wavKeepsSpec)

end Rows
end Go.Proofs.YtlbgcegonmbddaaDoor
