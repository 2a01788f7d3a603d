/-
  DERIVED. GIVEN WITH THE SEED: THE CARDS: each row of YtfljgkbgnfbhlaaDoorRows.lean that lists a variable, with what it lists TIED to the program's text (the seventh form; the later family's looks); each row that meets fmt, with fmt's text TOLD by the authors' own Lean function (tested against real Go, not proved from fmt's source: count such statements apart). THE CARD IS WHAT COUNTS. Prove the row's statement (the work); the ties are given (YtfljgkbgnfbhlaaDoorTie.lean); close each card by the builder's one call (the guide's Derived/Test/ToyasCard.lean, 'card_holds'). Laid BY PROGRAM, IN A SANDBOX (cutbox-door.mjs). By AI agents, Wed Nov 11 2026. No macro, syntax, notation, axiom, sorry.
-/
import Derived.Test.YtfljgkbgnfbhlaaDoorRows
import GoSem.ClaimSeven
namespace Go.Proofs.YtfljgkbgnfbhlaaDoor
namespace Rows

/-- THE TIED CARD OF 'shellaclaw16.LeafPages'. -/
def leafPagesCard : Claim7 := { stood := { row := leafPagesRow, standIns := [], harness := (true, "430af4998bb7f186016dc8dd0a5d7536fa508adc01bc74ce24892b029959c4a6"), looks := false }, kinds := [], alts := [], laidByText := true, laidKinds := [.data, .pinned], laidTests := true, laidLooks := .later }
def LeafPagesCardSaid : Prop := Claim7.holds Tryd.pinned (.plain (OpenSpec.ofChange leafPagesSpec)) leafPagesCard

/-- THE TIED CARD OF 'shellaclaw16.LeafReturns'. -/
def leafReturnsCard : Claim7 := { stood := { row := leafReturnsRow, standIns := [], harness := (true, "430af4998bb7f186016dc8dd0a5d7536fa508adc01bc74ce24892b029959c4a6"), looks := false }, kinds := [], alts := [], laidByText := true, laidKinds := [.data, .pinned], laidTests := true, laidLooks := .later }
def LeafReturnsCardSaid : Prop := Claim7.holds Tryd.pinned (.plain (OpenSpec.ofChange leafReturnsSpec)) leafReturnsCard

/-- THE SECOND FORM's CARD OF 'shellaclaw16.LeafPages'. -/
def leafPagesUptoCard : Claim7 := { stood := { row := leafPagesUptoRow, standIns := [], harness := (true, "430af4998bb7f186016dc8dd0a5d7536fa508adc01bc74ce24892b029959c4a6"), looks := false }, kinds := [], alts := [], laidByText := true, laidKinds := [.data, .pinned], laidTests := true, laidLooks := .later }
def LeafPagesUptoCardSaid : Prop := Claim7.holds Tryd.pinned (.plain (OpenSpec.upto leafPagesSpec)) leafPagesUptoCard

/-- THE SECOND FORM's CARD OF 'shellaclaw16.LeafReturns'. -/
def leafReturnsUptoCard : Claim7 := { stood := { row := leafReturnsUptoRow, standIns := [], harness := (true, "430af4998bb7f186016dc8dd0a5d7536fa508adc01bc74ce24892b029959c4a6"), looks := false }, kinds := [], alts := [], laidByText := true, laidKinds := [.data, .pinned], laidTests := true, laidLooks := .later }
def LeafReturnsUptoCardSaid : Prop := Claim7.holds Tryd.pinned (.plain (OpenSpec.upto leafReturnsSpec)) leafReturnsUptoCard
end Rows
end Go.Proofs.YtfljgkbgnfbhlaaDoor
