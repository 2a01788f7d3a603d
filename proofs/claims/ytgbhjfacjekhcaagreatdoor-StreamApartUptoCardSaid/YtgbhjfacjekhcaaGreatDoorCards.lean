/-
  DERIVED. GIVEN WITH THE SEED: THE CARDS: each row of YtgbhjfacjekhcaaGreatDoorRows.lean that lists a variable, with what it lists TIED to the program's text (the seventh form; the later family's looks); each row that meets fmt, with fmt's text TOLD by the authors' own Lean function (tested against real Go, not proved from fmt's source: count such statements apart). THE CARD IS WHAT COUNTS. Prove the row's statement (the work); the ties are given (YtgbhjfacjekhcaaGreatDoorTie.lean); close each card by the builder's one call (the guide's Derived/Test/ToyasCard.lean, 'card_holds'). Laid BY PROGRAM, IN A SANDBOX (cutbox-door.mjs). By AI agents, Wed Nov 11 2026. No macro, syntax, notation, axiom, sorry.
-/
import Derived.Test.YtgbhjfacjekhcaaGreatDoorRows
import GoSem.ClaimSeven
namespace Go.Proofs.YtgbhjfacjekhcaaGreatDoor
namespace Rows

/-- THE TIED CARD OF 'shellaclaw11.StreamChecks'. -/
def streamChecksCard : Claim7 := { stood := { row := streamChecksRow, standIns := [], harness := (true, "772c7ef801ec409e47f79481ded3681e294a4f4756d962a564be5949dabb35c8"), looks := false }, kinds := [], alts := [], laidByText := true, laidKinds := [.data, .data, .pinned], laidTests := true, laidLooks := .later }
def StreamChecksCardSaid : Prop := Claim7.holds Tryz.pinned (.plain (OpenSpec.ofChange streamChecksSpec)) streamChecksCard

/-- THE TIED CARD OF 'shellaclaw11.StreamExports'. -/
def streamExportsCard : Claim7 := { stood := { row := streamExportsRow, standIns := [], harness := (true, "772c7ef801ec409e47f79481ded3681e294a4f4756d962a564be5949dabb35c8"), looks := false }, kinds := [], alts := [], laidByText := true, laidKinds := [.data, .data, .pinned], laidTests := true, laidLooks := .later }
def StreamExportsCardSaid : Prop := Claim7.holds Tryz.pinned (.plain (OpenSpec.ofChange streamExportsSpec)) streamExportsCard

/-- THE TIED CARD OF 'shellaclaw11.StreamImports'. -/
def streamImportsCard : Claim7 := { stood := { row := streamImportsRow, standIns := [], harness := (true, "772c7ef801ec409e47f79481ded3681e294a4f4756d962a564be5949dabb35c8"), looks := false }, kinds := [], alts := [], laidByText := true, laidKinds := [.data, .data, .pinned], laidTests := true, laidLooks := .later }
def StreamImportsCardSaid : Prop := Claim7.holds Tryz.pinned (.plain (OpenSpec.ofChange streamImportsSpec)) streamImportsCard

/-- THE TIED CARD OF 'shellaclaw11.StreamBack'. -/
def streamBackCard : Claim7 := { stood := { row := streamBackRow, standIns := [], harness := (true, "772c7ef801ec409e47f79481ded3681e294a4f4756d962a564be5949dabb35c8"), looks := false }, kinds := [], alts := [], laidByText := true, laidKinds := [.data, .data, .pinned], laidTests := true, laidLooks := .later }
def StreamBackCardSaid : Prop := Claim7.holds Tryz.pinned (.plain (OpenSpec.ofChange streamBackSpec)) streamBackCard

/-- THE TIED CARD OF 'shellaclaw11.StreamCuts'. -/
def streamCutsCard : Claim7 := { stood := { row := streamCutsRow, standIns := [], harness := (true, "772c7ef801ec409e47f79481ded3681e294a4f4756d962a564be5949dabb35c8"), looks := false }, kinds := [], alts := [], laidByText := true, laidKinds := [.data, .data, .pinned], laidTests := true, laidLooks := .later }
def StreamCutsCardSaid : Prop := Claim7.holds Tryz.pinned (.plain (OpenSpec.ofChange streamCutsSpec)) streamCutsCard

/-- THE TIED CARD OF 'shellaclaw11.StreamApart'. -/
def streamApartCard : Claim7 := { stood := { row := streamApartRow, standIns := [], harness := (true, "772c7ef801ec409e47f79481ded3681e294a4f4756d962a564be5949dabb35c8"), looks := false }, kinds := [], alts := [], laidByText := true, laidKinds := [.data, .data, .pinned], laidTests := true, laidLooks := .later }
def StreamApartCardSaid : Prop := Claim7.holds Tryz.pinned (.plain (OpenSpec.ofChange streamApartSpec)) streamApartCard

/-- THE TIED CARD OF 'shellaclaw11.StreamTable'. -/
def streamTableCard : Claim7 := { stood := { row := streamTableRow, standIns := [], harness := (true, "772c7ef801ec409e47f79481ded3681e294a4f4756d962a564be5949dabb35c8"), looks := false }, kinds := [], alts := [], laidByText := true, laidKinds := [.data, .data, .pinned], laidTests := true, laidLooks := .later }
def StreamTableCardSaid : Prop := Claim7.holds Tryz.pinned (.plain (OpenSpec.ofChange streamTableSpec)) streamTableCard

/-- THE SECOND FORM's CARD OF 'shellaclaw11.StreamChecks'. -/
def streamChecksUptoCard : Claim7 := { stood := { row := streamChecksUptoRow, standIns := [], harness := (true, "772c7ef801ec409e47f79481ded3681e294a4f4756d962a564be5949dabb35c8"), looks := false }, kinds := [], alts := [], laidByText := true, laidKinds := [.data, .data, .pinned], laidTests := true, laidLooks := .later }
def StreamChecksUptoCardSaid : Prop := Claim7.holds Tryz.pinned (.plain (OpenSpec.upto streamChecksSpec)) streamChecksUptoCard

/-- THE SECOND FORM's CARD OF 'shellaclaw11.StreamExports'. -/
def streamExportsUptoCard : Claim7 := { stood := { row := streamExportsUptoRow, standIns := [], harness := (true, "772c7ef801ec409e47f79481ded3681e294a4f4756d962a564be5949dabb35c8"), looks := false }, kinds := [], alts := [], laidByText := true, laidKinds := [.data, .data, .pinned], laidTests := true, laidLooks := .later }
def StreamExportsUptoCardSaid : Prop := Claim7.holds Tryz.pinned (.plain (OpenSpec.upto streamExportsSpec)) streamExportsUptoCard

/-- THE SECOND FORM's CARD OF 'shellaclaw11.StreamImports'. -/
def streamImportsUptoCard : Claim7 := { stood := { row := streamImportsUptoRow, standIns := [], harness := (true, "772c7ef801ec409e47f79481ded3681e294a4f4756d962a564be5949dabb35c8"), looks := false }, kinds := [], alts := [], laidByText := true, laidKinds := [.data, .data, .pinned], laidTests := true, laidLooks := .later }
def StreamImportsUptoCardSaid : Prop := Claim7.holds Tryz.pinned (.plain (OpenSpec.upto streamImportsSpec)) streamImportsUptoCard

/-- THE SECOND FORM's CARD OF 'shellaclaw11.StreamBack'. -/
def streamBackUptoCard : Claim7 := { stood := { row := streamBackUptoRow, standIns := [], harness := (true, "772c7ef801ec409e47f79481ded3681e294a4f4756d962a564be5949dabb35c8"), looks := false }, kinds := [], alts := [], laidByText := true, laidKinds := [.data, .data, .pinned], laidTests := true, laidLooks := .later }
def StreamBackUptoCardSaid : Prop := Claim7.holds Tryz.pinned (.plain (OpenSpec.upto streamBackSpec)) streamBackUptoCard

/-- THE SECOND FORM's CARD OF 'shellaclaw11.StreamCuts'. -/
def streamCutsUptoCard : Claim7 := { stood := { row := streamCutsUptoRow, standIns := [], harness := (true, "772c7ef801ec409e47f79481ded3681e294a4f4756d962a564be5949dabb35c8"), looks := false }, kinds := [], alts := [], laidByText := true, laidKinds := [.data, .data, .pinned], laidTests := true, laidLooks := .later }
def StreamCutsUptoCardSaid : Prop := Claim7.holds Tryz.pinned (.plain (OpenSpec.upto streamCutsSpec)) streamCutsUptoCard

/-- THE SECOND FORM's CARD OF 'shellaclaw11.StreamApart'. -/
def streamApartUptoCard : Claim7 := { stood := { row := streamApartUptoRow, standIns := [], harness := (true, "772c7ef801ec409e47f79481ded3681e294a4f4756d962a564be5949dabb35c8"), looks := false }, kinds := [], alts := [], laidByText := true, laidKinds := [.data, .data, .pinned], laidTests := true, laidLooks := .later }
def StreamApartUptoCardSaid : Prop := Claim7.holds Tryz.pinned (.plain (OpenSpec.upto streamApartSpec)) streamApartUptoCard

/-- THE SECOND FORM's CARD OF 'shellaclaw11.StreamTable'. -/
def streamTableUptoCard : Claim7 := { stood := { row := streamTableUptoRow, standIns := [], harness := (true, "772c7ef801ec409e47f79481ded3681e294a4f4756d962a564be5949dabb35c8"), looks := false }, kinds := [], alts := [], laidByText := true, laidKinds := [.data, .data, .pinned], laidTests := true, laidLooks := .later }
def StreamTableUptoCardSaid : Prop := Claim7.holds Tryz.pinned (.plain (OpenSpec.upto streamTableSpec)) streamTableUptoCard
end Rows
end Go.Proofs.YtgbhjfacjekhcaaGreatDoor
