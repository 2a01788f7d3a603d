/-
  DERIVED. GIVEN WITH THE SEED: THE CARDS: each row of YtlbgcegonmbddaaDoorRows.lean that lists a variable, with what it lists TIED to the program's text (the seventh form; the later family's looks); each row that meets fmt, with fmt's text TOLD by the authors' own Lean function (tested against real Go, not proved from fmt's source: count such statements apart). THE CARD IS WHAT COUNTS. Prove the row's statement (the work); the ties are given (YtlbgcegonmbddaaDoorTie.lean); close each card by the builder's one call (the guide's Derived/Test/ToyasCard.lean, 'card_holds'). Laid BY PROGRAM, IN A SANDBOX (cutbox-door.mjs). By AI agents, Wed Nov 11 2026. No macro, syntax, notation, axiom, sorry.
-/
import Derived.Test.YtlbgcegonmbddaaDoorRows
import GoSem.ClaimSeven
namespace Go.Proofs.YtlbgcegonmbddaaDoor
namespace Rows

/-- THE TIED CARD OF 'shellaclaw23.WavFiles'. -/
def wavFilesCard : Claim7 := { stood := { row := wavFilesRow, standIns := [], harness := (true, "02cd107c05e2a21820e861525b1450db48983b7f8ee6930911263145cf1c9544"), looks := false }, kinds := [], alts := [], laidByText := true, laidKinds := [.data, .pinned], laidTests := true, laidLooks := .later }
def WavFilesCardSaid : Prop := Claim7.holds Tryd.pinned (.plain (OpenSpec.ofChange wavFilesSpec)) wavFilesCard

/-- THE TIED CARD OF 'shellaclaw23.WavCuts'. -/
def wavCutsCard : Claim7 := { stood := { row := wavCutsRow, standIns := [], harness := (true, "02cd107c05e2a21820e861525b1450db48983b7f8ee6930911263145cf1c9544"), looks := false }, kinds := [], alts := [], laidByText := true, laidKinds := [.data, .pinned], laidTests := true, laidLooks := .later }
def WavCutsCardSaid : Prop := Claim7.holds Tryd.pinned (.plain (OpenSpec.ofChange wavCutsSpec)) wavCutsCard

/-- THE TIED CARD OF 'shellaclaw23.WavReturns'. -/
def wavReturnsCard : Claim7 := { stood := { row := wavReturnsRow, standIns := [], harness := (true, "02cd107c05e2a21820e861525b1450db48983b7f8ee6930911263145cf1c9544"), looks := false }, kinds := [], alts := [], laidByText := true, laidKinds := [.data, .pinned], laidTests := true, laidLooks := .later }
def WavReturnsCardSaid : Prop := Claim7.holds Tryd.pinned (.plain (OpenSpec.ofChange wavReturnsSpec)) wavReturnsCard

/-- THE TIED CARD OF 'shellaclaw23.WavReads'. -/
def wavReadsCard : Claim7 := { stood := { row := wavReadsRow, standIns := [], harness := (true, "02cd107c05e2a21820e861525b1450db48983b7f8ee6930911263145cf1c9544"), looks := false }, kinds := [], alts := [], laidByText := true, laidKinds := [.data, .pinned], laidTests := true, laidLooks := .later }
def WavReadsCardSaid : Prop := Claim7.holds Tryd.pinned (.plain (OpenSpec.ofChange wavReadsSpec)) wavReadsCard

/-- THE TIED CARD OF 'shellaclaw23.WavLimits'. -/
def wavLimitsCard : Claim7 := { stood := { row := wavLimitsRow, standIns := [], harness := (true, "02cd107c05e2a21820e861525b1450db48983b7f8ee6930911263145cf1c9544"), looks := false }, kinds := [], alts := [], laidByText := true, laidKinds := [.data, .pinned], laidTests := true, laidLooks := .later }
def WavLimitsCardSaid : Prop := Claim7.holds Tryd.pinned (.plain (OpenSpec.ofChange wavLimitsSpec)) wavLimitsCard

/-- THE TIED CARD OF 'shellaclaw23.WavJoins'. -/
def wavJoinsCard : Claim7 := { stood := { row := wavJoinsRow, standIns := [], harness := (true, "02cd107c05e2a21820e861525b1450db48983b7f8ee6930911263145cf1c9544"), looks := false }, kinds := [], alts := [], laidByText := true, laidKinds := [.data, .pinned], laidTests := true, laidLooks := .later }
def WavJoinsCardSaid : Prop := Claim7.holds Tryd.pinned (.plain (OpenSpec.ofChange wavJoinsSpec)) wavJoinsCard

/-- THE TIED CARD OF 'shellaclaw23.WavKeeps'. -/
def wavKeepsCard : Claim7 := { stood := { row := wavKeepsRow, standIns := [], harness := (true, "02cd107c05e2a21820e861525b1450db48983b7f8ee6930911263145cf1c9544"), looks := false }, kinds := [], alts := [], laidByText := true, laidKinds := [.data, .pinned], laidTests := true, laidLooks := .later }
def WavKeepsCardSaid : Prop := Claim7.holds Tryd.pinned (.plain (OpenSpec.ofChange wavKeepsSpec)) wavKeepsCard

/-- THE SECOND FORM's CARD OF 'shellaclaw23.WavFiles'. -/
def wavFilesUptoCard : Claim7 := { stood := { row := wavFilesUptoRow, standIns := [], harness := (true, "02cd107c05e2a21820e861525b1450db48983b7f8ee6930911263145cf1c9544"), looks := false }, kinds := [], alts := [], laidByText := true, laidKinds := [.data, .pinned], laidTests := true, laidLooks := .later }
def WavFilesUptoCardSaid : Prop := Claim7.holds Tryd.pinned (.plain (OpenSpec.upto wavFilesSpec)) wavFilesUptoCard

/-- THE SECOND FORM's CARD OF 'shellaclaw23.WavCuts'. -/
def wavCutsUptoCard : Claim7 := { stood := { row := wavCutsUptoRow, standIns := [], harness := (true, "02cd107c05e2a21820e861525b1450db48983b7f8ee6930911263145cf1c9544"), looks := false }, kinds := [], alts := [], laidByText := true, laidKinds := [.data, .pinned], laidTests := true, laidLooks := .later }
def WavCutsUptoCardSaid : Prop := Claim7.holds Tryd.pinned (.plain (OpenSpec.upto wavCutsSpec)) wavCutsUptoCard

/-- THE SECOND FORM's CARD OF 'shellaclaw23.WavReturns'. -/
def wavReturnsUptoCard : Claim7 := { stood := { row := wavReturnsUptoRow, standIns := [], harness := (true, "02cd107c05e2a21820e861525b1450db48983b7f8ee6930911263145cf1c9544"), looks := false }, kinds := [], alts := [], laidByText := true, laidKinds := [.data, .pinned], laidTests := true, laidLooks := .later }
def WavReturnsUptoCardSaid : Prop := Claim7.holds Tryd.pinned (.plain (OpenSpec.upto wavReturnsSpec)) wavReturnsUptoCard

/-- THE SECOND FORM's CARD OF 'shellaclaw23.WavReads'. -/
def wavReadsUptoCard : Claim7 := { stood := { row := wavReadsUptoRow, standIns := [], harness := (true, "02cd107c05e2a21820e861525b1450db48983b7f8ee6930911263145cf1c9544"), looks := false }, kinds := [], alts := [], laidByText := true, laidKinds := [.data, .pinned], laidTests := true, laidLooks := .later }
def WavReadsUptoCardSaid : Prop := Claim7.holds Tryd.pinned (.plain (OpenSpec.upto wavReadsSpec)) wavReadsUptoCard

/-- THE SECOND FORM's CARD OF 'shellaclaw23.WavLimits'. -/
def wavLimitsUptoCard : Claim7 := { stood := { row := wavLimitsUptoRow, standIns := [], harness := (true, "02cd107c05e2a21820e861525b1450db48983b7f8ee6930911263145cf1c9544"), looks := false }, kinds := [], alts := [], laidByText := true, laidKinds := [.data, .pinned], laidTests := true, laidLooks := .later }
def WavLimitsUptoCardSaid : Prop := Claim7.holds Tryd.pinned (.plain (OpenSpec.upto wavLimitsSpec)) wavLimitsUptoCard

/-- THE SECOND FORM's CARD OF 'shellaclaw23.WavJoins'. -/
def wavJoinsUptoCard : Claim7 := { stood := { row := wavJoinsUptoRow, standIns := [], harness := (true, "02cd107c05e2a21820e861525b1450db48983b7f8ee6930911263145cf1c9544"), looks := false }, kinds := [], alts := [], laidByText := true, laidKinds := [.data, .pinned], laidTests := true, laidLooks := .later }
def WavJoinsUptoCardSaid : Prop := Claim7.holds Tryd.pinned (.plain (OpenSpec.upto wavJoinsSpec)) wavJoinsUptoCard

/-- THE SECOND FORM's CARD OF 'shellaclaw23.WavKeeps'. -/
def wavKeepsUptoCard : Claim7 := { stood := { row := wavKeepsUptoRow, standIns := [], harness := (true, "02cd107c05e2a21820e861525b1450db48983b7f8ee6930911263145cf1c9544"), looks := false }, kinds := [], alts := [], laidByText := true, laidKinds := [.data, .pinned], laidTests := true, laidLooks := .later }
def WavKeepsUptoCardSaid : Prop := Claim7.holds Tryd.pinned (.plain (OpenSpec.upto wavKeepsSpec)) wavKeepsUptoCard
end Rows
end Go.Proofs.YtlbgcegonmbddaaDoor
