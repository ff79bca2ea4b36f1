/-
  DERIVED. GIVEN WITH THE SEED: THE CARDS: each row of YtmfchbkdakmjhaaDoorRows.lean that lists a variable, with what it lists TIED to the program's text (the seventh form; the later family's looks); each row that meets fmt, with fmt's text TOLD by the authors' own Lean function (tested against real Go, not proved from fmt's source: count such statements apart). THE CARD IS WHAT COUNTS. Prove the row's statement (the work); the ties are given (YtmfchbkdakmjhaaDoorTie.lean); close each card by the builder's one call (the guide's Derived/Test/ToyasCard.lean, 'card_holds'). Laid BY PROGRAM, IN A SANDBOX (cutbox-door.mjs). By AI agents, Wed Nov 11 2026. No macro, syntax, notation, axiom, sorry.
-/
import Derived.Test.YtmfchbkdakmjhaaDoorRows
import GoSem.ClaimSeven
namespace Go.Proofs.YtmfchbkdakmjhaaDoor
namespace Rows

/-- THE TIED CARD OF 'typecaselaw.StepTells'. -/
def stepTellsCard : Claim7 := { stood := { row := stepTellsRow, standIns := [], harness := (true, "be353963f998804e915bcb2a8c261eddf8f45d2667f6c6721d5961dca6566d5b"), looks := true }, kinds := [], alts := [], laidByText := true, laidKinds := [.data, .data, .data, .data, .pinned], laidTests := true, laidLooks := .later }
def StepTellsCardSaid : Prop := Claim7.holds Tryd.pinned (.plain (OpenSpec.ofChange stepTellsSpec)) stepTellsCard

/-- THE TIED CARD OF 'typecaselaw.StepAll'. -/
def stepAllCard : Claim7 := { stood := { row := stepAllRow, standIns := [], harness := (true, "be353963f998804e915bcb2a8c261eddf8f45d2667f6c6721d5961dca6566d5b"), looks := true }, kinds := [], alts := [], laidByText := true, laidKinds := [.data, .data, .data, .data, .pinned], laidTests := true, laidLooks := .later }
def StepAllCardSaid : Prop := Claim7.holds Tryd.pinned (.plain (OpenSpec.ofChange stepAllSpec)) stepAllCard

/-- THE TIED CARD OF 'typecaselaw.MoveTells'. -/
def moveTellsCard : Claim7 := { stood := { row := moveTellsRow, standIns := [], harness := (true, "be353963f998804e915bcb2a8c261eddf8f45d2667f6c6721d5961dca6566d5b"), looks := true }, kinds := [], alts := [], laidByText := true, laidKinds := [.data, .data, .data, .data, .pinned], laidTests := true, laidLooks := .later }
def MoveTellsCardSaid : Prop := Claim7.holds Tryd.pinned (.plain (OpenSpec.ofChange moveTellsSpec)) moveTellsCard

/-- THE TIED CARD OF 'typecaselaw.EscTells'. -/
def escTellsCard : Claim7 := { stood := { row := escTellsRow, standIns := [], harness := (true, "be353963f998804e915bcb2a8c261eddf8f45d2667f6c6721d5961dca6566d5b"), looks := true }, kinds := [], alts := [], laidByText := true, laidKinds := [.data, .data, .data, .data, .sentinel, .sentinel, .pinned], laidTests := true, laidLooks := .later }
def EscTellsCardSaid : Prop := Claim7.holds Tryd.pinned (.plain (OpenSpec.ofChange escTellsSpec)) escTellsCard

/-- THE TIED CARD OF 'typecaselaw.PathTells'. -/
def pathTellsCard : Claim7 := { stood := { row := pathTellsRow, standIns := [], harness := (true, "be353963f998804e915bcb2a8c261eddf8f45d2667f6c6721d5961dca6566d5b"), looks := true }, kinds := [], alts := [], laidByText := true, laidKinds := [.data, .data, .data, .data, .sentinel, .sentinel, .pinned], laidTests := true, laidLooks := .later }
def PathTellsCardSaid : Prop := Claim7.holds Tryd.pinned (.plain (OpenSpec.ofChange pathTellsSpec)) pathTellsCard

/-- THE TIED CARD OF 'typecaselaw.DiffTells'. -/
def diffTellsCard : Claim7 := { stood := { row := diffTellsRow, standIns := [], harness := (true, "be353963f998804e915bcb2a8c261eddf8f45d2667f6c6721d5961dca6566d5b"), looks := true }, kinds := [], alts := [], laidByText := true, laidKinds := [.data, .pinned], laidTests := true, laidLooks := .later }
def DiffTellsCardSaid : Prop := Claim7.holds Tryd.pinned (.plain (OpenSpec.ofChange diffTellsSpec)) diffTellsCard

/-- THE SECOND FORM's CARD OF 'typecaselaw.StepTells'. -/
def stepTellsUptoCard : Claim7 := { stood := { row := stepTellsUptoRow, standIns := [], harness := (true, "be353963f998804e915bcb2a8c261eddf8f45d2667f6c6721d5961dca6566d5b"), looks := true }, kinds := [], alts := [], laidByText := true, laidKinds := [.data, .data, .data, .data, .pinned], laidTests := true, laidLooks := .later }
def StepTellsUptoCardSaid : Prop := Claim7.holds Tryd.pinned (.plain (OpenSpec.upto stepTellsSpec)) stepTellsUptoCard

/-- THE SECOND FORM's CARD OF 'typecaselaw.StepAll'. -/
def stepAllUptoCard : Claim7 := { stood := { row := stepAllUptoRow, standIns := [], harness := (true, "be353963f998804e915bcb2a8c261eddf8f45d2667f6c6721d5961dca6566d5b"), looks := true }, kinds := [], alts := [], laidByText := true, laidKinds := [.data, .data, .data, .data, .pinned], laidTests := true, laidLooks := .later }
def StepAllUptoCardSaid : Prop := Claim7.holds Tryd.pinned (.plain (OpenSpec.upto stepAllSpec)) stepAllUptoCard

/-- THE SECOND FORM's CARD OF 'typecaselaw.MoveTells'. -/
def moveTellsUptoCard : Claim7 := { stood := { row := moveTellsUptoRow, standIns := [], harness := (true, "be353963f998804e915bcb2a8c261eddf8f45d2667f6c6721d5961dca6566d5b"), looks := true }, kinds := [], alts := [], laidByText := true, laidKinds := [.data, .data, .data, .data, .pinned], laidTests := true, laidLooks := .later }
def MoveTellsUptoCardSaid : Prop := Claim7.holds Tryd.pinned (.plain (OpenSpec.upto moveTellsSpec)) moveTellsUptoCard

/-- THE SECOND FORM's CARD OF 'typecaselaw.EscTells'. -/
def escTellsUptoCard : Claim7 := { stood := { row := escTellsUptoRow, standIns := [], harness := (true, "be353963f998804e915bcb2a8c261eddf8f45d2667f6c6721d5961dca6566d5b"), looks := true }, kinds := [], alts := [], laidByText := true, laidKinds := [.data, .data, .data, .data, .sentinel, .sentinel, .pinned], laidTests := true, laidLooks := .later }
def EscTellsUptoCardSaid : Prop := Claim7.holds Tryd.pinned (.plain (OpenSpec.upto escTellsSpec)) escTellsUptoCard

/-- THE SECOND FORM's CARD OF 'typecaselaw.PathTells'. -/
def pathTellsUptoCard : Claim7 := { stood := { row := pathTellsUptoRow, standIns := [], harness := (true, "be353963f998804e915bcb2a8c261eddf8f45d2667f6c6721d5961dca6566d5b"), looks := true }, kinds := [], alts := [], laidByText := true, laidKinds := [.data, .data, .data, .data, .sentinel, .sentinel, .pinned], laidTests := true, laidLooks := .later }
def PathTellsUptoCardSaid : Prop := Claim7.holds Tryd.pinned (.plain (OpenSpec.upto pathTellsSpec)) pathTellsUptoCard

/-- THE SECOND FORM's CARD OF 'typecaselaw.DiffTells'. -/
def diffTellsUptoCard : Claim7 := { stood := { row := diffTellsUptoRow, standIns := [], harness := (true, "be353963f998804e915bcb2a8c261eddf8f45d2667f6c6721d5961dca6566d5b"), looks := true }, kinds := [], alts := [], laidByText := true, laidKinds := [.data, .pinned], laidTests := true, laidLooks := .later }
def DiffTellsUptoCardSaid : Prop := Claim7.holds Tryd.pinned (.plain (OpenSpec.upto diffTellsSpec)) diffTellsUptoCard
end Rows
end Go.Proofs.YtmfchbkdakmjhaaDoor
