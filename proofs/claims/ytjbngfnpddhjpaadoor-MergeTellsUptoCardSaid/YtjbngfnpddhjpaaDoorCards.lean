/-
  DERIVED. GIVEN WITH THE SEED: THE CARDS: each row of YtjbngfnpddhjpaaDoorRows.lean that lists a variable, with what it lists TIED to the program's text (the seventh form; the later family's looks); each row that meets fmt, with fmt's text TOLD by the authors' own Lean function (tested against real Go, not proved from fmt's source: count such statements apart). THE CARD IS WHAT COUNTS. Prove the row's statement (the work); the ties are given (YtjbngfnpddhjpaaDoorTie.lean); close each card by the builder's one call (the guide's Derived/Test/ToyasCard.lean, 'card_holds'). Laid BY PROGRAM, IN A SANDBOX (cutbox-door.mjs). By AI agents, Wed Nov 11 2026. No macro, syntax, notation, axiom, sorry.
-/
import Derived.Test.YtjbngfnpddhjpaaDoorRows
import GoSem.ClaimSeven
namespace Go.Proofs.YtjbngfnpddhjpaaDoor
namespace Rows

/-- THE TIED CARD OF 'typecaselaw.MergeTells'. -/
def mergeTellsCard : Claim7 := { stood := { row := mergeTellsRow, standIns := [], harness := (true, "aa9b9b6c191562ecc5b2d81aa4be7e1df432dec95e3fdd16eeecedc55e342997"), looks := false }, kinds := [], alts := [], laidByText := true, laidKinds := [.data, .pinned], laidTests := true, laidLooks := .later }
def MergeTellsCardSaid : Prop := Claim7.holds Tryd.pinned (.plain (OpenSpec.ofChange mergeTellsSpec)) mergeTellsCard

/-- THE SECOND FORM's CARD OF 'typecaselaw.MergeTells'. -/
def mergeTellsUptoCard : Claim7 := { stood := { row := mergeTellsUptoRow, standIns := [], harness := (true, "aa9b9b6c191562ecc5b2d81aa4be7e1df432dec95e3fdd16eeecedc55e342997"), looks := false }, kinds := [], alts := [], laidByText := true, laidKinds := [.data, .pinned], laidTests := true, laidLooks := .later }
def MergeTellsUptoCardSaid : Prop := Claim7.holds Tryd.pinned (.plain (OpenSpec.upto mergeTellsSpec)) mergeTellsUptoCard
end Rows
end Go.Proofs.YtjbngfnpddhjpaaDoor
