/-
  DERIVED. GIVEN WITH THE SEED: THE CARDS: each row of YtnpmmkfdclhbeaaDoorRows.lean that lists a variable, with what it lists TIED to the program's text (the seventh form; the later family's looks); each row that meets fmt, with fmt's text TOLD by the authors' own Lean function (tested against real Go, not proved from fmt's source: count such statements apart). THE CARD IS WHAT COUNTS. Prove the row's statement (the work); the ties are given (YtnpmmkfdclhbeaaDoorTie.lean); close each card by the builder's one call (the guide's Derived/Test/ToyasCard.lean, 'card_holds'). Laid BY PROGRAM, IN A SANDBOX (cutbox-door.mjs). By AI agents, Wed Nov 11 2026. No macro, syntax, notation, axiom, sorry.
-/
import Derived.Test.YtnpmmkfdclhbeaaDoorRows
import GoSem.ClaimSeven
namespace Go.Proofs.YtnpmmkfdclhbeaaDoor
namespace Rows

/-- THE TIED CARD OF 'typecaselaw.PathLeads'. -/
def pathLeadsCard : Claim7 := { stood := { row := pathLeadsRow, standIns := [], harness := (true, "74ca14d12e69f8b15f3c159b88962b0cbfa6bc384e264396194dbe9f4565ebd3"), looks := false }, kinds := [], alts := [], laidByText := true, laidKinds := [.data, .pinned], laidTests := true, laidLooks := .later }
def PathLeadsCardSaid : Prop := Claim7.holds Tryd.pinned (.plain (OpenSpec.ofChange pathLeadsSpec)) pathLeadsCard

/-- THE SECOND FORM's CARD OF 'typecaselaw.PathLeads'. -/
def pathLeadsUptoCard : Claim7 := { stood := { row := pathLeadsUptoRow, standIns := [], harness := (true, "74ca14d12e69f8b15f3c159b88962b0cbfa6bc384e264396194dbe9f4565ebd3"), looks := false }, kinds := [], alts := [], laidByText := true, laidKinds := [.data, .pinned], laidTests := true, laidLooks := .later }
def PathLeadsUptoCardSaid : Prop := Claim7.holds Tryd.pinned (.plain (OpenSpec.upto pathLeadsSpec)) pathLeadsUptoCard
end Rows
end Go.Proofs.YtnpmmkfdclhbeaaDoor
