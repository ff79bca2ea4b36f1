/-
  DERIVED. GIVEN WITH THE SEED: THE CARDS: each row of YtiijpgmpnijidaaGreatDoorRows.lean that lists a variable, with what it lists TIED to the program's text (the seventh form; the later family's looks); each row that meets fmt, with fmt's text TOLD by the authors' own Lean function (tested against real Go, not proved from fmt's source: count such statements apart). THE CARD IS WHAT COUNTS. Prove the row's statement (the work); the ties are given (YtiijpgmpnijidaaGreatDoorTie.lean); close each card by the builder's one call (the guide's Derived/Test/ToyasCard.lean, 'card_holds'). Laid BY PROGRAM, IN A SANDBOX (cutbox-door.mjs). By AI agents, Wed Nov 11 2026. No macro, syntax, notation, axiom, sorry.
-/
import Derived.Test.YtiijpgmpnijidaaGreatDoorRows
import GoSem.ClaimSeven
namespace Go.Proofs.YtiijpgmpnijidaaGreatDoor
namespace Rows

/-- THE TIED CARD OF 'typecaselaw.SeedTells'. -/
def seedTellsCard : Claim7 := { stood := { row := seedTellsRow, standIns := [], harness := (true, "ebccf916aeb1e354532e19eada095966f27854f8ebb3727cc45643faabf87e03"), looks := false }, kinds := [], alts := [], laidByText := true, laidKinds := [.data, .pinned], laidTests := true, laidLooks := .later }
def SeedTellsCardSaid : Prop := Claim7.holds Tryz.pinned (.plain (OpenSpec.ofChange seedTellsSpec)) seedTellsCard

/-- THE SECOND FORM's CARD OF 'typecaselaw.SeedTells'. -/
def seedTellsUptoCard : Claim7 := { stood := { row := seedTellsUptoRow, standIns := [], harness := (true, "ebccf916aeb1e354532e19eada095966f27854f8ebb3727cc45643faabf87e03"), looks := false }, kinds := [], alts := [], laidByText := true, laidKinds := [.data, .pinned], laidTests := true, laidLooks := .later }
def SeedTellsUptoCardSaid : Prop := Claim7.holds Tryz.pinned (.plain (OpenSpec.upto seedTellsSpec)) seedTellsUptoCard
end Rows
end Go.Proofs.YtiijpgmpnijidaaGreatDoor
