/-
  DERIVED. GIVEN WITH THE SEED: THE CARDS: each row of YtjlbaagnoppfgaaDoorRows.lean that lists a variable, with what it lists TIED to the program's text (the seventh form; the later family's looks); each row that meets fmt, with fmt's text TOLD by the authors' own Lean function (tested against real Go, not proved from fmt's source: count such statements apart). THE CARD IS WHAT COUNTS. Prove the row's statement (the work); the ties are given (YtjlbaagnoppfgaaDoorTie.lean); close each card by the builder's one call (the guide's Derived/Test/ToyasCard.lean, 'card_holds'). Laid BY PROGRAM, IN A SANDBOX (cutbox-door.mjs). By AI agents, Wed Nov 11 2026. No macro, syntax, notation, axiom, sorry.
-/
import Derived.Test.YtjlbaagnoppfgaaDoorRows
import GoSem.ClaimSeven
namespace Go.Proofs.YtjlbaagnoppfgaaDoor
namespace Rows

/-- THE TIED CARD OF 'typecaselaw.UtfTells'. -/
def utfTellsCard : Claim7 := { stood := { row := utfTellsRow, standIns := [], harness := (true, "3ba3da747d165ab1e4de11ad721dcafc4a87549d755e6a025f5e2d4e02b904aa"), looks := false }, kinds := [], alts := [], laidByText := true, laidKinds := [.data, .pinned], laidTests := true, laidLooks := .later }
def UtfTellsCardSaid : Prop := Claim7.holds Tryd.pinned (.plain (OpenSpec.ofChange utfTellsSpec)) utfTellsCard

/-- THE TIED CARD OF 'typecaselaw.ValChecks'. -/
def valChecksCard : Claim7 := { stood := { row := valChecksRow, standIns := [], harness := (true, "3ba3da747d165ab1e4de11ad721dcafc4a87549d755e6a025f5e2d4e02b904aa"), looks := false }, kinds := [], alts := [], laidByText := true, laidKinds := [.data, .pinned], laidTests := true, laidLooks := .later }
def ValChecksCardSaid : Prop := Claim7.holds Tryd.pinned (.plain (OpenSpec.ofChange valChecksSpec)) valChecksCard

/-- THE TIED CARD OF 'typecaselaw.UtfMakes'. -/
def utfMakesCard : Claim7 := { stood := { row := utfMakesRow, standIns := [], harness := (true, "3ba3da747d165ab1e4de11ad721dcafc4a87549d755e6a025f5e2d4e02b904aa"), looks := false }, kinds := [], alts := [], laidByText := true, laidKinds := [.data, .pinned], laidTests := true, laidLooks := .later }
def UtfMakesCardSaid : Prop := Claim7.holds Tryd.pinned (.plain (OpenSpec.ofChange utfMakesSpec)) utfMakesCard

/-- THE TIED CARD OF 'typecaselaw.PathLeads'. -/
def pathLeadsCard : Claim7 := { stood := { row := pathLeadsRow, standIns := [], harness := (true, "3ba3da747d165ab1e4de11ad721dcafc4a87549d755e6a025f5e2d4e02b904aa"), looks := false }, kinds := [], alts := [], laidByText := true, laidKinds := [.data, .pinned], laidTests := true, laidLooks := .later }
def PathLeadsCardSaid : Prop := Claim7.holds Tryd.pinned (.plain (OpenSpec.ofChange pathLeadsSpec)) pathLeadsCard

/-- THE SECOND FORM's CARD OF 'typecaselaw.UtfTells'. -/
def utfTellsUptoCard : Claim7 := { stood := { row := utfTellsUptoRow, standIns := [], harness := (true, "3ba3da747d165ab1e4de11ad721dcafc4a87549d755e6a025f5e2d4e02b904aa"), looks := false }, kinds := [], alts := [], laidByText := true, laidKinds := [.data, .pinned], laidTests := true, laidLooks := .later }
def UtfTellsUptoCardSaid : Prop := Claim7.holds Tryd.pinned (.plain (OpenSpec.upto utfTellsSpec)) utfTellsUptoCard

/-- THE SECOND FORM's CARD OF 'typecaselaw.ValChecks'. -/
def valChecksUptoCard : Claim7 := { stood := { row := valChecksUptoRow, standIns := [], harness := (true, "3ba3da747d165ab1e4de11ad721dcafc4a87549d755e6a025f5e2d4e02b904aa"), looks := false }, kinds := [], alts := [], laidByText := true, laidKinds := [.data, .pinned], laidTests := true, laidLooks := .later }
def ValChecksUptoCardSaid : Prop := Claim7.holds Tryd.pinned (.plain (OpenSpec.upto valChecksSpec)) valChecksUptoCard

/-- THE SECOND FORM's CARD OF 'typecaselaw.UtfMakes'. -/
def utfMakesUptoCard : Claim7 := { stood := { row := utfMakesUptoRow, standIns := [], harness := (true, "3ba3da747d165ab1e4de11ad721dcafc4a87549d755e6a025f5e2d4e02b904aa"), looks := false }, kinds := [], alts := [], laidByText := true, laidKinds := [.data, .pinned], laidTests := true, laidLooks := .later }
def UtfMakesUptoCardSaid : Prop := Claim7.holds Tryd.pinned (.plain (OpenSpec.upto utfMakesSpec)) utfMakesUptoCard

/-- THE SECOND FORM's CARD OF 'typecaselaw.PathLeads'. -/
def pathLeadsUptoCard : Claim7 := { stood := { row := pathLeadsUptoRow, standIns := [], harness := (true, "3ba3da747d165ab1e4de11ad721dcafc4a87549d755e6a025f5e2d4e02b904aa"), looks := false }, kinds := [], alts := [], laidByText := true, laidKinds := [.data, .pinned], laidTests := true, laidLooks := .later }
def PathLeadsUptoCardSaid : Prop := Claim7.holds Tryd.pinned (.plain (OpenSpec.upto pathLeadsSpec)) pathLeadsUptoCard
end Rows
end Go.Proofs.YtjlbaagnoppfgaaDoor
