/-
  DERIVED. GIVEN WITH THE SEED: THE CARDS: each row of YtdcdmojbkmedpaaDoorRows.lean that lists a variable, with what it lists TIED to the program's text (the seventh form; the later family's looks); each row that meets fmt, with fmt's text TOLD by the authors' own Lean function (tested against real Go, not proved from fmt's source: count such statements apart). THE CARD IS WHAT COUNTS. Prove the row's statement (the work); the ties are given (YtdcdmojbkmedpaaDoorTie.lean); close each card by the builder's one call (the guide's Derived/Test/ToyasCard.lean, 'card_holds'). Laid BY PROGRAM, IN A SANDBOX (cutbox-door.mjs). By AI agents, Wed Nov 11 2026. No macro, syntax, notation, axiom, sorry.
-/
import Derived.Test.YtdcdmojbkmedpaaDoorRows
import GoSem.ClaimSeven
namespace Go.Proofs.YtdcdmojbkmedpaaDoor
namespace Rows

/-- THE TIED CARD OF 'typecaselaw.PackTells'. -/
def packTellsCard : Claim7 := { stood := { row := packTellsRow, standIns := [], harness := (true, "c160cd59da2cbddd53e83e3e2f7508e32368158d0b45e547a94f2e9dd956fd4a"), looks := false }, kinds := [], alts := [], laidByText := true, laidKinds := [.data, .pinned], laidTests := true, laidLooks := .later }
def PackTellsCardSaid : Prop := Claim7.holds Tryd.pinned (.plain (OpenSpec.ofChange packTellsSpec)) packTellsCard

/-- THE TIED CARD OF 'typecaselaw.NumTells'. -/
def numTellsCard : Claim7 := { stood := { row := numTellsRow, standIns := [], harness := (true, "c160cd59da2cbddd53e83e3e2f7508e32368158d0b45e547a94f2e9dd956fd4a"), looks := false }, kinds := [], alts := [], laidByText := true, laidKinds := [.data, .data, .data], laidTests := true, laidLooks := .later }
def NumTellsCardSaid : Prop := Claim7.holds Tryd.pinned (.plain (OpenSpec.ofChange numTellsSpec)) numTellsCard

/-- THE TIED CARD OF 'typecaselaw.DiffLeads'. -/
def diffLeadsCard : Claim7 := { stood := { row := diffLeadsRow, standIns := [], harness := (true, "c160cd59da2cbddd53e83e3e2f7508e32368158d0b45e547a94f2e9dd956fd4a"), looks := false }, kinds := [], alts := [], laidByText := true, laidKinds := [.data, .pinned], laidTests := true, laidLooks := .later }
def DiffLeadsCardSaid : Prop := Claim7.holds Tryd.pinned (.plain (OpenSpec.ofChange diffLeadsSpec)) diffLeadsCard

/-- THE TIED CARD OF 'typecaselaw.UpdAll'. -/
def updAllCard : Claim7 := { stood := { row := updAllRow, standIns := [], harness := (true, "c160cd59da2cbddd53e83e3e2f7508e32368158d0b45e547a94f2e9dd956fd4a"), looks := false }, kinds := [], alts := [], laidByText := true, laidKinds := [.data, .pinned], laidTests := true, laidLooks := .later }
def UpdAllCardSaid : Prop := Claim7.holds Tryd.pinned (.plain (OpenSpec.ofChange updAllSpec)) updAllCard

/-- THE TIED CARD OF 'typecaselaw.UpdTells'. -/
def updTellsCard : Claim7 := { stood := { row := updTellsRow, standIns := [], harness := (true, "c160cd59da2cbddd53e83e3e2f7508e32368158d0b45e547a94f2e9dd956fd4a"), looks := false }, kinds := [], alts := [], laidByText := true, laidKinds := [.data, .pinned], laidTests := true, laidLooks := .later }
def UpdTellsCardSaid : Prop := Claim7.holds Tryd.pinned (.plain (OpenSpec.ofChange updTellsSpec)) updTellsCard

/-- THE TIED CARD OF 'typecaselaw.TypTells'. -/
def typTellsCard : Claim7 := { stood := { row := typTellsRow, standIns := [], harness := (true, "c160cd59da2cbddd53e83e3e2f7508e32368158d0b45e547a94f2e9dd956fd4a"), looks := false }, kinds := [], alts := [], laidByText := true, laidKinds := [.data, .pinned], laidTests := true, laidLooks := .later }
def TypTellsCardSaid : Prop := Claim7.holds Tryd.pinned (.plain (OpenSpec.ofChange typTellsSpec)) typTellsCard

/-- THE TIED CARD OF 'typecaselaw.FitsTells'. -/
def fitsTellsCard : Claim7 := { stood := { row := fitsTellsRow, standIns := [], harness := (true, "c160cd59da2cbddd53e83e3e2f7508e32368158d0b45e547a94f2e9dd956fd4a"), looks := false }, kinds := [], alts := [], laidByText := true, laidKinds := [.data, .pinned], laidTests := true, laidLooks := .later }
def FitsTellsCardSaid : Prop := Claim7.holds Tryd.pinned (.plain (OpenSpec.ofChange fitsTellsSpec)) fitsTellsCard

/-- THE TIED CARD OF 'typecaselaw.FloatReads'. -/
def floatReadsCard : Claim7 := { stood := { row := floatReadsRow, standIns := [], harness := (true, "c160cd59da2cbddd53e83e3e2f7508e32368158d0b45e547a94f2e9dd956fd4a"), looks := false }, kinds := [], alts := [], laidByText := true, laidKinds := [.data, .pinned], laidTests := true, laidLooks := .later }
def FloatReadsCardSaid : Prop := Claim7.holds Tryd.pinned (.plain (OpenSpec.ofChange floatReadsSpec)) floatReadsCard

/-- THE SECOND FORM's CARD OF 'typecaselaw.PackTells'. -/
def packTellsUptoCard : Claim7 := { stood := { row := packTellsUptoRow, standIns := [], harness := (true, "c160cd59da2cbddd53e83e3e2f7508e32368158d0b45e547a94f2e9dd956fd4a"), looks := false }, kinds := [], alts := [], laidByText := true, laidKinds := [.data, .pinned], laidTests := true, laidLooks := .later }
def PackTellsUptoCardSaid : Prop := Claim7.holds Tryd.pinned (.plain (OpenSpec.upto packTellsSpec)) packTellsUptoCard

/-- THE SECOND FORM's CARD OF 'typecaselaw.NumTells'. -/
def numTellsUptoCard : Claim7 := { stood := { row := numTellsUptoRow, standIns := [], harness := (true, "c160cd59da2cbddd53e83e3e2f7508e32368158d0b45e547a94f2e9dd956fd4a"), looks := false }, kinds := [], alts := [], laidByText := true, laidKinds := [.data, .data, .data], laidTests := true, laidLooks := .later }
def NumTellsUptoCardSaid : Prop := Claim7.holds Tryd.pinned (.plain (OpenSpec.upto numTellsSpec)) numTellsUptoCard

/-- THE SECOND FORM's CARD OF 'typecaselaw.DiffLeads'. -/
def diffLeadsUptoCard : Claim7 := { stood := { row := diffLeadsUptoRow, standIns := [], harness := (true, "c160cd59da2cbddd53e83e3e2f7508e32368158d0b45e547a94f2e9dd956fd4a"), looks := false }, kinds := [], alts := [], laidByText := true, laidKinds := [.data, .pinned], laidTests := true, laidLooks := .later }
def DiffLeadsUptoCardSaid : Prop := Claim7.holds Tryd.pinned (.plain (OpenSpec.upto diffLeadsSpec)) diffLeadsUptoCard

/-- THE SECOND FORM's CARD OF 'typecaselaw.UpdAll'. -/
def updAllUptoCard : Claim7 := { stood := { row := updAllUptoRow, standIns := [], harness := (true, "c160cd59da2cbddd53e83e3e2f7508e32368158d0b45e547a94f2e9dd956fd4a"), looks := false }, kinds := [], alts := [], laidByText := true, laidKinds := [.data, .pinned], laidTests := true, laidLooks := .later }
def UpdAllUptoCardSaid : Prop := Claim7.holds Tryd.pinned (.plain (OpenSpec.upto updAllSpec)) updAllUptoCard

/-- THE SECOND FORM's CARD OF 'typecaselaw.UpdTells'. -/
def updTellsUptoCard : Claim7 := { stood := { row := updTellsUptoRow, standIns := [], harness := (true, "c160cd59da2cbddd53e83e3e2f7508e32368158d0b45e547a94f2e9dd956fd4a"), looks := false }, kinds := [], alts := [], laidByText := true, laidKinds := [.data, .pinned], laidTests := true, laidLooks := .later }
def UpdTellsUptoCardSaid : Prop := Claim7.holds Tryd.pinned (.plain (OpenSpec.upto updTellsSpec)) updTellsUptoCard

/-- THE SECOND FORM's CARD OF 'typecaselaw.TypTells'. -/
def typTellsUptoCard : Claim7 := { stood := { row := typTellsUptoRow, standIns := [], harness := (true, "c160cd59da2cbddd53e83e3e2f7508e32368158d0b45e547a94f2e9dd956fd4a"), looks := false }, kinds := [], alts := [], laidByText := true, laidKinds := [.data, .pinned], laidTests := true, laidLooks := .later }
def TypTellsUptoCardSaid : Prop := Claim7.holds Tryd.pinned (.plain (OpenSpec.upto typTellsSpec)) typTellsUptoCard

/-- THE SECOND FORM's CARD OF 'typecaselaw.FitsTells'. -/
def fitsTellsUptoCard : Claim7 := { stood := { row := fitsTellsUptoRow, standIns := [], harness := (true, "c160cd59da2cbddd53e83e3e2f7508e32368158d0b45e547a94f2e9dd956fd4a"), looks := false }, kinds := [], alts := [], laidByText := true, laidKinds := [.data, .pinned], laidTests := true, laidLooks := .later }
def FitsTellsUptoCardSaid : Prop := Claim7.holds Tryd.pinned (.plain (OpenSpec.upto fitsTellsSpec)) fitsTellsUptoCard

/-- THE SECOND FORM's CARD OF 'typecaselaw.FloatReads'. -/
def floatReadsUptoCard : Claim7 := { stood := { row := floatReadsUptoRow, standIns := [], harness := (true, "c160cd59da2cbddd53e83e3e2f7508e32368158d0b45e547a94f2e9dd956fd4a"), looks := false }, kinds := [], alts := [], laidByText := true, laidKinds := [.data, .pinned], laidTests := true, laidLooks := .later }
def FloatReadsUptoCardSaid : Prop := Claim7.holds Tryd.pinned (.plain (OpenSpec.upto floatReadsSpec)) floatReadsUptoCard
end Rows
end Go.Proofs.YtdcdmojbkmedpaaDoor
