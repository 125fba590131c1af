/-
  DERIVED. GIVEN WITH THE SEED: THE CARDS: each row of YtnfmeaifbankjaaDoorRows.lean that lists a variable, with what it lists TIED to the program's text (the seventh form; the later family's looks); each row that meets fmt, with fmt's text TOLD by the authors' own Lean function (tested against real Go, not proved from fmt's source: count such statements apart). THE CARD IS WHAT COUNTS. Prove the row's statement (the work); the ties are given (YtnfmeaifbankjaaDoorTie.lean); close each card by the builder's one call (the guide's Derived/Test/ToyasCard.lean, 'card_holds'). Laid BY PROGRAM, IN A SANDBOX (cutbox-door.mjs). By AI agents, Wed Nov 11 2026. No macro, syntax, notation, axiom, sorry.
-/
import Derived.Test.YtnfmeaifbankjaaDoorRows
import GoSem.ClaimSeven
namespace Go.Proofs.YtnfmeaifbankjaaDoor
namespace Rows

/-- THE TIED CARD OF 'satchellaw1.CodeReads'. -/
def codeReadsCard : Claim7 := { stood := { row := codeReadsRow, standIns := [], harness := (true, "44c98f28c5ffb57db57916daf4d34a5a327ebda1aa7cde9c73c35d5fd9b243fe"), looks := false }, kinds := [], alts := [], laidByText := true, laidKinds := [.data], laidTests := true, laidLooks := .later }
def CodeReadsCardSaid : Prop := Claim7.holds Tryd.pinned (.plain (OpenSpec.ofChange codeReadsSpec)) codeReadsCard

/-- THE TIED CARD OF 'satchellaw1.CodeStops'. -/
def codeStopsCard : Claim7 := { stood := { row := codeStopsRow, standIns := [], harness := (true, "44c98f28c5ffb57db57916daf4d34a5a327ebda1aa7cde9c73c35d5fd9b243fe"), looks := false }, kinds := [], alts := [], laidByText := true, laidKinds := [.data], laidTests := true, laidLooks := .later }
def CodeStopsCardSaid : Prop := Claim7.holds Tryd.pinned (.plain (OpenSpec.ofChange codeStopsSpec)) codeStopsCard

/-- THE TIED CARD OF 'satchellaw1.CodePlace'. -/
def codePlaceCard : Claim7 := { stood := { row := codePlaceRow, standIns := [], harness := (true, "44c98f28c5ffb57db57916daf4d34a5a327ebda1aa7cde9c73c35d5fd9b243fe"), looks := false }, kinds := [], alts := [], laidByText := true, laidKinds := [.data], laidTests := true, laidLooks := .later }
def CodePlaceCardSaid : Prop := Claim7.holds Tryd.pinned (.plain (OpenSpec.ofChange codePlaceSpec)) codePlaceCard

/-- THE TIED CARD OF 'satchellaw1.CodeTurns'. -/
def codeTurnsCard : Claim7 := { stood := { row := codeTurnsRow, standIns := [], harness := (true, "44c98f28c5ffb57db57916daf4d34a5a327ebda1aa7cde9c73c35d5fd9b243fe"), looks := false }, kinds := [], alts := [], laidByText := true, laidKinds := [.data], laidTests := true, laidLooks := .later }
def CodeTurnsCardSaid : Prop := Claim7.holds Tryd.pinned (.plain (OpenSpec.ofChange codeTurnsSpec)) codeTurnsCard

/-- THE TIED CARD OF 'satchellaw1.CodeOneForm'. -/
def codeOneFormCard : Claim7 := { stood := { row := codeOneFormRow, standIns := [], harness := (true, "44c98f28c5ffb57db57916daf4d34a5a327ebda1aa7cde9c73c35d5fd9b243fe"), looks := false }, kinds := [], alts := [], laidByText := true, laidKinds := [.data], laidTests := true, laidLooks := .later }
def CodeOneFormCardSaid : Prop := Claim7.holds Tryd.pinned (.plain (OpenSpec.ofChange codeOneFormSpec)) codeOneFormCard

/-- THE SECOND FORM's CARD OF 'satchellaw1.CodeReads'. -/
def codeReadsUptoCard : Claim7 := { stood := { row := codeReadsUptoRow, standIns := [], harness := (true, "44c98f28c5ffb57db57916daf4d34a5a327ebda1aa7cde9c73c35d5fd9b243fe"), looks := false }, kinds := [], alts := [], laidByText := true, laidKinds := [.data], laidTests := true, laidLooks := .later }
def CodeReadsUptoCardSaid : Prop := Claim7.holds Tryd.pinned (.plain (OpenSpec.upto codeReadsSpec)) codeReadsUptoCard

/-- THE SECOND FORM's CARD OF 'satchellaw1.CodeStops'. -/
def codeStopsUptoCard : Claim7 := { stood := { row := codeStopsUptoRow, standIns := [], harness := (true, "44c98f28c5ffb57db57916daf4d34a5a327ebda1aa7cde9c73c35d5fd9b243fe"), looks := false }, kinds := [], alts := [], laidByText := true, laidKinds := [.data], laidTests := true, laidLooks := .later }
def CodeStopsUptoCardSaid : Prop := Claim7.holds Tryd.pinned (.plain (OpenSpec.upto codeStopsSpec)) codeStopsUptoCard

/-- THE SECOND FORM's CARD OF 'satchellaw1.CodePlace'. -/
def codePlaceUptoCard : Claim7 := { stood := { row := codePlaceUptoRow, standIns := [], harness := (true, "44c98f28c5ffb57db57916daf4d34a5a327ebda1aa7cde9c73c35d5fd9b243fe"), looks := false }, kinds := [], alts := [], laidByText := true, laidKinds := [.data], laidTests := true, laidLooks := .later }
def CodePlaceUptoCardSaid : Prop := Claim7.holds Tryd.pinned (.plain (OpenSpec.upto codePlaceSpec)) codePlaceUptoCard

/-- THE SECOND FORM's CARD OF 'satchellaw1.CodeTurns'. -/
def codeTurnsUptoCard : Claim7 := { stood := { row := codeTurnsUptoRow, standIns := [], harness := (true, "44c98f28c5ffb57db57916daf4d34a5a327ebda1aa7cde9c73c35d5fd9b243fe"), looks := false }, kinds := [], alts := [], laidByText := true, laidKinds := [.data], laidTests := true, laidLooks := .later }
def CodeTurnsUptoCardSaid : Prop := Claim7.holds Tryd.pinned (.plain (OpenSpec.upto codeTurnsSpec)) codeTurnsUptoCard

/-- THE SECOND FORM's CARD OF 'satchellaw1.CodeOneForm'. -/
def codeOneFormUptoCard : Claim7 := { stood := { row := codeOneFormUptoRow, standIns := [], harness := (true, "44c98f28c5ffb57db57916daf4d34a5a327ebda1aa7cde9c73c35d5fd9b243fe"), looks := false }, kinds := [], alts := [], laidByText := true, laidKinds := [.data], laidTests := true, laidLooks := .later }
def CodeOneFormUptoCardSaid : Prop := Claim7.holds Tryd.pinned (.plain (OpenSpec.upto codeOneFormSpec)) codeOneFormUptoCard
end Rows
end Go.Proofs.YtnfmeaifbankjaaDoor
