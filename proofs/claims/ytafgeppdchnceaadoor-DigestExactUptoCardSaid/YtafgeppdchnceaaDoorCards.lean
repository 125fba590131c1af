/-
  DERIVED. GIVEN WITH THE SEED: THE CARDS: each row of YtafgeppdchnceaaDoorRows.lean that lists a variable, with what it lists TIED to the program's text (the seventh form; the later family's looks); each row that meets fmt, with fmt's text TOLD by the authors' own Lean function (tested against real Go, not proved from fmt's source: count such statements apart). THE CARD IS WHAT COUNTS. Prove the row's statement (the work); the ties are given (YtafgeppdchnceaaDoorTie.lean); close each card by the builder's one call (the guide's Derived/Test/ToyasCard.lean, 'card_holds'). Laid BY PROGRAM, IN A SANDBOX (cutbox-door.mjs). By AI agents, Wed Nov 11 2026. No macro, syntax, notation, axiom, sorry.
-/
import Derived.Test.YtafgeppdchnceaaDoorRows
import GoSem.ClaimSeven
namespace Go.Proofs.YtafgeppdchnceaaDoor
namespace Rows

/-- THE TIED CARD OF 'satchellaw2.DigestStream'. -/
def digestStreamCard : Claim7 := { stood := { row := digestStreamRow, standIns := [], harness := (true, "a8afddaa2efb01044d43253400472cf749c3be7cc91fffff1322d27f815bc6ae"), looks := false }, kinds := [], alts := [], laidByText := true, laidKinds := [.data, .data], laidTests := true, laidLooks := .later }
def DigestStreamCardSaid : Prop := Claim7.holds Tryd.pinned (.plain (OpenSpec.ofChange digestStreamSpec)) digestStreamCard

/-- THE TIED CARD OF 'satchellaw2.DigestMany'. -/
def digestManyCard : Claim7 := { stood := { row := digestManyRow, standIns := [], harness := (true, "a8afddaa2efb01044d43253400472cf749c3be7cc91fffff1322d27f815bc6ae"), looks := false }, kinds := [], alts := [], laidByText := true, laidKinds := [.data, .data], laidTests := true, laidLooks := .later }
def DigestManyCardSaid : Prop := Claim7.holds Tryd.pinned (.plain (OpenSpec.ofChange digestManySpec)) digestManyCard

/-- THE TIED CARD OF 'satchellaw2.DigestExact'. -/
def digestExactCard : Claim7 := { stood := { row := digestExactRow, standIns := [], harness := (true, "a8afddaa2efb01044d43253400472cf749c3be7cc91fffff1322d27f815bc6ae"), looks := false }, kinds := [], alts := [], laidByText := true, laidKinds := [.data, .data, .data, .data], laidTests := true, laidLooks := .later }
def DigestExactCardSaid : Prop := Claim7.holds Tryd.pinned (.plain (OpenSpec.ofChange digestExactSpec)) digestExactCard

/-- THE TIED CARD OF 'satchellaw2.DigestKnown'. -/
def digestKnownCard : Claim7 := { stood := { row := digestKnownRow, standIns := [], harness := (true, "a8afddaa2efb01044d43253400472cf749c3be7cc91fffff1322d27f815bc6ae"), looks := false }, kinds := [], alts := [], laidByText := true, laidKinds := [.data, .data], laidTests := true, laidLooks := .later }
def DigestKnownCardSaid : Prop := Claim7.holds Tryd.pinned (.plain (OpenSpec.ofChange digestKnownSpec)) digestKnownCard

/-- THE TIED CARD OF 'satchellaw2.DigestKeyed'. -/
def digestKeyedCard : Claim7 := { stood := { row := digestKeyedRow, standIns := [], harness := (true, "a8afddaa2efb01044d43253400472cf749c3be7cc91fffff1322d27f815bc6ae"), looks := false }, kinds := [], alts := [], laidByText := true, laidKinds := [.data, .data], laidTests := true, laidLooks := .later }
def DigestKeyedCardSaid : Prop := Claim7.holds Tryd.pinned (.plain (OpenSpec.ofChange digestKeyedSpec)) digestKeyedCard

/-- THE TIED CARD OF 'satchellaw2.DigestMatch'. -/
def digestMatchCard : Claim7 := { stood := { row := digestMatchRow, standIns := [], harness := (true, "a8afddaa2efb01044d43253400472cf749c3be7cc91fffff1322d27f815bc6ae"), looks := false }, kinds := [], alts := [], laidByText := true, laidKinds := [.data, .data], laidTests := true, laidLooks := .later }
def DigestMatchCardSaid : Prop := Claim7.holds Tryd.pinned (.plain (OpenSpec.ofChange digestMatchSpec)) digestMatchCard

/-- THE SECOND FORM's CARD OF 'satchellaw2.DigestStream'. -/
def digestStreamUptoCard : Claim7 := { stood := { row := digestStreamUptoRow, standIns := [], harness := (true, "a8afddaa2efb01044d43253400472cf749c3be7cc91fffff1322d27f815bc6ae"), looks := false }, kinds := [], alts := [], laidByText := true, laidKinds := [.data, .data], laidTests := true, laidLooks := .later }
def DigestStreamUptoCardSaid : Prop := Claim7.holds Tryd.pinned (.plain (OpenSpec.upto digestStreamSpec)) digestStreamUptoCard

/-- THE SECOND FORM's CARD OF 'satchellaw2.DigestMany'. -/
def digestManyUptoCard : Claim7 := { stood := { row := digestManyUptoRow, standIns := [], harness := (true, "a8afddaa2efb01044d43253400472cf749c3be7cc91fffff1322d27f815bc6ae"), looks := false }, kinds := [], alts := [], laidByText := true, laidKinds := [.data, .data], laidTests := true, laidLooks := .later }
def DigestManyUptoCardSaid : Prop := Claim7.holds Tryd.pinned (.plain (OpenSpec.upto digestManySpec)) digestManyUptoCard

/-- THE SECOND FORM's CARD OF 'satchellaw2.DigestExact'. -/
def digestExactUptoCard : Claim7 := { stood := { row := digestExactUptoRow, standIns := [], harness := (true, "a8afddaa2efb01044d43253400472cf749c3be7cc91fffff1322d27f815bc6ae"), looks := false }, kinds := [], alts := [], laidByText := true, laidKinds := [.data, .data, .data, .data], laidTests := true, laidLooks := .later }
def DigestExactUptoCardSaid : Prop := Claim7.holds Tryd.pinned (.plain (OpenSpec.upto digestExactSpec)) digestExactUptoCard

/-- THE SECOND FORM's CARD OF 'satchellaw2.DigestKnown'. -/
def digestKnownUptoCard : Claim7 := { stood := { row := digestKnownUptoRow, standIns := [], harness := (true, "a8afddaa2efb01044d43253400472cf749c3be7cc91fffff1322d27f815bc6ae"), looks := false }, kinds := [], alts := [], laidByText := true, laidKinds := [.data, .data], laidTests := true, laidLooks := .later }
def DigestKnownUptoCardSaid : Prop := Claim7.holds Tryd.pinned (.plain (OpenSpec.upto digestKnownSpec)) digestKnownUptoCard

/-- THE SECOND FORM's CARD OF 'satchellaw2.DigestKeyed'. -/
def digestKeyedUptoCard : Claim7 := { stood := { row := digestKeyedUptoRow, standIns := [], harness := (true, "a8afddaa2efb01044d43253400472cf749c3be7cc91fffff1322d27f815bc6ae"), looks := false }, kinds := [], alts := [], laidByText := true, laidKinds := [.data, .data], laidTests := true, laidLooks := .later }
def DigestKeyedUptoCardSaid : Prop := Claim7.holds Tryd.pinned (.plain (OpenSpec.upto digestKeyedSpec)) digestKeyedUptoCard

/-- THE SECOND FORM's CARD OF 'satchellaw2.DigestMatch'. -/
def digestMatchUptoCard : Claim7 := { stood := { row := digestMatchUptoRow, standIns := [], harness := (true, "a8afddaa2efb01044d43253400472cf749c3be7cc91fffff1322d27f815bc6ae"), looks := false }, kinds := [], alts := [], laidByText := true, laidKinds := [.data, .data], laidTests := true, laidLooks := .later }
def DigestMatchUptoCardSaid : Prop := Claim7.holds Tryd.pinned (.plain (OpenSpec.upto digestMatchSpec)) digestMatchUptoCard
end Rows
end Go.Proofs.YtafgeppdchnceaaDoor
