/-
  DERIVED. GIVEN WITH THE SEED: THE CARDS: each row of YtlanabocdoacgaaDoorRows.lean that lists a variable, with what it lists TIED to the program's text (the seventh form; the later family's looks); each row that meets fmt, with fmt's text TOLD by the authors' own Lean function (tested against real Go, not proved from fmt's source: count such statements apart). THE CARD IS WHAT COUNTS. Prove the row's statement (the work); the ties are given (YtlanabocdoacgaaDoorTie.lean); close each card by the builder's one call (the guide's Derived/Test/ToyasCard.lean, 'card_holds'). Laid BY PROGRAM, IN A SANDBOX (cutbox-door.mjs). By AI agents, Wed Nov 11 2026. No macro, syntax, notation, axiom, sorry.
-/
import Derived.Test.YtlanabocdoacgaaDoorRows
import GoSem.ClaimSeven
namespace Go.Proofs.YtlanabocdoacgaaDoor
namespace Rows

/-- THE TIED CARD OF 'satchellaw7.DeltaExact'. -/
def deltaExactCard : Claim7 := { stood := { row := deltaExactRow, standIns := [], harness := (true, "4fe89acaccf202b8c51176cfacfe64604d79d7812ecf32ccd0aeb27b9aa520d9"), looks := false }, kinds := [], alts := [], laidByText := true, laidKinds := [.data], laidTests := true, laidLooks := .later }
def DeltaExactCardSaid : Prop := Claim7.holds Tryd.pinned (.plain (OpenSpec.ofChange deltaExactSpec)) deltaExactCard

/-- THE TIED CARD OF 'satchellaw7.DeltaStrict'. -/
def deltaStrictCard : Claim7 := { stood := { row := deltaStrictRow, standIns := [], harness := (true, "4fe89acaccf202b8c51176cfacfe64604d79d7812ecf32ccd0aeb27b9aa520d9"), looks := false }, kinds := [], alts := [], laidByText := true, laidKinds := [.data], laidTests := true, laidLooks := .later }
def DeltaStrictCardSaid : Prop := Claim7.holds Tryd.pinned (.plain (OpenSpec.ofChange deltaStrictSpec)) deltaStrictCard

/-- THE TIED CARD OF 'satchellaw7.DeltaComposed'. -/
def deltaComposedCard : Claim7 := { stood := { row := deltaComposedRow, standIns := [], harness := (true, "4fe89acaccf202b8c51176cfacfe64604d79d7812ecf32ccd0aeb27b9aa520d9"), looks := false }, kinds := [], alts := [], laidByText := true, laidKinds := [.data], laidTests := true, laidLooks := .later }
def DeltaComposedCardSaid : Prop := Claim7.holds Tryd.pinned (.plain (OpenSpec.ofChange deltaComposedSpec)) deltaComposedCard

/-- THE TIED CARD OF 'satchellaw7.DeltaFresh'. -/
def deltaFreshCard : Claim7 := { stood := { row := deltaFreshRow, standIns := [], harness := (true, "4fe89acaccf202b8c51176cfacfe64604d79d7812ecf32ccd0aeb27b9aa520d9"), looks := false }, kinds := [], alts := [], laidByText := true, laidKinds := [.data], laidTests := true, laidLooks := .later }
def DeltaFreshCardSaid : Prop := Claim7.holds Tryd.pinned (.plain (OpenSpec.ofChange deltaFreshSpec)) deltaFreshCard

/-- THE TIED CARD OF 'satchellaw7.DeltaMade'. -/
def deltaMadeCard : Claim7 := { stood := { row := deltaMadeRow, standIns := [], harness := (true, "4fe89acaccf202b8c51176cfacfe64604d79d7812ecf32ccd0aeb27b9aa520d9"), looks := false }, kinds := [], alts := [], laidByText := true, laidKinds := [.data], laidTests := true, laidLooks := .later }
def DeltaMadeCardSaid : Prop := Claim7.holds Tryd.pinned (.plain (OpenSpec.ofChange deltaMadeSpec)) deltaMadeCard

/-- THE SECOND FORM's CARD OF 'satchellaw7.DeltaExact'. -/
def deltaExactUptoCard : Claim7 := { stood := { row := deltaExactUptoRow, standIns := [], harness := (true, "4fe89acaccf202b8c51176cfacfe64604d79d7812ecf32ccd0aeb27b9aa520d9"), looks := false }, kinds := [], alts := [], laidByText := true, laidKinds := [.data], laidTests := true, laidLooks := .later }
def DeltaExactUptoCardSaid : Prop := Claim7.holds Tryd.pinned (.plain (OpenSpec.upto deltaExactSpec)) deltaExactUptoCard

/-- THE SECOND FORM's CARD OF 'satchellaw7.DeltaStrict'. -/
def deltaStrictUptoCard : Claim7 := { stood := { row := deltaStrictUptoRow, standIns := [], harness := (true, "4fe89acaccf202b8c51176cfacfe64604d79d7812ecf32ccd0aeb27b9aa520d9"), looks := false }, kinds := [], alts := [], laidByText := true, laidKinds := [.data], laidTests := true, laidLooks := .later }
def DeltaStrictUptoCardSaid : Prop := Claim7.holds Tryd.pinned (.plain (OpenSpec.upto deltaStrictSpec)) deltaStrictUptoCard

/-- THE SECOND FORM's CARD OF 'satchellaw7.DeltaComposed'. -/
def deltaComposedUptoCard : Claim7 := { stood := { row := deltaComposedUptoRow, standIns := [], harness := (true, "4fe89acaccf202b8c51176cfacfe64604d79d7812ecf32ccd0aeb27b9aa520d9"), looks := false }, kinds := [], alts := [], laidByText := true, laidKinds := [.data], laidTests := true, laidLooks := .later }
def DeltaComposedUptoCardSaid : Prop := Claim7.holds Tryd.pinned (.plain (OpenSpec.upto deltaComposedSpec)) deltaComposedUptoCard

/-- THE SECOND FORM's CARD OF 'satchellaw7.DeltaFresh'. -/
def deltaFreshUptoCard : Claim7 := { stood := { row := deltaFreshUptoRow, standIns := [], harness := (true, "4fe89acaccf202b8c51176cfacfe64604d79d7812ecf32ccd0aeb27b9aa520d9"), looks := false }, kinds := [], alts := [], laidByText := true, laidKinds := [.data], laidTests := true, laidLooks := .later }
def DeltaFreshUptoCardSaid : Prop := Claim7.holds Tryd.pinned (.plain (OpenSpec.upto deltaFreshSpec)) deltaFreshUptoCard

/-- THE SECOND FORM's CARD OF 'satchellaw7.DeltaMade'. -/
def deltaMadeUptoCard : Claim7 := { stood := { row := deltaMadeUptoRow, standIns := [], harness := (true, "4fe89acaccf202b8c51176cfacfe64604d79d7812ecf32ccd0aeb27b9aa520d9"), looks := false }, kinds := [], alts := [], laidByText := true, laidKinds := [.data], laidTests := true, laidLooks := .later }
def DeltaMadeUptoCardSaid : Prop := Claim7.holds Tryd.pinned (.plain (OpenSpec.upto deltaMadeSpec)) deltaMadeUptoCard
end Rows
end Go.Proofs.YtlanabocdoacgaaDoor
