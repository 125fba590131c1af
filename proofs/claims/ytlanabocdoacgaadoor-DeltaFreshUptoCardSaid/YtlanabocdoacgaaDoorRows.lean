/-
  NARROWER THAN 'FOR EVERY INPUT', by the rows' own cells (each row's printed sentence says how): DeltaExact: laid · DeltaStrict: laid · DeltaComposed: laid · DeltaFresh: laid · DeltaMade: laid.
  DERIVED. THE GIVEN ROWS OF THIS SEAT. 5 by the template 'for every input the law returns true; each argument reads behind the call as it read before'; 0 by the template 'total and deterministic' (their statements: YtlanabocdoacgaaDoorTotals.lean).
  GIVEN WITH THE SEED: the statements are not yours to turn. If you find one false, say at which input.
  Laid BY PROGRAM, IN A SANDBOX (cutbox-rows.mjs): the forced cells as the released guide's own fill.sh prints them over the translation 29e3269de04804a8… (all of the seat's roots in one cut). By AI agents, Wed Nov 11 2026. No macro, syntax, notation, axiom, sorry.
-/
import Derived.Test.YtlanabocdoacgaaDoorChecked
import GoSem.Claim
import GoSem.ClaimJoined
import GoSem.ClaimMapViews
import Derived.JoinedTies
import Derived.KernelRfl
namespace Go.Proofs.YtlanabocdoacgaaDoor
/- THE CELL 'sum', in the pinned program and in every row, IS THE sha256 OF THE DUMP (.gsa) THAT YtlanabocdoacgaaDoorProg.lean LOADS. Nothing in Lean hashes anything: it is a label: what it is worth is what the hold of that sum in a sandbox is worth. -/
noncomputable def Tryd.pinned : Pinned := { name := "ytlanabocdoacgaadoor", sum := "29e3269de04804a825d6022e4d358a2abdd1335e4b5423559a0a474c2b99206b", checked := Tryd.checked }
namespace Rows
def none {H : Type} : Left H := { results := [], args := [] }

/- WHAT THE LISTED PACKAGE-LEVEL VARIABLES READ AS WHEN THE CALL BEGINS. Each datum BY PROGRAM (the guide's laid-datum.mjs) off the statement by which the dump's own 'gosem.cut.vars' lays the variable. In a bare row this is a premise. The card (YtlanabocdoacgaaDoorCards.lean) ties it to the program's text. -/
def laid_satchel_code_errnos {H : Type} : DataW H := .agg [.lit (.int .i64 0), .lit (.int .i64 10), .lit (.int .i64 11), .lit (.int .i64 12), .lit (.int .i64 14)]

/-- 'satchellaw7.DeltaExact': WHATEVER THE INPUT: true; the input reads as it did. -/
def deltaExactSpec : ChangeSpec := { name := "deltaExact", fn := fun _ => fun
  | [d] => { results := [.lit (.bool true)], args := [d] }
  | _ => none }
def deltaExactRow : OpenClaim := { program := "ytlanabocdoacgaadoor", sum := "29e3269de04804a825d6022e4d358a2abdd1335e4b5423559a0a474c2b99206b", func := "satchel/satchellaw7.DeltaExact", spec := "deltaExact", recurses := true, named := ["satchel/code.errnos"], plainKeys := false, apart := false, laid := [("satchel/code.errnos", laid_satchel_code_errnos)] }
def DeltaExactSaid : Prop := deltaExactRow.holds Tryd.pinned (OpenSpec.ofChange deltaExactSpec)

/-- ITS FALSE NEIGHBOUR: 'it returns false'. Refute it at one input. -/
def deltaExactWrong : ChangeSpec := { name := "deltaExact", fn := fun _ => fun
  | [d] => { results := [.lit (.bool false)], args := [d] }
  | _ => none }
def DeltaExactWrongFalsely : Prop := deltaExactRow.holds Tryd.pinned (OpenSpec.ofChange deltaExactWrong)

/-- 'satchellaw7.DeltaStrict': WHATEVER THE INPUT: true; the input reads as it did. -/
def deltaStrictSpec : ChangeSpec := { name := "deltaStrict", fn := fun _ => fun
  | [d] => { results := [.lit (.bool true)], args := [d] }
  | _ => none }
def deltaStrictRow : OpenClaim := { program := "ytlanabocdoacgaadoor", sum := "29e3269de04804a825d6022e4d358a2abdd1335e4b5423559a0a474c2b99206b", func := "satchel/satchellaw7.DeltaStrict", spec := "deltaStrict", named := ["satchel/code.errnos"], plainKeys := false, apart := false, laid := [("satchel/code.errnos", laid_satchel_code_errnos)] }
def DeltaStrictSaid : Prop := deltaStrictRow.holds Tryd.pinned (OpenSpec.ofChange deltaStrictSpec)

/-- ITS FALSE NEIGHBOUR: 'it returns false'. Refute it at one input. -/
def deltaStrictWrong : ChangeSpec := { name := "deltaStrict", fn := fun _ => fun
  | [d] => { results := [.lit (.bool false)], args := [d] }
  | _ => none }
def DeltaStrictWrongFalsely : Prop := deltaStrictRow.holds Tryd.pinned (OpenSpec.ofChange deltaStrictWrong)

/-- 'satchellaw7.DeltaComposed': WHATEVER THE INPUT: true; the input reads as it did. -/
def deltaComposedSpec : ChangeSpec := { name := "deltaComposed", fn := fun _ => fun
  | [d] => { results := [.lit (.bool true)], args := [d] }
  | _ => none }
def deltaComposedRow : OpenClaim := { program := "ytlanabocdoacgaadoor", sum := "29e3269de04804a825d6022e4d358a2abdd1335e4b5423559a0a474c2b99206b", func := "satchel/satchellaw7.DeltaComposed", spec := "deltaComposed", named := ["satchel/code.errnos"], plainKeys := false, apart := false, laid := [("satchel/code.errnos", laid_satchel_code_errnos)] }
def DeltaComposedSaid : Prop := deltaComposedRow.holds Tryd.pinned (OpenSpec.ofChange deltaComposedSpec)

/-- ITS FALSE NEIGHBOUR: 'it returns false'. Refute it at one input. -/
def deltaComposedWrong : ChangeSpec := { name := "deltaComposed", fn := fun _ => fun
  | [d] => { results := [.lit (.bool false)], args := [d] }
  | _ => none }
def DeltaComposedWrongFalsely : Prop := deltaComposedRow.holds Tryd.pinned (OpenSpec.ofChange deltaComposedWrong)

/-- 'satchellaw7.DeltaFresh': WHATEVER THE INPUT: true; the input reads as it did. -/
def deltaFreshSpec : ChangeSpec := { name := "deltaFresh", fn := fun _ => fun
  | [d] => { results := [.lit (.bool true)], args := [d] }
  | _ => none }
def deltaFreshRow : OpenClaim := { program := "ytlanabocdoacgaadoor", sum := "29e3269de04804a825d6022e4d358a2abdd1335e4b5423559a0a474c2b99206b", func := "satchel/satchellaw7.DeltaFresh", spec := "deltaFresh", named := ["satchel/code.errnos"], plainKeys := false, apart := false, laid := [("satchel/code.errnos", laid_satchel_code_errnos)] }
def DeltaFreshSaid : Prop := deltaFreshRow.holds Tryd.pinned (OpenSpec.ofChange deltaFreshSpec)

/-- ITS FALSE NEIGHBOUR: 'it returns false'. Refute it at one input. -/
def deltaFreshWrong : ChangeSpec := { name := "deltaFresh", fn := fun _ => fun
  | [d] => { results := [.lit (.bool false)], args := [d] }
  | _ => none }
def DeltaFreshWrongFalsely : Prop := deltaFreshRow.holds Tryd.pinned (OpenSpec.ofChange deltaFreshWrong)

/-- 'satchellaw7.DeltaMade': WHATEVER THE INPUT: true; the input reads as it did. -/
def deltaMadeSpec : ChangeSpec := { name := "deltaMade", fn := fun _ => fun
  | [d] => { results := [.lit (.bool true)], args := [d] }
  | _ => none }
def deltaMadeRow : OpenClaim := { program := "ytlanabocdoacgaadoor", sum := "29e3269de04804a825d6022e4d358a2abdd1335e4b5423559a0a474c2b99206b", func := "satchel/satchellaw7.DeltaMade", spec := "deltaMade", named := ["satchel/code.errnos"], plainKeys := false, apart := false, laid := [("satchel/code.errnos", laid_satchel_code_errnos)] }
def DeltaMadeSaid : Prop := deltaMadeRow.holds Tryd.pinned (OpenSpec.ofChange deltaMadeSpec)

/-- ITS FALSE NEIGHBOUR: 'it returns false'. Refute it at one input. -/
def deltaMadeWrong : ChangeSpec := { name := "deltaMade", fn := fun _ => fun
  | [d] => { results := [.lit (.bool false)], args := [d] }
  | _ => none }
def DeltaMadeWrongFalsely : Prop := deltaMadeRow.holds Tryd.pinned (OpenSpec.ofChange deltaMadeWrong)

/- THE SECOND FORM. 'bulk': how many values and letters a reading holds, each counted each time it is reached (what is shared counts as often as it is met; a slice's spare places count too). A statement '..UptoSaid' is the law's where the arguments, and the package variables that the reading takes, are together of bulk at most 1048576: NARROWER than '..Said'. Prove '..Said' where nothing that the law and all that it calls make is longer than what came in: it says more and counts as full. Else prove '..UptoSaid'. A law counts once. -/
mutual
def uptoBulk {H : Type} : DataW H → Nat
  | .lit (.string bytes) => bytes.length + 1
  | .lit _ => 1
  | .nil => 1
  | .ptr d => uptoBulk d + 1
  | .slice elems spare => uptoBulkAll elems + uptoBulkAll spare + 1
  | .agg parts => uptoBulkAll parts + 1
  | .iface _ d => uptoBulk d + 1
  | .map entries => uptoBulkEntries entries + 1
  | .held _ => 1
def uptoBulkAll {H : Type} : List (DataW H) → Nat
  | [] => 0
  | d :: r => uptoBulk d + uptoBulkAll r
def uptoBulkEntries {H : Type} : List (Lit × DataW H) → Nat
  | [] => 0
  | x :: r => uptoBulkEntry x + uptoBulkEntries r
def uptoBulkEntry {H : Type} : Lit × DataW H → Nat
  | (.string bytes, d) => bytes.length + uptoBulk d + 1
  | (_, d) => uptoBulk d + 1
 end
def uptoSmall : (H : Type) → List (DataW H) → Bool := fun _ ds => decide (uptoBulkAll ds ≤ 1048576)
def OpenSpec.upto (s : _root_.Go.ChangeSpec) : _root_.Go.OpenSpec := { _root_.Go.OpenSpec.ofChange s with cond := some uptoSmall }

/-- 'satchellaw7.DeltaExact', WHERE WHAT IT READS IS OF BULK AT MOST 1048576: true; the input reads as it did. -/
def deltaExactUptoRow : OpenClaim := { program := "ytlanabocdoacgaadoor", sum := "29e3269de04804a825d6022e4d358a2abdd1335e4b5423559a0a474c2b99206b", func := "satchel/satchellaw7.DeltaExact", spec := "deltaExact", recurses := true, named := ["satchel/code.errnos"], plainKeys := false, apart := false, laid := [("satchel/code.errnos", laid_satchel_code_errnos)], narrowed := true }
def DeltaExactUptoSaid : Prop := deltaExactUptoRow.holds Tryd.pinned (OpenSpec.upto deltaExactSpec)

/-- 'satchellaw7.DeltaStrict', WHERE WHAT IT READS IS OF BULK AT MOST 1048576: true; the input reads as it did. -/
def deltaStrictUptoRow : OpenClaim := { program := "ytlanabocdoacgaadoor", sum := "29e3269de04804a825d6022e4d358a2abdd1335e4b5423559a0a474c2b99206b", func := "satchel/satchellaw7.DeltaStrict", spec := "deltaStrict", named := ["satchel/code.errnos"], plainKeys := false, apart := false, laid := [("satchel/code.errnos", laid_satchel_code_errnos)], narrowed := true }
def DeltaStrictUptoSaid : Prop := deltaStrictUptoRow.holds Tryd.pinned (OpenSpec.upto deltaStrictSpec)

/-- 'satchellaw7.DeltaComposed', WHERE WHAT IT READS IS OF BULK AT MOST 1048576: true; the input reads as it did. -/
def deltaComposedUptoRow : OpenClaim := { program := "ytlanabocdoacgaadoor", sum := "29e3269de04804a825d6022e4d358a2abdd1335e4b5423559a0a474c2b99206b", func := "satchel/satchellaw7.DeltaComposed", spec := "deltaComposed", named := ["satchel/code.errnos"], plainKeys := false, apart := false, laid := [("satchel/code.errnos", laid_satchel_code_errnos)], narrowed := true }
def DeltaComposedUptoSaid : Prop := deltaComposedUptoRow.holds Tryd.pinned (OpenSpec.upto deltaComposedSpec)

/-- 'satchellaw7.DeltaFresh', WHERE WHAT IT READS IS OF BULK AT MOST 1048576: true; the input reads as it did. -/
def deltaFreshUptoRow : OpenClaim := { program := "ytlanabocdoacgaadoor", sum := "29e3269de04804a825d6022e4d358a2abdd1335e4b5423559a0a474c2b99206b", func := "satchel/satchellaw7.DeltaFresh", spec := "deltaFresh", named := ["satchel/code.errnos"], plainKeys := false, apart := false, laid := [("satchel/code.errnos", laid_satchel_code_errnos)], narrowed := true }
def DeltaFreshUptoSaid : Prop := deltaFreshUptoRow.holds Tryd.pinned (OpenSpec.upto deltaFreshSpec)

/-- 'satchellaw7.DeltaMade', WHERE WHAT IT READS IS OF BULK AT MOST 1048576: true; the input reads as it did. -/
def deltaMadeUptoRow : OpenClaim := { program := "ytlanabocdoacgaadoor", sum := "29e3269de04804a825d6022e4d358a2abdd1335e4b5423559a0a474c2b99206b", func := "satchel/satchellaw7.DeltaMade", spec := "deltaMade", named := ["satchel/code.errnos"], plainKeys := false, apart := false, laid := [("satchel/code.errnos", laid_satchel_code_errnos)], narrowed := true }
def DeltaMadeUptoSaid : Prop := deltaMadeUptoRow.holds Tryd.pinned (OpenSpec.upto deltaMadeSpec)

end Rows
end Go.Proofs.YtlanabocdoacgaaDoor
