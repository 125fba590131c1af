/-
  NARROWER THAN 'FOR EVERY INPUT', by the rows' own cells (each row's printed sentence says how): DigestStream: laid · DigestMany: laid · DigestExact: laid · DigestKnown: laid · DigestKeyed: laid · DigestMatch: laid.
  DERIVED. THE GIVEN ROWS OF THIS SEAT. 6 by the template 'for every input the law returns true; each argument reads behind the call as it read before'; 0 by the template 'total and deterministic' (their statements: YtafgeppdchnceaaDoorTotals.lean).
  GIVEN WITH THE SEED: the statements are not yours to turn. If you find one false, say at which input.
  Laid BY PROGRAM, IN A SANDBOX (cutbox-rows.mjs): the forced cells as the released guide's own fill.sh prints them over the translation 5db66cc88bf83e3c… (all of the seat's roots in one cut). By AI agents, Wed Nov 11 2026. No macro, syntax, notation, axiom, sorry.
-/
import Derived.Test.YtafgeppdchnceaaDoorChecked
import GoSem.Claim
import GoSem.ClaimJoined
import GoSem.ClaimMapViews
import Derived.JoinedTies
import Derived.KernelRfl
namespace Go.Proofs.YtafgeppdchnceaaDoor
/- THE CELL 'sum', in the pinned program and in every row, IS THE sha256 OF THE DUMP (.gsa) THAT YtafgeppdchnceaaDoorProg.lean LOADS. Nothing in Lean hashes anything: it is a label: what it is worth is what the hold of that sum in a sandbox is worth. -/
noncomputable def Tryd.pinned : Pinned := { name := "ytafgeppdchnceaadoor", sum := "5db66cc88bf83e3c0cb9c667efce4f1fe6578c7b5d22509c402f67f4931507bd", checked := Tryd.checked }
namespace Rows
def none {H : Type} : Left H := { results := [], args := [] }

/- WHAT THE LISTED PACKAGE-LEVEL VARIABLES READ AS WHEN THE CALL BEGINS. Each datum BY PROGRAM (the guide's laid-datum.mjs) off the statement by which the dump's own 'gosem.cut.vars' lays the variable. In a bare row this is a premise. The card (YtafgeppdchnceaaDoorCards.lean) ties it to the program's text. -/
def laid_satchel_digest_begin {H : Type} : DataW H := .agg [.lit (.int .u32 1779033703), .lit (.int .u32 3144134277), .lit (.int .u32 1013904242), .lit (.int .u32 2773480762), .lit (.int .u32 1359893119), .lit (.int .u32 2600822924), .lit (.int .u32 528734635), .lit (.int .u32 1541459225)]
def laid_satchel_digest_rounds {H : Type} : DataW H := .agg [.lit (.int .u32 1116352408), .lit (.int .u32 1899447441), .lit (.int .u32 3049323471), .lit (.int .u32 3921009573), .lit (.int .u32 961987163), .lit (.int .u32 1508970993), .lit (.int .u32 2453635748), .lit (.int .u32 2870763221), .lit (.int .u32 3624381080), .lit (.int .u32 310598401), .lit (.int .u32 607225278), .lit (.int .u32 1426881987), .lit (.int .u32 1925078388), .lit (.int .u32 2162078206), .lit (.int .u32 2614888103), .lit (.int .u32 3248222580), .lit (.int .u32 3835390401), .lit (.int .u32 4022224774), .lit (.int .u32 264347078), .lit (.int .u32 604807628), .lit (.int .u32 770255983), .lit (.int .u32 1249150122), .lit (.int .u32 1555081692), .lit (.int .u32 1996064986), .lit (.int .u32 2554220882), .lit (.int .u32 2821834349), .lit (.int .u32 2952996808), .lit (.int .u32 3210313671), .lit (.int .u32 3336571891), .lit (.int .u32 3584528711), .lit (.int .u32 113926993), .lit (.int .u32 338241895), .lit (.int .u32 666307205), .lit (.int .u32 773529912), .lit (.int .u32 1294757372), .lit (.int .u32 1396182291), .lit (.int .u32 1695183700), .lit (.int .u32 1986661051), .lit (.int .u32 2177026350), .lit (.int .u32 2456956037), .lit (.int .u32 2730485921), .lit (.int .u32 2820302411), .lit (.int .u32 3259730800), .lit (.int .u32 3345764771), .lit (.int .u32 3516065817), .lit (.int .u32 3600352804), .lit (.int .u32 4094571909), .lit (.int .u32 275423344), .lit (.int .u32 430227734), .lit (.int .u32 506948616), .lit (.int .u32 659060556), .lit (.int .u32 883997877), .lit (.int .u32 958139571), .lit (.int .u32 1322822218), .lit (.int .u32 1537002063), .lit (.int .u32 1747873779), .lit (.int .u32 1955562222), .lit (.int .u32 2024104815), .lit (.int .u32 2227730452), .lit (.int .u32 2361852424), .lit (.int .u32 2428436474), .lit (.int .u32 2756734187), .lit (.int .u32 3204031479), .lit (.int .u32 3329325298)]
def laid_satchel_satchelref2_H {H : Type} : DataW H := .agg [.lit (.int .u64 1779033703), .lit (.int .u64 3144134277), .lit (.int .u64 1013904242), .lit (.int .u64 2773480762), .lit (.int .u64 1359893119), .lit (.int .u64 2600822924), .lit (.int .u64 528734635), .lit (.int .u64 1541459225)]
def laid_satchel_satchelref2_K {H : Type} : DataW H := .agg [.lit (.int .u64 1116352408), .lit (.int .u64 1899447441), .lit (.int .u64 3049323471), .lit (.int .u64 3921009573), .lit (.int .u64 961987163), .lit (.int .u64 1508970993), .lit (.int .u64 2453635748), .lit (.int .u64 2870763221), .lit (.int .u64 3624381080), .lit (.int .u64 310598401), .lit (.int .u64 607225278), .lit (.int .u64 1426881987), .lit (.int .u64 1925078388), .lit (.int .u64 2162078206), .lit (.int .u64 2614888103), .lit (.int .u64 3248222580), .lit (.int .u64 3835390401), .lit (.int .u64 4022224774), .lit (.int .u64 264347078), .lit (.int .u64 604807628), .lit (.int .u64 770255983), .lit (.int .u64 1249150122), .lit (.int .u64 1555081692), .lit (.int .u64 1996064986), .lit (.int .u64 2554220882), .lit (.int .u64 2821834349), .lit (.int .u64 2952996808), .lit (.int .u64 3210313671), .lit (.int .u64 3336571891), .lit (.int .u64 3584528711), .lit (.int .u64 113926993), .lit (.int .u64 338241895), .lit (.int .u64 666307205), .lit (.int .u64 773529912), .lit (.int .u64 1294757372), .lit (.int .u64 1396182291), .lit (.int .u64 1695183700), .lit (.int .u64 1986661051), .lit (.int .u64 2177026350), .lit (.int .u64 2456956037), .lit (.int .u64 2730485921), .lit (.int .u64 2820302411), .lit (.int .u64 3259730800), .lit (.int .u64 3345764771), .lit (.int .u64 3516065817), .lit (.int .u64 3600352804), .lit (.int .u64 4094571909), .lit (.int .u64 275423344), .lit (.int .u64 430227734), .lit (.int .u64 506948616), .lit (.int .u64 659060556), .lit (.int .u64 883997877), .lit (.int .u64 958139571), .lit (.int .u64 1322822218), .lit (.int .u64 1537002063), .lit (.int .u64 1747873779), .lit (.int .u64 1955562222), .lit (.int .u64 2024104815), .lit (.int .u64 2227730452), .lit (.int .u64 2361852424), .lit (.int .u64 2428436474), .lit (.int .u64 2756734187), .lit (.int .u64 3204031479), .lit (.int .u64 3329325298)]

/-- 'satchellaw2.DigestStream': WHATEVER THE INPUT: true; the input reads as it did. -/
def digestStreamSpec : ChangeSpec := { name := "digestStream", fn := fun _ => fun
  | [d] => { results := [.lit (.bool true)], args := [d] }
  | _ => none }
def digestStreamRow : OpenClaim := { program := "ytafgeppdchnceaadoor", sum := "5db66cc88bf83e3c0cb9c667efce4f1fe6578c7b5d22509c402f67f4931507bd", func := "satchel/satchellaw2.DigestStream", spec := "digestStream", named := ["satchel/digest.begin", "satchel/digest.rounds"], apart := false, laid := [("satchel/digest.begin", laid_satchel_digest_begin), ("satchel/digest.rounds", laid_satchel_digest_rounds)] }
def DigestStreamSaid : Prop := digestStreamRow.holds Tryd.pinned (OpenSpec.ofChange digestStreamSpec)

/-- ITS FALSE NEIGHBOUR: 'it returns false'. Refute it at one input. -/
def digestStreamWrong : ChangeSpec := { name := "digestStream", fn := fun _ => fun
  | [d] => { results := [.lit (.bool false)], args := [d] }
  | _ => none }
def DigestStreamWrongFalsely : Prop := digestStreamRow.holds Tryd.pinned (OpenSpec.ofChange digestStreamWrong)

/-- 'satchellaw2.DigestMany': WHATEVER THE INPUT: true; the input reads as it did. -/
def digestManySpec : ChangeSpec := { name := "digestMany", fn := fun _ => fun
  | [d] => { results := [.lit (.bool true)], args := [d] }
  | _ => none }
def digestManyRow : OpenClaim := { program := "ytafgeppdchnceaadoor", sum := "5db66cc88bf83e3c0cb9c667efce4f1fe6578c7b5d22509c402f67f4931507bd", func := "satchel/satchellaw2.DigestMany", spec := "digestMany", named := ["satchel/digest.begin", "satchel/digest.rounds"], apart := false, laid := [("satchel/digest.begin", laid_satchel_digest_begin), ("satchel/digest.rounds", laid_satchel_digest_rounds)] }
def DigestManySaid : Prop := digestManyRow.holds Tryd.pinned (OpenSpec.ofChange digestManySpec)

/-- ITS FALSE NEIGHBOUR: 'it returns false'. Refute it at one input. -/
def digestManyWrong : ChangeSpec := { name := "digestMany", fn := fun _ => fun
  | [d] => { results := [.lit (.bool false)], args := [d] }
  | _ => none }
def DigestManyWrongFalsely : Prop := digestManyRow.holds Tryd.pinned (OpenSpec.ofChange digestManyWrong)

/-- 'satchellaw2.DigestExact': WHATEVER THE INPUT: true; the input reads as it did. -/
def digestExactSpec : ChangeSpec := { name := "digestExact", fn := fun _ => fun
  | [d] => { results := [.lit (.bool true)], args := [d] }
  | _ => none }
def digestExactRow : OpenClaim := { program := "ytafgeppdchnceaadoor", sum := "5db66cc88bf83e3c0cb9c667efce4f1fe6578c7b5d22509c402f67f4931507bd", func := "satchel/satchellaw2.DigestExact", spec := "digestExact", named := ["satchel/digest.begin", "satchel/digest.rounds", "satchel/satchelref2.H", "satchel/satchelref2.K"], apart := false, laid := [("satchel/satchelref2.H", laid_satchel_satchelref2_H), ("satchel/satchelref2.K", laid_satchel_satchelref2_K), ("satchel/digest.begin", laid_satchel_digest_begin), ("satchel/digest.rounds", laid_satchel_digest_rounds)] }
def DigestExactSaid : Prop := digestExactRow.holds Tryd.pinned (OpenSpec.ofChange digestExactSpec)

/-- ITS FALSE NEIGHBOUR: 'it returns false'. Refute it at one input. -/
def digestExactWrong : ChangeSpec := { name := "digestExact", fn := fun _ => fun
  | [d] => { results := [.lit (.bool false)], args := [d] }
  | _ => none }
def DigestExactWrongFalsely : Prop := digestExactRow.holds Tryd.pinned (OpenSpec.ofChange digestExactWrong)

/-- 'satchellaw2.DigestKnown': WHATEVER THE INPUT: true; the input reads as it did. -/
def digestKnownSpec : ChangeSpec := { name := "digestKnown", fn := fun _ => fun
  | [] => { results := [.lit (.bool true)], args := [] }
  | _ => none }
def digestKnownRow : OpenClaim := { program := "ytafgeppdchnceaadoor", sum := "5db66cc88bf83e3c0cb9c667efce4f1fe6578c7b5d22509c402f67f4931507bd", func := "satchel/satchellaw2.DigestKnown", spec := "digestKnown", named := ["satchel/digest.begin", "satchel/digest.rounds"], apart := false, laid := [("satchel/digest.begin", laid_satchel_digest_begin), ("satchel/digest.rounds", laid_satchel_digest_rounds)] }
def DigestKnownSaid : Prop := digestKnownRow.holds Tryd.pinned (OpenSpec.ofChange digestKnownSpec)

/-- ITS FALSE NEIGHBOUR: 'it returns false'. Refute it at one input. -/
def digestKnownWrong : ChangeSpec := { name := "digestKnown", fn := fun _ => fun
  | [] => { results := [.lit (.bool false)], args := [] }
  | _ => none }
def DigestKnownWrongFalsely : Prop := digestKnownRow.holds Tryd.pinned (OpenSpec.ofChange digestKnownWrong)

/-- 'satchellaw2.DigestKeyed': WHATEVER THE INPUT: true; the input reads as it did. -/
def digestKeyedSpec : ChangeSpec := { name := "digestKeyed", fn := fun _ => fun
  | [d] => { results := [.lit (.bool true)], args := [d] }
  | _ => none }
def digestKeyedRow : OpenClaim := { program := "ytafgeppdchnceaadoor", sum := "5db66cc88bf83e3c0cb9c667efce4f1fe6578c7b5d22509c402f67f4931507bd", func := "satchel/satchellaw2.DigestKeyed", spec := "digestKeyed", named := ["satchel/digest.begin", "satchel/digest.rounds"], apart := false, laid := [("satchel/digest.begin", laid_satchel_digest_begin), ("satchel/digest.rounds", laid_satchel_digest_rounds)] }
def DigestKeyedSaid : Prop := digestKeyedRow.holds Tryd.pinned (OpenSpec.ofChange digestKeyedSpec)

/-- ITS FALSE NEIGHBOUR: 'it returns false'. Refute it at one input. -/
def digestKeyedWrong : ChangeSpec := { name := "digestKeyed", fn := fun _ => fun
  | [d] => { results := [.lit (.bool false)], args := [d] }
  | _ => none }
def DigestKeyedWrongFalsely : Prop := digestKeyedRow.holds Tryd.pinned (OpenSpec.ofChange digestKeyedWrong)

/-- 'satchellaw2.DigestMatch': WHATEVER THE INPUT: true; the input reads as it did. -/
def digestMatchSpec : ChangeSpec := { name := "digestMatch", fn := fun _ => fun
  | [d] => { results := [.lit (.bool true)], args := [d] }
  | _ => none }
def digestMatchRow : OpenClaim := { program := "ytafgeppdchnceaadoor", sum := "5db66cc88bf83e3c0cb9c667efce4f1fe6578c7b5d22509c402f67f4931507bd", func := "satchel/satchellaw2.DigestMatch", spec := "digestMatch", inPlace := ["internal/bytealg.IndexByteString", "internal/bytealg.Compare"], unfollowed := true, recurses := true, named := ["satchel/digest.begin", "satchel/digest.rounds"], apart := false, laid := [("satchel/digest.begin", laid_satchel_digest_begin), ("satchel/digest.rounds", laid_satchel_digest_rounds)] }
def DigestMatchSaid : Prop := digestMatchRow.holds Tryd.pinned (OpenSpec.ofChange digestMatchSpec)

/-- ITS FALSE NEIGHBOUR: 'it returns false'. Refute it at one input. -/
def digestMatchWrong : ChangeSpec := { name := "digestMatch", fn := fun _ => fun
  | [d] => { results := [.lit (.bool false)], args := [d] }
  | _ => none }
def DigestMatchWrongFalsely : Prop := digestMatchRow.holds Tryd.pinned (OpenSpec.ofChange digestMatchWrong)

/- THE SECOND FORM. 'bulk': how many values and letters a reading holds, each counted each time it is reached (what is shared counts as often as it is met; a slice's spare places count too). A statement '..UptoSaid' is the law's where the arguments, and the package variables that the reading takes, are together of bulk at most 1048576: NARROWER than '..Said'. Prove '..Said' where nothing that the law and all that it calls make is longer than what came in: it says more and counts as full. Else prove '..UptoSaid'. A law counts once. -/
mutual
def uptoBulk {H : Type} : DataW H → Nat
  | .lit (.string bytes) => bytes.length + 1
  | .lit _ => 1
  | .nil => 1
  | .ptr d => uptoBulk d + 1
  | .slice elems spare => uptoBulkAll elems + uptoBulkAll spare + 1
  | .agg parts => uptoBulkAll parts + 1
  | .iface _ d => uptoBulk d + 1
  | .map entries => uptoBulkEntries entries + 1
  | .held _ => 1
def uptoBulkAll {H : Type} : List (DataW H) → Nat
  | [] => 0
  | d :: r => uptoBulk d + uptoBulkAll r
def uptoBulkEntries {H : Type} : List (Lit × DataW H) → Nat
  | [] => 0
  | x :: r => uptoBulkEntry x + uptoBulkEntries r
def uptoBulkEntry {H : Type} : Lit × DataW H → Nat
  | (.string bytes, d) => bytes.length + uptoBulk d + 1
  | (_, d) => uptoBulk d + 1
 end
def uptoSmall : (H : Type) → List (DataW H) → Bool := fun _ ds => decide (uptoBulkAll ds ≤ 1048576)
def OpenSpec.upto (s : _root_.Go.ChangeSpec) : _root_.Go.OpenSpec := { _root_.Go.OpenSpec.ofChange s with cond := some uptoSmall }

/-- 'satchellaw2.DigestStream', WHERE WHAT IT READS IS OF BULK AT MOST 1048576: true; the input reads as it did. -/
def digestStreamUptoRow : OpenClaim := { program := "ytafgeppdchnceaadoor", sum := "5db66cc88bf83e3c0cb9c667efce4f1fe6578c7b5d22509c402f67f4931507bd", func := "satchel/satchellaw2.DigestStream", spec := "digestStream", named := ["satchel/digest.begin", "satchel/digest.rounds"], apart := false, laid := [("satchel/digest.begin", laid_satchel_digest_begin), ("satchel/digest.rounds", laid_satchel_digest_rounds)], narrowed := true }
def DigestStreamUptoSaid : Prop := digestStreamUptoRow.holds Tryd.pinned (OpenSpec.upto digestStreamSpec)

/-- 'satchellaw2.DigestMany', WHERE WHAT IT READS IS OF BULK AT MOST 1048576: true; the input reads as it did. -/
def digestManyUptoRow : OpenClaim := { program := "ytafgeppdchnceaadoor", sum := "5db66cc88bf83e3c0cb9c667efce4f1fe6578c7b5d22509c402f67f4931507bd", func := "satchel/satchellaw2.DigestMany", spec := "digestMany", named := ["satchel/digest.begin", "satchel/digest.rounds"], apart := false, laid := [("satchel/digest.begin", laid_satchel_digest_begin), ("satchel/digest.rounds", laid_satchel_digest_rounds)], narrowed := true }
def DigestManyUptoSaid : Prop := digestManyUptoRow.holds Tryd.pinned (OpenSpec.upto digestManySpec)

/-- 'satchellaw2.DigestExact', WHERE WHAT IT READS IS OF BULK AT MOST 1048576: true; the input reads as it did. -/
def digestExactUptoRow : OpenClaim := { program := "ytafgeppdchnceaadoor", sum := "5db66cc88bf83e3c0cb9c667efce4f1fe6578c7b5d22509c402f67f4931507bd", func := "satchel/satchellaw2.DigestExact", spec := "digestExact", named := ["satchel/digest.begin", "satchel/digest.rounds", "satchel/satchelref2.H", "satchel/satchelref2.K"], apart := false, laid := [("satchel/satchelref2.H", laid_satchel_satchelref2_H), ("satchel/satchelref2.K", laid_satchel_satchelref2_K), ("satchel/digest.begin", laid_satchel_digest_begin), ("satchel/digest.rounds", laid_satchel_digest_rounds)], narrowed := true }
def DigestExactUptoSaid : Prop := digestExactUptoRow.holds Tryd.pinned (OpenSpec.upto digestExactSpec)

/-- 'satchellaw2.DigestKnown', WHERE WHAT IT READS IS OF BULK AT MOST 1048576: true; the input reads as it did. -/
def digestKnownUptoRow : OpenClaim := { program := "ytafgeppdchnceaadoor", sum := "5db66cc88bf83e3c0cb9c667efce4f1fe6578c7b5d22509c402f67f4931507bd", func := "satchel/satchellaw2.DigestKnown", spec := "digestKnown", named := ["satchel/digest.begin", "satchel/digest.rounds"], apart := false, laid := [("satchel/digest.begin", laid_satchel_digest_begin), ("satchel/digest.rounds", laid_satchel_digest_rounds)], narrowed := true }
def DigestKnownUptoSaid : Prop := digestKnownUptoRow.holds Tryd.pinned (OpenSpec.upto digestKnownSpec)

/-- 'satchellaw2.DigestKeyed', WHERE WHAT IT READS IS OF BULK AT MOST 1048576: true; the input reads as it did. -/
def digestKeyedUptoRow : OpenClaim := { program := "ytafgeppdchnceaadoor", sum := "5db66cc88bf83e3c0cb9c667efce4f1fe6578c7b5d22509c402f67f4931507bd", func := "satchel/satchellaw2.DigestKeyed", spec := "digestKeyed", named := ["satchel/digest.begin", "satchel/digest.rounds"], apart := false, laid := [("satchel/digest.begin", laid_satchel_digest_begin), ("satchel/digest.rounds", laid_satchel_digest_rounds)], narrowed := true }
def DigestKeyedUptoSaid : Prop := digestKeyedUptoRow.holds Tryd.pinned (OpenSpec.upto digestKeyedSpec)

/-- 'satchellaw2.DigestMatch', WHERE WHAT IT READS IS OF BULK AT MOST 1048576: true; the input reads as it did. -/
def digestMatchUptoRow : OpenClaim := { program := "ytafgeppdchnceaadoor", sum := "5db66cc88bf83e3c0cb9c667efce4f1fe6578c7b5d22509c402f67f4931507bd", func := "satchel/satchellaw2.DigestMatch", spec := "digestMatch", inPlace := ["internal/bytealg.IndexByteString", "internal/bytealg.Compare"], unfollowed := true, recurses := true, named := ["satchel/digest.begin", "satchel/digest.rounds"], apart := false, laid := [("satchel/digest.begin", laid_satchel_digest_begin), ("satchel/digest.rounds", laid_satchel_digest_rounds)], narrowed := true }
def DigestMatchUptoSaid : Prop := digestMatchUptoRow.holds Tryd.pinned (OpenSpec.upto digestMatchSpec)

end Rows
end Go.Proofs.YtafgeppdchnceaaDoor
