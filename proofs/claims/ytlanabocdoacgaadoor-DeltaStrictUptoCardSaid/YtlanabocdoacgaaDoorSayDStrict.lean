/- PROVED: satchellaw7.DeltaStrict returns true and leaves its argument as it was, whatever the base, the target, the place and the bytes, the package-level table code.errnos holding what the program's text lays (a tied card). CONDITION: what it reads holds together at most 1048576 values and letters (the statement's own). The seat's translation is of a pruned copy of the project. -/
import Derived.Test.YtlanabocdoacgaaDoorDStrict
import Derived.Test.YtlanabocdoacgaaDoorDArgs
set_option linter.unusedVariables false
namespace Go.Proofs.YtlanabocdoacgaaDoor.deltaStrict
open Go Go.RowKit Go.Sat Go.ChangeShapes Go.WideShapes Go.ChangeAt Go.Deep
def EdgeWalk : Prop := ∀ (vb vt vm : Value) (b t m : List UInt8) (at_ : Int) (W : World), Errnos W → Rd W vb b → Rd W vt t → Rd W vm m → (-9223372036854775808 ≤ at_ ∧ at_ ≤ 9223372036854775807) → b.length + t.length + m.length ≤ 1048576 →
  Calls Tryd.prog 4 #[.agg #[vb, vt, .int .i64 at_, vm]] W fun e w' => e = .returned (.bool true) ∧ Chg (fun _ => False) W w'
set_option maxRecDepth 100000 in
theorem contract (hw : EdgeWalk) (H : Type) (enc : TypeId × Value → H) (W : World) (base : Nat) (args : Array Value) (ds gs : List (DataW H)) (before : List MemPlace)
    (hval : ∀ (j : Nat) t v, Tryd.f4.params[j]? = some t → args[j]? = some v → Value.okWide Tryd.prog W .any base t v)
    (hW : DataW.Whole enc Tryd.prog Tryd.f4.params.toList Rows.deltaStrictSpec.vars false W args.toList ds gs before) (hk : Rows.uptoSmall H (ds ++ gs) = true) (hL : laidMetH Tryd.prog Rows.deltaStrictUptoRow.laid W) :
    Calls Tryd.prog 4 args W fun e W' => ∃ v, e = .returned v ∧ Rows.deltaStrictSpec.post enc Tryd.prog Tryd.f4 false true false false W args v W' := by
  have hW' := hW
  obtain ⟨p, q, hA0, hV, rfl, hfz, hnd⟩ := hW
  have hA : DataW.TrodAll enc Tryd.prog W 0 (fun _ => true) true Tryd.f4.params.toList args.toList ds p := hA0
  rw [Tryd.params4] at hA hval
  obtain ⟨v0, vs0, d0, ds0, p0, q0, hargs, rfl, rfl, h0, r0⟩ := trodAll_cons hA
  obtain ⟨rfl, rfl, rfl⟩ := trodAll_nil r0
  obtain rfl : args = #[v0] := by cases args; simp_all
  obtain ⟨rfl, rfl⟩ := trodVars_none hV
  have h0k := h0
  have hlt : ∀ x ∈ p0, x.block < W.heap.size := fun x hx => by simpa using hW'.lt x (by simpa using hx)
  have ok0 : Value.okWide Tryd.prog W .any base 42 v0 := hval 0 _ v0 rfl rfl
  simp only [Value.okWide, Tryd.underlying42] at ok0
  obtain ⟨cs, rfl, hcs, _⟩ := ok0
  have k1 : Tryd.prog.cellsOf 24 = 1 := by kernel_rfl
  have k2 : Tryd.prog.cellsOf 3 = 1 := by kernel_rfl
  obtain ⟨fuel, h0⟩ := h0
  obtain ⟨xs, n, rfl, hx, hl, hlen, hf⟩ := DataW.trod_struct Tryd.underlying42 h0
  have hl4 : cs.toList.length = 4 := hl.trans (by kernel_rfl)
  obtain ⟨cl⟩ := cs
  match cl, hl4, xs, hlen with
  | [i0, i1, i2, i3], _, [x0, x1, x2, x3], _ =>
    have g0 := hf 0 _ rfl
    have g1 := hf 1 _ rfl
    have g2 := hf 2 _ rfl
    have g3 := hf 3 _ rfl
    simp [k1, k2] at g0 g1 g2 g3
    obtain ⟨v0, l0, e0, r0, _, b0⟩ := open_rd g0
    obtain ⟨v1, l1, e1, r1, _, b1⟩ := open_rd g1
    obtain ⟨a2, e2, _, b2⟩ := DataW.trod_int Tryd.underlying3 g2
    obtain ⟨v3, l3, e3, r3, _, b3⟩ := open_rd g3
    obtain rfl : i0 = v0 := by injection e0
    obtain rfl : i1 = v1 := by injection e1
    obtain rfl : i2 = .int .i64 a2 := by injection e2
    obtain rfl : i3 = v3 := by injection e3
    simp only [Prod.mk.injEq, List.map_cons, List.map_nil] at hx
    have hd0 := hx.1
    subst hd0
    have hb : l0.length + l1.length + l3.length ≤ 1048576 := by
      simp [Rows.uptoSmall, Rows.uptoBulkAll, Rows.uptoBulk] at hk
      omega
    clear hA0
    simp only [List.append_nil] at hW'
    refine (hw _ _ _ l0 l1 l3 a2 W (errnos_of hL) r0 r1 r3 (lit_bounds_i64 b2) hb).mono fun e W' ⟨he, hg⟩ => ?_
    subst he
    have hbelow := hg.below
    exact ⟨_, rfl, ⟨_, _, _, [], p0, [], hW', trodAll_mk1 (shut_bool Tryd.underlying4 _), trodAll_mk1 (Below.trod laidOut (by kernel_rfl) (of_decide_eq_true (by kernel_rfl)) h0k hbelow hlt), rfl, hbelow.frame _, fun h => by cases h⟩⟩
def wPairs : Array Value := #[.agg #[.slice none 0 0, .slice none 0 0, .int .i64 0, .slice none 0 0]]
theorem reads (os : Os) {H : Type} (enc : TypeId × Value → H) : ∃ places, DataW.whole enc Tryd.prog ((laidWorld os).forCall (fun _ _ => 0) ⟨#[], wPairs, []⟩).memory Tryd.f4.params.toList Rows.deltaStrictSpec.vars false wPairs.toList 8 = some ([.agg [.nil, .nil, .lit (.int .i64 0), .nil]], [], places) :=
  ⟨[], by kernel_rfl⟩
set_option maxRecDepth 100000 in
theorem liftedUpto (hw : EdgeWalk) (os : Os) (started : os.Started) (H : Type) (enc : TypeId × Value → H) (F : Stop.Interp) :
    ReturnsInHanded {} Tryd.checked os 4 .any ((Rows.OpenSpec.upto Rows.deltaStrictSpec).preRow enc Tryd.prog Tryd.f4 Rows.deltaStrictUptoRow.domain false Rows.deltaStrictUptoRow.laid) (((Rows.OpenSpec.upto Rows.deltaStrictSpec).at F).post enc Tryd.prog Tryd.f4 false true false false) := by
  obtain ⟨places, hx⟩ := reads os enc
  refine returnsInHanded_of_row (C := Tryd.checked) (s := Rows.OpenSpec.upto Rows.deltaStrictSpec) ownNone started (by kernel_rfl) Tryd.func4
    (witness_row_at (enc := enc) (C := Tryd.checked) false (laidWorld os) wPairs rfl (by kernel_rfl) (by kernel_rfl) (by kernel_rfl)
      (OpenSpec.preRow_of_cond 8 hx (by kernel_rfl) (fun k hk => by cases hk; kernel_rfl) (by kernel_rfl) (laid_met os wPairs))) ?_
  intro W base args ds gs before hval hW _ hcond _ hL _ _
  exact contract hw H enc W base args ds gs before hval hW (hcond _ rfl) hL
theorem saidUpto (hw : EdgeWalk) : Rows.DeltaStrictUptoSaid :=
  OpenClaim.holds_of_cond 4 Tryd.f4 rfl rfl rfl rfl rfl rfl rfl ⟨rfl, rfl, rfl, rfl, rfl⟩ rfl rfl rfl rfl rfl (by kernel_rfl) Tryd.func4 (by kernel_rfl)
    (of_decide_eq_true (by kernel_rfl)) (by unfold Func.isWrapper; first | (rw [if_pos (by decide +kernel)]; kernel_rfl) | (rw [if_neg (by decide +kernel)]; exact ⟨rfl, rfl⟩))
    (fun os started H enc _ F => by rw [OpenClaim.pre_eq_preRow]; exact liftedUpto hw os started H enc F)
theorem plain (f : FuncId) (fn : Func) (hf : Tryd.pinned.checked.prog.funcNamed "satchel/satchellaw7.DeltaStrict" = some f) (hfn : Tryd.pinned.checked.prog.funcs[f]? = some fn) :
    false = Tryd.pinned.checked.prog.looks [] ∧ ∀ (j : Nat) t, fn.params[j]? = some t → Tryd.pinned.checked.prog.wantsStandIn t = false := by
  obtain rfl : f = 4 := Option.some.inj ((show Tryd.prog.funcNamed "satchel/satchellaw7.DeltaStrict" = some 4 by kernel_rfl).symm.trans hf) |>.symm
  obtain rfl : fn = Tryd.f4 := (Option.some.inj (Tryd.func4.symm.trans hfn)).symm
  refine ⟨by kernel_rfl, fun j t ht => ?_⟩
  rw [Tryd.params4] at ht
  obtain rfl : t = 42 := by simpa using Array.mem_of_getElem? ht
  exact (show Tryd.prog.wantsStandIn 42 = false by kernel_rfl)
theorem cardUpto (hw : EdgeWalk) : Rows.DeltaStrictUptoCardSaid :=
  Claim7.holds_tied_plain_at .later [] _ _ _ _ (saidUpto hw) (fun _ h => by cases h) (by kernel_rfl) (fun _ h => by cases h) deltaStrictUpto_row_tie rfl ⟨rfl, rfl⟩ (by kernel_rfl) rfl plain (by kernel_rfl)
theorem proved : Rows.DeltaStrictUptoCardSaid := cardUpto dstrict_walk
end Go.Proofs.YtlanabocdoacgaaDoor.deltaStrict
