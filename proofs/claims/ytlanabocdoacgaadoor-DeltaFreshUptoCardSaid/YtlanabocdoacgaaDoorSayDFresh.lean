/- PROVED: satchellaw7.DeltaFresh returns true and leaves its argument as it was, whatever the pairs, the package-level table code.errnos holding what the program's text lays (a tied card). CONDITION: what it reads holds together at most 1048576 values and letters (the statement's own). The seat's translation is of a pruned copy of the project. -/
import Derived.Test.YtlanabocdoacgaaDoorDFresh
import Derived.Test.YtlanabocdoacgaaDoorDArgs
set_option linter.unusedVariables false
namespace Go.Proofs.YtlanabocdoacgaaDoor.deltaFresh
open Go Go.RowKit Go.Sat Go.ChangeShapes Go.WideShapes Go.ChangeAt Go.Deep
def PairsWalk : Prop := ∀ (v : Value) (ps : List PairV) (W : World), Errnos W → RdPairs W v ps → bulkPairs ps ≤ 1048576 →
  Calls Tryd.prog 6 #[v] W fun e w' => e = .returned (.bool true) ∧ Chg (fun _ => False) W w'
set_option maxRecDepth 100000 in
theorem contract (hw : PairsWalk) (H : Type) (enc : TypeId × Value → H) (W : World) (base : Nat) (args : Array Value) (ds gs : List (DataW H)) (before : List MemPlace)
    (hval : ∀ (j : Nat) t v, Tryd.f6.params[j]? = some t → args[j]? = some v → Value.okWide Tryd.prog W .any base t v)
    (hW : DataW.Whole enc Tryd.prog Tryd.f6.params.toList Rows.deltaFreshSpec.vars false W args.toList ds gs before) (hk : Rows.uptoSmall H (ds ++ gs) = true) (hL : laidMetH Tryd.prog Rows.deltaFreshUptoRow.laid W) :
    Calls Tryd.prog 6 args W fun e W' => ∃ v, e = .returned v ∧ Rows.deltaFreshSpec.post enc Tryd.prog Tryd.f6 false true false false W args v W' := by
  have hW' := hW
  obtain ⟨p, q, hA0, hV, rfl, hfz, hnd⟩ := hW
  have hA : DataW.TrodAll enc Tryd.prog W 0 (fun _ => true) true Tryd.f6.params.toList args.toList ds p := hA0
  rw [Tryd.params6] at hA hval
  obtain ⟨v0, vs0, d0, ds0, p0, q0, hargs, rfl, rfl, h0, r0⟩ := trodAll_cons hA
  obtain ⟨rfl, rfl, rfl⟩ := trodAll_nil r0
  obtain rfl : args = #[v0] := by cases args; simp_all
  obtain ⟨rfl, rfl⟩ := trodVars_none hV
  have h0k := h0
  have hlt : ∀ x ∈ p0, x.block < W.heap.size := fun x hx => by simpa using hW'.lt x (by simpa using hx)
  obtain ⟨fuel, h0⟩ := h0
  have ok0 : Value.okWide Tryd.prog W .any base 22 v0 := hval 0 _ v0 rfl rfl
  obtain ⟨sa, sl, sc, rfl⟩ := Go.WideShapes.okWide_slice Tryd.underlying22 ok0
  have h0' : DataW.trod enc Tryd.prog W 0 (fun _ => true) true fuel 22 [.slice sa sl sc] = some (d0, p0) := h0
  obtain ⟨v, ps, e1, hps, hbulk⟩ := open_pairs h0'
  obtain rfl : Value.slice sa sl sc = v := by injection e1
  have hbulk2 : bulkPairs ps ≤ Rows.uptoBulk d0 := hbulk
  have hb : bulkPairs ps ≤ 1048576 := by
    simp [Rows.uptoSmall, Rows.uptoBulkAll] at hk
    omega
  clear hA0
  simp only [List.append_nil] at hW'
  refine (hw _ ps W (errnos_of hL) hps hb).mono fun e W' ⟨he, hg⟩ => ?_
  subst he
  have hbelow := hg.below
  exact ⟨_, rfl, ⟨_, _, _, [], p0, [], hW', trodAll_mk1 (shut_bool Tryd.underlying4 _), trodAll_mk1 (Below.trod laidOut (by kernel_rfl) (of_decide_eq_true (by kernel_rfl)) h0k hbelow hlt), rfl, hbelow.frame _, fun h => by cases h⟩⟩
def wPairs : Array Value := #[.slice none 0 0]
theorem reads (os : Os) {H : Type} (enc : TypeId × Value → H) : ∃ places, DataW.whole enc Tryd.prog ((laidWorld os).forCall (fun _ _ => 0) ⟨#[], wPairs, []⟩).memory Tryd.f6.params.toList Rows.deltaFreshSpec.vars false wPairs.toList 8 = some ([.nil], [], places) :=
  ⟨[], by kernel_rfl⟩
set_option maxRecDepth 100000 in
theorem liftedUpto (hw : PairsWalk) (os : Os) (started : os.Started) (H : Type) (enc : TypeId × Value → H) (F : Stop.Interp) :
    ReturnsInHanded {} Tryd.checked os 6 .any ((Rows.OpenSpec.upto Rows.deltaFreshSpec).preRow enc Tryd.prog Tryd.f6 Rows.deltaFreshUptoRow.domain false Rows.deltaFreshUptoRow.laid) (((Rows.OpenSpec.upto Rows.deltaFreshSpec).at F).post enc Tryd.prog Tryd.f6 false true false false) := by
  obtain ⟨places, hx⟩ := reads os enc
  refine returnsInHanded_of_row (C := Tryd.checked) (s := Rows.OpenSpec.upto Rows.deltaFreshSpec) ownNone started (by kernel_rfl) Tryd.func6
    (witness_row_at (enc := enc) (C := Tryd.checked) false (laidWorld os) wPairs rfl (by kernel_rfl) (by kernel_rfl) (by kernel_rfl)
      (OpenSpec.preRow_of_cond 8 hx (by kernel_rfl) (fun k hk => by cases hk; kernel_rfl) (by kernel_rfl) (laid_met os wPairs))) ?_
  intro W base args ds gs before hval hW _ hcond _ hL _ _
  exact contract hw H enc W base args ds gs before hval hW (hcond _ rfl) hL
theorem saidUpto (hw : PairsWalk) : Rows.DeltaFreshUptoSaid :=
  OpenClaim.holds_of_cond 6 Tryd.f6 rfl rfl rfl rfl rfl rfl rfl ⟨rfl, rfl, rfl, rfl, rfl⟩ rfl rfl rfl rfl rfl (by kernel_rfl) Tryd.func6 (by kernel_rfl)
    (of_decide_eq_true (by kernel_rfl)) (by unfold Func.isWrapper; first | (rw [if_pos (by decide +kernel)]; kernel_rfl) | (rw [if_neg (by decide +kernel)]; exact ⟨rfl, rfl⟩))
    (fun os started H enc _ F => by rw [OpenClaim.pre_eq_preRow]; exact liftedUpto hw os started H enc F)
theorem plain (f : FuncId) (fn : Func) (hf : Tryd.pinned.checked.prog.funcNamed "satchel/satchellaw7.DeltaFresh" = some f) (hfn : Tryd.pinned.checked.prog.funcs[f]? = some fn) :
    false = Tryd.pinned.checked.prog.looks [] ∧ ∀ (j : Nat) t, fn.params[j]? = some t → Tryd.pinned.checked.prog.wantsStandIn t = false := by
  obtain rfl : f = 6 := Option.some.inj ((show Tryd.prog.funcNamed "satchel/satchellaw7.DeltaFresh" = some 6 by kernel_rfl).symm.trans hf) |>.symm
  obtain rfl : fn = Tryd.f6 := (Option.some.inj (Tryd.func6.symm.trans hfn)).symm
  refine ⟨by kernel_rfl, fun j t ht => ?_⟩
  rw [Tryd.params6] at ht
  obtain rfl : t = 22 := by simpa using Array.mem_of_getElem? ht
  exact (show Tryd.prog.wantsStandIn 22 = false by kernel_rfl)
theorem cardUpto (hw : PairsWalk) : Rows.DeltaFreshUptoCardSaid :=
  Claim7.holds_tied_plain_at .later [] _ _ _ _ (saidUpto hw) (fun _ h => by cases h) (by kernel_rfl) (fun _ h => by cases h) deltaFreshUpto_row_tie rfl ⟨rfl, rfl⟩ (by kernel_rfl) rfl plain (by kernel_rfl)
theorem proved : Rows.DeltaFreshUptoCardSaid := cardUpto dfresh_walk
end Go.Proofs.YtlanabocdoacgaaDoor.deltaFresh
