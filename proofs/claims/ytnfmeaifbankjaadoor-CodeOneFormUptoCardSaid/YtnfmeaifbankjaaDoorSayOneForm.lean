/- PROVED: satchellaw1.CodeOneForm returns true and leaves its argument as it was, whatever the script, the package-level table code.errnos holding what the program's text lays (a tied card). CONDITION: what it reads holds together at most 1048576 values and letters (the statement's own). The seat's translation is of a pruned copy of the project. -/
import Derived.Test.YtnfmeaifbankjaaDoorCodeOneForm
import Derived.Test.YtnfmeaifbankjaaDoorScript
set_option linter.unusedVariables false
namespace Go.Proofs.YtnfmeaifbankjaaDoor.codeOneForm
open Go Go.RowKit Go.Sat Go.ChangeShapes Go.WideShapes Go.ChangeAt Go.Deep

theorem own : ownKnob Tryd.prog.godebug = none := by kernel_rfl
set_option maxRecDepth 100000 in
theorem contract (hw : ScriptWalk 7) (H : Type) (enc : TypeId × Value → H) (W : World) (base : Nat) (args : Array Value) (ds gs : List (DataW H)) (before : List MemPlace)
    (hval : ∀ (j : Nat) t v, Tryd.f7.params[j]? = some t → args[j]? = some v → Value.okWide Tryd.prog W .any base t v)
    (hW : DataW.Whole enc Tryd.prog Tryd.f7.params.toList Rows.codeOneFormSpec.vars false W args.toList ds gs before) (hk : Rows.uptoSmall H (ds ++ gs) = true) (hL : laidMetH Tryd.prog Rows.codeOneFormUptoRow.laid W) :
    Calls Tryd.prog 7 args W fun e W' => ∃ v, e = .returned v ∧ Rows.codeOneFormSpec.post enc Tryd.prog Tryd.f7 false true false false W args v W' := by
  have hW' := hW
  obtain ⟨p, q, hA0, hV, rfl, hfz, hnd⟩ := hW
  have hA : DataW.TrodAll enc Tryd.prog W 0 (fun _ => true) true Tryd.f7.params.toList args.toList ds p := hA0
  rw [Tryd.params7] at hA hval
  obtain ⟨v0, vs0, d0, ds0, p0, q0, hargs, rfl, rfl, h0, r0⟩ := trodAll_cons hA
  obtain ⟨rfl, rfl, rfl⟩ := trodAll_nil r0
  obtain rfl : args = #[v0] := by cases args; simp_all
  obtain ⟨rfl, rfl⟩ := trodVars_none hV
  have h0k := h0
  have hlt : ∀ x ∈ p0, x.block < W.heap.size := fun x hx => by simpa using hW'.lt x (by simpa using hx)
  have ok0 : Value.okWide Tryd.prog W .any base 26 v0 := hval 0 _ v0 rfl rfl
  simp only [Value.okWide, Tryd.underlying26] at ok0
  obtain ⟨cs, rfl, hcs, _⟩ := ok0
  have k1 : Tryd.prog.cellsOf 23 = 2 := by kernel_rfl
  have k2 : Tryd.prog.cellsOf 24 = 1 := by kernel_rfl
  obtain ⟨fuel, h0⟩ := h0
  obtain ⟨xs, n, rfl, hx, hl, hlen, hf⟩ := DataW.trod_struct Tryd.underlying26 h0
  have hl3 : cs.toList.length = 3 := hl.trans (by kernel_rfl)
  obtain ⟨cl⟩ := cs
  match cl, hl3, xs, hlen with
  | [i0, i1, vo], _, [x0, x1], _ =>
    have g0 := hf 0 _ rfl
    have g1 := hf 1 _ rfl
    simp [k1, k2] at g0 g1
    obtain ⟨v0, v1, l0, l1, e0, r0, r1, t0, t1, hb0⟩ := open_two g0
    obtain ⟨v, ops, e1, hops, hbulk⟩ := open_ops g1
    obtain rfl : vo = v := by injection e1
    obtain ⟨rfl, rfl⟩ : i0 = v0 ∧ i1 = v1 := by
      injection e0 with a b
      injection b with c d
      exact ⟨a, c⟩
    simp only [Prod.mk.injEq, List.map_cons, List.map_nil] at hx
    have hd0 := hx.1
    subst hd0
    have hb : bulkOps ops ≤ 2000000 ∧ l0.length ≤ 2000000 ∧ l1.length ≤ 2000000 := by
      simp [Rows.uptoSmall, Rows.uptoBulk, Rows.uptoBulkAll] at hk
      omega
    clear hA0
    simp only [List.append_nil] at hW'
    refine (hw i0 i1 vo l0 l1 ops W r0 r1 t0 t1 hb.2.1 hb.2.2 hops hb.1 (errnos_of hL)).mono fun e W' ⟨he, hg⟩ => ?_
    subst he
    have hbelow := hg.below
    exact ⟨_, rfl, ⟨_, _, _, [], p0, [], hW', trodAll_mk1 (shut_bool Tryd.underlying4 _), trodAll_mk1 (Below.trod laidOut (by kernel_rfl) (of_decide_eq_true (by kernel_rfl)) h0k hbelow hlt), rfl, hbelow.frame _, fun h => by cases h⟩⟩

theorem reads (os : Os) {H : Type} (enc : TypeId × Value → H) : ∃ places, DataW.whole enc Tryd.prog ((laidWorld os).forCall (fun _ _ => 0) ⟨#[], wArgs, []⟩).memory Tryd.f7.params.toList Rows.codeOneFormSpec.vars false wArgs.toList 8 = some ([.agg [.agg [.nil, .nil], .nil]], [], places) :=
  ⟨[], by kernel_rfl⟩
set_option maxRecDepth 100000 in
theorem liftedUpto (hw : ScriptWalk 7) (os : Os) (started : os.Started) (H : Type) (enc : TypeId × Value → H) (F : Stop.Interp) :
    ReturnsInHanded {} Tryd.checked os 7 .any ((Rows.OpenSpec.upto Rows.codeOneFormSpec).preRow enc Tryd.prog Tryd.f7 Rows.codeOneFormUptoRow.domain false Rows.codeOneFormUptoRow.laid) (((Rows.OpenSpec.upto Rows.codeOneFormSpec).at F).post enc Tryd.prog Tryd.f7 false true false false) := by
  obtain ⟨places, hx⟩ := reads os enc
  refine returnsInHanded_of_row (C := Tryd.checked) (s := Rows.OpenSpec.upto Rows.codeOneFormSpec) own started (by kernel_rfl) Tryd.func7
    (witness_row_at (enc := enc) (C := Tryd.checked) false (laidWorld os) wArgs rfl (by kernel_rfl) (by kernel_rfl) (by kernel_rfl)
      (OpenSpec.preRow_of_cond 8 hx (by kernel_rfl) (fun k hk => by cases hk; kernel_rfl) (by kernel_rfl) (laid_met os))) ?_
  intro W base args ds gs before hval hW _ hcond _ hL _ _
  exact contract hw H enc W base args ds gs before hval hW (hcond _ rfl) hL
theorem saidUpto (hw : ScriptWalk 7) : Rows.CodeOneFormUptoSaid :=
  OpenClaim.holds_of_cond 7 Tryd.f7 rfl rfl rfl rfl rfl rfl rfl ⟨rfl, rfl, rfl, rfl, rfl⟩ rfl rfl rfl rfl rfl (by kernel_rfl) Tryd.func7 (by kernel_rfl)
    (of_decide_eq_true (by kernel_rfl)) (by unfold Func.isWrapper; first | (rw [if_pos (by decide +kernel)]; kernel_rfl) | (rw [if_neg (by decide +kernel)]; exact ⟨rfl, rfl⟩))
    (fun os started H enc _ F => by rw [OpenClaim.pre_eq_preRow]; exact liftedUpto hw os started H enc F)
theorem plain (f : FuncId) (fn : Func) (hf : Tryd.pinned.checked.prog.funcNamed "satchel/satchellaw1.CodeOneForm" = some f) (hfn : Tryd.pinned.checked.prog.funcs[f]? = some fn) :
    false = Tryd.pinned.checked.prog.looks [] ∧ ∀ (j : Nat) t, fn.params[j]? = some t → Tryd.pinned.checked.prog.wantsStandIn t = false := by
  obtain rfl : f = 7 := Option.some.inj ((show Tryd.prog.funcNamed "satchel/satchellaw1.CodeOneForm" = some 7 by kernel_rfl).symm.trans hf) |>.symm
  obtain rfl : fn = Tryd.f7 := (Option.some.inj (Tryd.func7.symm.trans hfn)).symm
  refine ⟨by kernel_rfl, fun j t ht => ?_⟩
  rw [Tryd.params7] at ht
  obtain rfl : t = 26 := by simpa using Array.mem_of_getElem? ht
  exact (show Tryd.prog.wantsStandIn 26 = false by kernel_rfl)
theorem cardUpto (hw : ScriptWalk 7) : Rows.CodeOneFormUptoCardSaid :=
  Claim7.holds_tied_plain_at .later [] _ _ _ _ (saidUpto hw) (fun _ h => by cases h) (by kernel_rfl) (fun _ h => by cases h) codeOneFormUpto_row_tie rfl ⟨rfl, rfl⟩ (by kernel_rfl) rfl plain (by kernel_rfl)
theorem proved : Rows.CodeOneFormUptoCardSaid := cardUpto fun i0 i1 vo l0 l1 ops W r0 r1 _ _ b0 _ ho _ hE => codeOneForm_walk i0 i1 vo l0 l1 ops W r0 r1 b0 ho hE
end Go.Proofs.YtnfmeaifbankjaaDoor.codeOneForm
