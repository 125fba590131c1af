/- PROVED: satchellaw2.DigestMany returns true and leaves its argument as it was, whatever the number and the bytes, the package-level tables digest.begin and digest.rounds holding what the program's text lays (a tied card). CONDITIONS: none beyond the statement's own. The seat's translation is of a pruned copy of the project. -/
import Derived.Test.YtafgeppdchnceaaDoorMany
import Derived.Test.YtafgeppdchnceaaDoorTables
set_option linter.unusedVariables false
namespace Go.Proofs.YtafgeppdchnceaaDoor.digestMany
open Go Go.RowKit Go.Sat Go.ChangeShapes Go.WideShapes Go.ChangeAt Go.Deep

def TextWalk : Prop := ∀ (N : Int) (vd : Value) (d : List UInt8) (W : World), Laid W → Rd W vd d → d.length ≤ 140737488351232 →
  Calls Tryd.prog 4 #[.agg #[.int .i64 N, vd]] W fun e w' => e = .returned (.bool true) ∧ Chg (fun _ => False) W w'
def wMany : Array Value := #[.agg #[.int .i64 0, .slice none 0 0]]
set_option maxRecDepth 100000 in
theorem contract (hw : TextWalk) (H : Type) (enc : TypeId × Value → H) (W : World) (base : Nat) (args : Array Value) (ds gs : List (DataW H)) (before : List MemPlace)
    (hval : ∀ (j : Nat) t v, Tryd.f4.params[j]? = some t → args[j]? = some v → Value.okWide Tryd.prog W .any base t v)
    (hW : DataW.Whole enc Tryd.prog Tryd.f4.params.toList Rows.digestManySpec.vars false W args.toList ds gs before)
    (hk : (DataW.weightsEach Tryd.prog (Tryd.f4.params.toList ++ []) (ds ++ gs)).all (· ≤ reachBytes) = true) (hL : laidMetH Tryd.prog Rows.digestManyRow.laid W) :
    Calls Tryd.prog 4 args W fun e W' => ∃ v, e = .returned v ∧ Rows.digestManySpec.post enc Tryd.prog Tryd.f4 false true false false W args v W' := by
  have hW' := hW
  obtain ⟨p, q, hA0, hV, rfl, hfz, hnd⟩ := hW
  have hA : DataW.TrodAll enc Tryd.prog W 0 (fun _ => true) true Tryd.f4.params.toList args.toList ds p := hA0
  rw [Tryd.params4] at hA hval hk
  obtain ⟨v0, vs0, d0, ds0, p0, q0, hargs, rfl, rfl, h0, r0⟩ := trodAll_cons hA
  obtain ⟨rfl, rfl, rfl⟩ := trodAll_nil r0
  obtain rfl : args = #[v0] := by cases args; simp_all
  obtain ⟨rfl, rfl⟩ := trodVars_none hV
  have h0k := h0
  have hlt : ∀ x ∈ p0, x.block < W.heap.size := fun x hx => by simpa using hW'.lt x (by simpa using hx)
  have ok0 : Value.okWide Tryd.prog W .any base 39 v0 := hval 0 _ v0 rfl rfl
  simp only [Value.okWide, Tryd.underlying39] at ok0
  obtain ⟨cs, rfl, hcs, _⟩ := ok0
  have k1 : Tryd.prog.cellsOf 22 = 1 := by kernel_rfl
  have k2 : Tryd.prog.cellsOf 3 = 1 := by kernel_rfl
  obtain ⟨fuel, h0⟩ := h0
  obtain ⟨xs, n, rfl, hx, hl, hlen, hf⟩ := DataW.trod_struct Tryd.underlying39 h0
  have hl3 : cs.toList.length = 2 := hl.trans (by kernel_rfl)
  obtain ⟨cl⟩ := cs
  match cl, hl3, xs, hlen with
  | [i0, i1], _, [x0, x1], _ =>
    have g0 := hf 0 _ rfl
    have g1 := hf 1 _ rfl
    simp [k1, k2] at g0 g1
    obtain ⟨N, e0, b0, _⟩ := DataW.trod_int Tryd.underlying3 g0
    obtain ⟨v1, l1, e1, r1, t1, b1⟩ := open_bytes Tryd.underlying22 Tryd.underlying5 (by kernel_rfl) g1
    obtain rfl : i0 = .int .i64 N := by injection e0
    obtain rfl : i1 = v1 := by injection e1
    simp only [Prod.mk.injEq, List.map_cons, List.map_nil] at hx
    have hd0 := hx.1
    subst hd0
    have hb : l1.length ≤ 140737488351232 := by
      have e3 : ∀ r : List (DataW H), DataW.weightsEach Tryd.prog [39] (.agg [x0.1, x1.1] :: r) = (x0.1.weights Tryd.prog 3 ++ (x1.1.weights Tryd.prog 22 ++ [])) ++ [] := fun r => by
        simp only [DataW.weightsEach, DataW.weights, Tryd.underlying39]
        simp [DataW.weightsEach]
      have hk' := hk
      simp only [List.append_nil] at hk'
      rw [e3] at hk'
      simp only [List.append_nil, List.all_append, Bool.and_eq_true] at hk'
      exact weigh_bytes Tryd.underlying22 (by kernel_rfl) b1 hk'.2
    clear hA0
    simp only [List.append_nil] at hW'
    refine (hw N i1 l1 W (laid2 hL) r1 hb).mono fun e W' ⟨he, hg⟩ => ?_
    subst he
    have hbelow := hg.below
    exact ⟨_, rfl, ⟨_, _, _, [], p0, [], hW', trodAll_mk1 (shut_bool Tryd.underlying4 _), trodAll_mk1 (Below.trod laidOut (by kernel_rfl) (of_decide_eq_true (by kernel_rfl)) h0k hbelow hlt), rfl, hbelow.frame _, fun h => by cases h⟩⟩

theorem reads (os : Os) {H : Type} (enc : TypeId × Value → H) : ∃ places, DataW.whole enc Tryd.prog ((laidWorld os).forCall (fun _ _ => 0) ⟨#[], wMany, []⟩).memory Tryd.f4.params.toList Rows.digestManySpec.vars false wMany.toList 8 = some ([.agg [.lit (.int .i64 0), .nil]], [], places) :=
  ⟨[], by kernel_rfl⟩
set_option maxRecDepth 100000 in
theorem lifted (hw : TextWalk) (os : Os) (started : os.Started) (H : Type) (enc : TypeId × Value → H) (F : Stop.Interp) :
    ReturnsInHanded {} Tryd.checked os 4 .any ((OpenSpec.ofChange Rows.digestManySpec).preRow enc Tryd.prog Tryd.f4 Rows.digestManyRow.domain false Rows.digestManyRow.laid) (((OpenSpec.ofChange Rows.digestManySpec).at F).post enc Tryd.prog Tryd.f4 false true false false) := by
  obtain ⟨places, hx⟩ := reads os enc
  refine returnsInHanded_of_row (C := Tryd.checked) (s := OpenSpec.ofChange Rows.digestManySpec) ownNone started (by kernel_rfl) Tryd.func4
    (witness_row_at (enc := enc) (C := Tryd.checked) false (laidWorld os) wMany rfl (by kernel_rfl) (by kernel_rfl) (by kernel_rfl)
      (OpenSpec.preRow_of_cond 8 hx (by kernel_rfl) (fun k hk => by cases hk) (by kernel_rfl) (laid_met2 os wMany))) ?_
  intro W base args ds gs before hval hW _ _ hre hL _ _
  exact contract hw H enc W base args ds gs before hval hW hre hL
theorem said (hw : TextWalk) : Rows.DigestManySaid :=
  OpenClaim.holds_of_cond 4 Tryd.f4 rfl rfl rfl rfl rfl rfl rfl ⟨rfl, rfl, rfl, rfl, rfl⟩ rfl rfl rfl rfl rfl (by kernel_rfl) Tryd.func4 (by kernel_rfl)
    (of_decide_eq_true (by kernel_rfl)) (by unfold Func.isWrapper; first | (rw [if_pos (by decide +kernel)]; kernel_rfl) | (rw [if_neg (by decide +kernel)]; exact ⟨rfl, rfl⟩))
    (fun os started H enc _ F => by rw [OpenClaim.pre_eq_preRow]; exact lifted hw os started H enc F)
theorem plain (f : FuncId) (fn : Func) (hf : Tryd.pinned.checked.prog.funcNamed "satchel/satchellaw2.DigestMany" = some f) (hfn : Tryd.pinned.checked.prog.funcs[f]? = some fn) :
    false = Tryd.pinned.checked.prog.looks [] ∧ ∀ (j : Nat) t, fn.params[j]? = some t → Tryd.pinned.checked.prog.wantsStandIn t = false := by
  obtain rfl : f = 4 := Option.some.inj ((show Tryd.prog.funcNamed "satchel/satchellaw2.DigestMany" = some 4 by kernel_rfl).symm.trans hf) |>.symm
  obtain rfl : fn = Tryd.f4 := (Option.some.inj (Tryd.func4.symm.trans hfn)).symm
  refine ⟨by kernel_rfl, fun j t ht => ?_⟩
  rw [Tryd.params4] at ht
  obtain rfl : t = 39 := by simpa using Array.mem_of_getElem? ht
  exact (show Tryd.prog.wantsStandIn 39 = false by kernel_rfl)
theorem card (hw : TextWalk) : Rows.DigestManyCardSaid :=
  Claim7.holds_tied_plain_at .later [] _ _ _ _ (said hw) (fun _ h => by cases h) (by kernel_rfl) (fun _ h => by cases h) digestMany_row_tie rfl ⟨rfl, rfl⟩ (by kernel_rfl) rfl plain (by kernel_rfl)
theorem proved : Rows.DigestManyCardSaid := card many_walk
end Go.Proofs.YtafgeppdchnceaaDoor.digestMany
