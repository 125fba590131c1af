/- PROVED: satchellaw2.DigestKeyed returns true and leaves its argument as it was, whatever the text, the key and the cuts, the package-level tables digest.begin and digest.rounds holding what the program's text lays (a tied card). CONDITIONS: none beyond the statement's own. The seat's translation is of a pruned copy of the project. -/
import Derived.Test.YtafgeppdchnceaaDoorDKeyed
import Derived.Test.YtafgeppdchnceaaDoorTables
set_option linter.unusedVariables false
namespace Go.Proofs.YtafgeppdchnceaaDoor.digestKeyed
open Go Go.RowKit Go.Sat Go.ChangeShapes Go.WideShapes Go.ChangeAt Go.Deep

def TextWalk : Prop := ∀ (vd vk vc : Value) (d k : List UInt8) (cuts : List Int) (W : World), Laid W → Rd W vd d → Rd W vk k → Sl W 1 vc cuts.length (cuts.map (Value.int .i64)) → d.length ≤ 140737488351232 → k.length ≤ 140737488351232 → cuts.length ≤ 140737488351232 →
  Calls Tryd.prog 7 #[.agg #[vd, vk, vc]] W fun e w' => e = .returned (.bool true) ∧ Chg (fun _ => False) W w'
set_option maxRecDepth 100000 in
theorem contract (hw : TextWalk) (H : Type) (enc : TypeId × Value → H) (W : World) (base : Nat) (args : Array Value) (ds gs : List (DataW H)) (before : List MemPlace)
    (hval : ∀ (j : Nat) t v, Tryd.f7.params[j]? = some t → args[j]? = some v → Value.okWide Tryd.prog W .any base t v)
    (hW : DataW.Whole enc Tryd.prog Tryd.f7.params.toList Rows.digestKeyedSpec.vars false W args.toList ds gs before)
    (hk : (DataW.weightsEach Tryd.prog (Tryd.f7.params.toList ++ []) (ds ++ gs)).all (· ≤ reachBytes) = true) (hL : laidMetH Tryd.prog Rows.digestKeyedRow.laid W) :
    Calls Tryd.prog 7 args W fun e W' => ∃ v, e = .returned v ∧ Rows.digestKeyedSpec.post enc Tryd.prog Tryd.f7 false true false false W args v W' := by
  have hW' := hW
  obtain ⟨p, q, hA0, hV, rfl, hfz, hnd⟩ := hW
  have hA : DataW.TrodAll enc Tryd.prog W 0 (fun _ => true) true Tryd.f7.params.toList args.toList ds p := hA0
  rw [Tryd.params7] at hA hval hk
  obtain ⟨v0, vs0, d0, ds0, p0, q0, hargs, rfl, rfl, h0, r0⟩ := trodAll_cons hA
  obtain ⟨rfl, rfl, rfl⟩ := trodAll_nil r0
  obtain rfl : args = #[v0] := by cases args; simp_all
  obtain ⟨rfl, rfl⟩ := trodVars_none hV
  have h0k := h0
  have hlt : ∀ x ∈ p0, x.block < W.heap.size := fun x hx => by simpa using hW'.lt x (by simpa using hx)
  have ok0 : Value.okWide Tryd.prog W .any base 25 v0 := hval 0 _ v0 rfl rfl
  simp only [Value.okWide, Tryd.underlying25] at ok0
  obtain ⟨cs, rfl, hcs, _⟩ := ok0
  have k1 : Tryd.prog.cellsOf 22 = 1 := by kernel_rfl
  have k2 : Tryd.prog.cellsOf 23 = 1 := by kernel_rfl
  obtain ⟨fuel, h0⟩ := h0
  obtain ⟨xs, n, rfl, hx, hl, hlen, hf⟩ := DataW.trod_struct Tryd.underlying25 h0
  have hl3 : cs.toList.length = 3 := hl.trans (by kernel_rfl)
  obtain ⟨cl⟩ := cs
  match cl, hl3, xs, hlen with
  | [i0, i1, i2], _, [x0, x1, x2], _ =>
    have g0 := hf 0 _ rfl
    have g1 := hf 1 _ rfl
    have g2 := hf 2 _ rfl
    simp [k1, k2] at g0 g1 g2
    obtain ⟨v0, l0, e0, r0, t0, b0⟩ := open_bytes Tryd.underlying22 Tryd.underlying5 (by kernel_rfl) g0
    obtain ⟨v1, l1, e1, r1, t1, b1⟩ := open_bytes Tryd.underlying22 Tryd.underlying5 (by kernel_rfl) g1
    obtain ⟨v2, l2, e2, r2, t2, b2⟩ := open_nums Tryd.underlying23 Tryd.underlying3 (by kernel_rfl) g2
    obtain rfl : i0 = v0 := by injection e0
    obtain rfl : i1 = v1 := by injection e1
    obtain rfl : i2 = v2 := by injection e2
    simp only [Prod.mk.injEq, List.map_cons, List.map_nil] at hx
    have hd0 := hx.1
    subst hd0
    have hb : l0.length ≤ 140737488351232 ∧ l1.length ≤ 140737488351232 ∧ l2.length ≤ 140737488351232 := by
      have e3 : ∀ r : List (DataW H), DataW.weightsEach Tryd.prog [25] (.agg [x0.1, x1.1, x2.1] :: r) = (x0.1.weights Tryd.prog 22 ++ (x1.1.weights Tryd.prog 22 ++ (x2.1.weights Tryd.prog 23 ++ []))) ++ [] := fun r => by
        simp only [DataW.weightsEach, DataW.weights, Tryd.underlying25]
        simp [DataW.weightsEach]
      have hk' := hk
      simp only [List.append_nil] at hk'
      rw [e3] at hk'
      simp only [List.append_nil, List.all_append, Bool.and_eq_true] at hk'
      exact ⟨weigh_bytes Tryd.underlying22 (by kernel_rfl) b0 hk'.1, weigh_bytes Tryd.underlying22 (by kernel_rfl) b1 hk'.2.1, weigh_nums Tryd.underlying23 (by kernel_rfl) b2 hk'.2.2⟩
    clear hA0
    simp only [List.append_nil] at hW'
    refine (hw i0 i1 i2 l0 l1 l2 W (laid2 hL) r0 r1 r2 hb.1 hb.2.1 hb.2.2).mono fun e W' ⟨he, hg⟩ => ?_
    subst he
    have hbelow := hg.below
    exact ⟨_, rfl, ⟨_, _, _, [], p0, [], hW', trodAll_mk1 (shut_bool Tryd.underlying4 _), trodAll_mk1 (Below.trod laidOut (by kernel_rfl) (of_decide_eq_true (by kernel_rfl)) h0k hbelow hlt), rfl, hbelow.frame _, fun h => by cases h⟩⟩

theorem reads (os : Os) {H : Type} (enc : TypeId × Value → H) : ∃ places, DataW.whole enc Tryd.prog ((laidWorld os).forCall (fun _ _ => 0) ⟨#[], wText, []⟩).memory Tryd.f7.params.toList Rows.digestKeyedSpec.vars false wText.toList 8 = some ([.agg [.nil, .nil, .nil]], [], places) :=
  ⟨[], by kernel_rfl⟩
set_option maxRecDepth 100000 in
theorem lifted (hw : TextWalk) (os : Os) (started : os.Started) (H : Type) (enc : TypeId × Value → H) (F : Stop.Interp) :
    ReturnsInHanded {} Tryd.checked os 7 .any ((OpenSpec.ofChange Rows.digestKeyedSpec).preRow enc Tryd.prog Tryd.f7 Rows.digestKeyedRow.domain false Rows.digestKeyedRow.laid) (((OpenSpec.ofChange Rows.digestKeyedSpec).at F).post enc Tryd.prog Tryd.f7 false true false false) := by
  obtain ⟨places, hx⟩ := reads os enc
  refine returnsInHanded_of_row (C := Tryd.checked) (s := OpenSpec.ofChange Rows.digestKeyedSpec) ownNone started (by kernel_rfl) Tryd.func7
    (witness_row_at (enc := enc) (C := Tryd.checked) false (laidWorld os) wText rfl (by kernel_rfl) (by kernel_rfl) (by kernel_rfl)
      (OpenSpec.preRow_of_cond 8 hx (by kernel_rfl) (fun k hk => by cases hk) (by kernel_rfl) (laid_met2 os wText))) ?_
  intro W base args ds gs before hval hW _ _ hre hL _ _
  exact contract hw H enc W base args ds gs before hval hW hre hL
theorem said (hw : TextWalk) : Rows.DigestKeyedSaid :=
  OpenClaim.holds_of_cond 7 Tryd.f7 rfl rfl rfl rfl rfl rfl rfl ⟨rfl, rfl, rfl, rfl, rfl⟩ rfl rfl rfl rfl rfl (by kernel_rfl) Tryd.func7 (by kernel_rfl)
    (of_decide_eq_true (by kernel_rfl)) (by unfold Func.isWrapper; first | (rw [if_pos (by decide +kernel)]; kernel_rfl) | (rw [if_neg (by decide +kernel)]; exact ⟨rfl, rfl⟩))
    (fun os started H enc _ F => by rw [OpenClaim.pre_eq_preRow]; exact lifted hw os started H enc F)
theorem plain (f : FuncId) (fn : Func) (hf : Tryd.pinned.checked.prog.funcNamed "satchel/satchellaw2.DigestKeyed" = some f) (hfn : Tryd.pinned.checked.prog.funcs[f]? = some fn) :
    false = Tryd.pinned.checked.prog.looks [] ∧ ∀ (j : Nat) t, fn.params[j]? = some t → Tryd.pinned.checked.prog.wantsStandIn t = false := by
  obtain rfl : f = 7 := Option.some.inj ((show Tryd.prog.funcNamed "satchel/satchellaw2.DigestKeyed" = some 7 by kernel_rfl).symm.trans hf) |>.symm
  obtain rfl : fn = Tryd.f7 := (Option.some.inj (Tryd.func7.symm.trans hfn)).symm
  refine ⟨by kernel_rfl, fun j t ht => ?_⟩
  rw [Tryd.params7] at ht
  obtain rfl : t = 25 := by simpa using Array.mem_of_getElem? ht
  exact (show Tryd.prog.wantsStandIn 25 = false by kernel_rfl)
theorem card (hw : TextWalk) : Rows.DigestKeyedCardSaid :=
  Claim7.holds_tied_plain_at .later [] _ _ _ _ (said hw) (fun _ h => by cases h) (by kernel_rfl) (fun _ h => by cases h) digestKeyed_row_tie rfl ⟨rfl, rfl⟩ (by kernel_rfl) rfl plain (by kernel_rfl)
theorem proved : Rows.DigestKeyedCardSaid := card fun vd vk vc d k cuts W hL hd hk _ b0 b1 _ => dkeyed_walk vd vk vc d k W hL hd hk b0 b1
end Go.Proofs.YtafgeppdchnceaaDoor.digestKeyed
