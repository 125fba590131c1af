/- PROVED: satchellaw7.DeltaComposed returns true and leaves its argument as it was, whatever the base and the steps, the package-level table code.errnos holding what the program's text lays (a tied card). CONDITION: what it reads holds together at most 1048576 values and letters (the statement's own). The seat's translation is of a pruned copy of the project. -/
import Derived.Test.YtlanabocdoacgaaDoorDComp
import Derived.Test.YtlanabocdoacgaaDoorDArgs
set_option linter.unusedVariables false
namespace Go.Proofs.YtlanabocdoacgaaDoor.deltaComposed
open Go Go.RowKit Go.Sat Go.ChangeShapes Go.WideShapes Go.ChangeAt Go.Deep
def ScriptWalk : Prop := ∀ (vb vs : Value) (b : List UInt8) (ps : List StepV) (W : World), Errnos W → Rd W vb b → RdSteps W vs ps → b.length + bulkSteps ps ≤ 1048576 →
  Calls Tryd.prog 5 #[.agg #[vb, vs]] W fun e w' => e = .returned (.bool true) ∧ Chg (fun _ => False) W w'
section
variable {H : Type} {enc : TypeId × Value → H} {w : World} {base : Nat} {spare : Nat → Bool} {held : Bool}
set_option maxRecDepth 100000 in
theorem open_step {fuel : Nat} {cs : List Value} {x : DataW H × List MemPlace} (h : DataW.trod enc Tryd.prog w base spare held fuel 51 cs = some x) :
    ∃ o : StepV, cs = o.cells ∧ o.Ok w ∧ o.b.length + 1 ≤ Rows.uptoBulk x.1 := by
  obtain ⟨xs, n, rfl, rfl, hl, hlen, hf⟩ := DataW.trod_struct Tryd.underlying51 h
  have k1 : Tryd.prog.cellsOf 24 = 1 := by kernel_rfl
  have k2 : Tryd.prog.cellsOf 3 = 1 := by kernel_rfl
  have hl5 : cs.length = 3 := hl.trans (by kernel_rfl)
  match cs, hl5, xs, hlen with
  | [c0, c1, c2], _, [x0, x1, x2], _ =>
    have g0 := hf 0 _ rfl
    have g1 := hf 1 _ rfl
    have g2 := hf 2 _ rfl
    simp [k1, k2] at g0 g1 g2
    obtain ⟨v0, l0, e0, r0, _, d0⟩ := open_rd g0
    obtain ⟨a1, e1, _, b1⟩ := DataW.trod_int Tryd.underlying3 g1
    obtain ⟨a2, e2, _, b2⟩ := DataW.trod_int Tryd.underlying3 g2
    obtain rfl : c0 = v0 := by injection e0
    obtain rfl : c1 = .int .i64 a1 := by injection e1
    obtain rfl : c2 = .int .i64 a2 := by injection e2
    refine ⟨⟨c0, a1, a2, l0⟩, rfl, ⟨r0, lit_bounds_i64 b1, lit_bounds_i64 b2⟩, ?_⟩
    simp [Rows.uptoBulk, Rows.uptoBulkAll]
    omega
instance : Inhabited StepV := ⟨⟨.slice none 0 0, 0, 0, []⟩⟩
set_option maxRecDepth 100000 in
theorem open_steps {fuel : Nat} {cs : List Value} {x : DataW H × List MemPlace} (h : DataW.trod enc Tryd.prog w base spare held fuel 45 cs = some x) :
    ∃ v ps, cs = [v] ∧ RdSteps w v ps ∧ bulkSteps ps ≤ Rows.uptoBulk x.1 := by
  rcases open_slice Tryd.underlying45 h with ⟨rfl, rfl⟩ | ⟨a, len, cap, m, n, D, Pl, rfl, hb, hl, hm, hmm, rfl, hx⟩
  · exact ⟨_, [], rfl, ⟨fun o ho => (by cases ho), .inl ⟨rfl, none, 0, rfl⟩⟩, by simp [bulkSteps]⟩
  have k : Tryd.prog.cellsOf 51 = 3 := by kernel_rfl
  rw [k] at hx
  have hlm : len ≤ m := by rw [hmm]; split <;> omega
  have each : ∀ i, i < len → ∃ o : StepV, w.cells? base (a.add (i * 3)) 3 = some o.cells ∧ o.Ok w ∧ o.b.length + 1 ≤ Rows.uptoBulk (D i) := fun i hi => by
    obtain ⟨cs', h1, h2⟩ := hx i (by omega)
    obtain ⟨o, rfl, ho, hbulk⟩ := open_step h2
    exact ⟨o, h1, ho, hbulk⟩
  obtain ⟨f, hf⟩ := choose_lt each
  refine ⟨.slice (some a) len cap, (List.range len).map f, rfl, ⟨fun o ho => ?_, ?_⟩, ?_⟩
  · obtain ⟨i, hi, rfl⟩ := List.mem_map.1 ho
    exact (hf i (List.mem_range.1 hi)).2.1
  · by_cases h0 : len = 0
    · subst h0
      exact .inl ⟨rfl, _, _, rfl⟩
    · obtain ⟨b, off, rfl, hbs, hc⟩ := cells_plain (fun i hi => (hf i hi).1) (by omega) (by omega)
      refine .inr ⟨b, off, cap, by simp, hbs, fun i hi j u hu => ?_⟩
      have hi' : i < len := by simpa using hi
      exact (hc i hi').2 j u (by simpa using hu)
  · simp only [Rows.uptoBulk, bulkAll_map, bulkSteps, List.map_map]
    have key : ∀ l : List Nat, (∀ i ∈ l, i < len) → (l.map ((fun o : StepV => o.b.length + 1) ∘ f)).sum ≤ (l.map fun i => Rows.uptoBulk (D i)).sum := by
      intro l
      induction l with
      | nil => simp
      | cons i l ih =>
        intro hi
        have h1 := (hf i (hi i List.mem_cons_self)).2.2
        have h2 := ih fun j hj => hi j (List.mem_cons_of_mem _ hj)
        simp only [List.map_cons, List.sum_cons, Function.comp_apply] at h2 ⊢
        omega
    have := key (List.range len) fun i hi => List.mem_range.1 hi
    omega
end
set_option maxRecDepth 100000 in
theorem contract (hw : ScriptWalk) (H : Type) (enc : TypeId × Value → H) (W : World) (base : Nat) (args : Array Value) (ds gs : List (DataW H)) (before : List MemPlace)
    (hval : ∀ (j : Nat) t v, Tryd.f5.params[j]? = some t → args[j]? = some v → Value.okWide Tryd.prog W .any base t v)
    (hW : DataW.Whole enc Tryd.prog Tryd.f5.params.toList Rows.deltaComposedSpec.vars false W args.toList ds gs before) (hk : Rows.uptoSmall H (ds ++ gs) = true) (hL : laidMetH Tryd.prog Rows.deltaComposedUptoRow.laid W) :
    Calls Tryd.prog 5 args W fun e W' => ∃ v, e = .returned v ∧ Rows.deltaComposedSpec.post enc Tryd.prog Tryd.f5 false true false false W args v W' := by
  have hW' := hW
  obtain ⟨p, q, hA0, hV, rfl, hfz, hnd⟩ := hW
  have hA : DataW.TrodAll enc Tryd.prog W 0 (fun _ => true) true Tryd.f5.params.toList args.toList ds p := hA0
  rw [Tryd.params5] at hA hval
  obtain ⟨v0, vs0, d0, ds0, p0, q0, hargs, rfl, rfl, h0, r0⟩ := trodAll_cons hA
  obtain ⟨rfl, rfl, rfl⟩ := trodAll_nil r0
  obtain rfl : args = #[v0] := by cases args; simp_all
  obtain ⟨rfl, rfl⟩ := trodVars_none hV
  have h0k := h0
  have hlt : ∀ x ∈ p0, x.block < W.heap.size := fun x hx => by simpa using hW'.lt x (by simpa using hx)
  have ok0 : Value.okWide Tryd.prog W .any base 47 v0 := hval 0 _ v0 rfl rfl
  simp only [Value.okWide, Tryd.underlying47] at ok0
  obtain ⟨cs, rfl, hcs, _⟩ := ok0
  have k1 : Tryd.prog.cellsOf 24 = 1 := by kernel_rfl
  have k2 : Tryd.prog.cellsOf 45 = 1 := by kernel_rfl
  obtain ⟨fuel, h0⟩ := h0
  obtain ⟨xs, n, rfl, hx, hl, hlen, hf⟩ := DataW.trod_struct Tryd.underlying47 h0
  have hl2 : cs.toList.length = 2 := hl.trans (by kernel_rfl)
  obtain ⟨cl⟩ := cs
  match cl, hl2, xs, hlen with
  | [i0, i1], _, [x0, x1], _ =>
    have g0 := hf 0 _ rfl
    have g1 := hf 1 _ rfl
    simp [k1, k2] at g0 g1
    obtain ⟨v0, l0, e0, r0, _, b0⟩ := open_rd g0
    obtain ⟨v1, l1, e1, r1, b1⟩ := open_steps g1
    obtain rfl : i0 = v0 := by injection e0
    obtain rfl : i1 = v1 := by injection e1
    simp only [Prod.mk.injEq, List.map_cons, List.map_nil] at hx
    have hd0 := hx.1
    subst hd0
    have hb : l0.length + bulkSteps l1 ≤ 1048576 := by
      simp [Rows.uptoSmall, Rows.uptoBulkAll, Rows.uptoBulk] at hk
      omega
    clear hA0
    simp only [List.append_nil] at hW'
    refine (hw _ _ l0 l1 W (errnos_of hL) r0 r1 hb).mono fun e W' ⟨he, hg⟩ => ?_
    subst he
    have hbelow := hg.below
    exact ⟨_, rfl, ⟨_, _, _, [], p0, [], hW', trodAll_mk1 (shut_bool Tryd.underlying4 _), trodAll_mk1 (Below.trod laidOut (by kernel_rfl) (of_decide_eq_true (by kernel_rfl)) h0k hbelow hlt), rfl, hbelow.frame _, fun h => by cases h⟩⟩
def wPairs : Array Value := #[.agg #[.slice none 0 0, .slice none 0 0]]
theorem reads (os : Os) {H : Type} (enc : TypeId × Value → H) : ∃ places, DataW.whole enc Tryd.prog ((laidWorld os).forCall (fun _ _ => 0) ⟨#[], wPairs, []⟩).memory Tryd.f5.params.toList Rows.deltaComposedSpec.vars false wPairs.toList 8 = some ([.agg [.nil, .nil]], [], places) :=
  ⟨[], by kernel_rfl⟩
set_option maxRecDepth 100000 in
theorem liftedUpto (hw : ScriptWalk) (os : Os) (started : os.Started) (H : Type) (enc : TypeId × Value → H) (F : Stop.Interp) :
    ReturnsInHanded {} Tryd.checked os 5 .any ((Rows.OpenSpec.upto Rows.deltaComposedSpec).preRow enc Tryd.prog Tryd.f5 Rows.deltaComposedUptoRow.domain false Rows.deltaComposedUptoRow.laid) (((Rows.OpenSpec.upto Rows.deltaComposedSpec).at F).post enc Tryd.prog Tryd.f5 false true false false) := by
  obtain ⟨places, hx⟩ := reads os enc
  refine returnsInHanded_of_row (C := Tryd.checked) (s := Rows.OpenSpec.upto Rows.deltaComposedSpec) ownNone started (by kernel_rfl) Tryd.func5
    (witness_row_at (enc := enc) (C := Tryd.checked) false (laidWorld os) wPairs rfl (by kernel_rfl) (by kernel_rfl) (by kernel_rfl)
      (OpenSpec.preRow_of_cond 8 hx (by kernel_rfl) (fun k hk => by cases hk; kernel_rfl) (by kernel_rfl) (laid_met os wPairs))) ?_
  intro W base args ds gs before hval hW _ hcond _ hL _ _
  exact contract hw H enc W base args ds gs before hval hW (hcond _ rfl) hL
theorem saidUpto (hw : ScriptWalk) : Rows.DeltaComposedUptoSaid :=
  OpenClaim.holds_of_cond 5 Tryd.f5 rfl rfl rfl rfl rfl rfl rfl ⟨rfl, rfl, rfl, rfl, rfl⟩ rfl rfl rfl rfl rfl (by kernel_rfl) Tryd.func5 (by kernel_rfl)
    (of_decide_eq_true (by kernel_rfl)) (by unfold Func.isWrapper; first | (rw [if_pos (by decide +kernel)]; kernel_rfl) | (rw [if_neg (by decide +kernel)]; exact ⟨rfl, rfl⟩))
    (fun os started H enc _ F => by rw [OpenClaim.pre_eq_preRow]; exact liftedUpto hw os started H enc F)
theorem plain (f : FuncId) (fn : Func) (hf : Tryd.pinned.checked.prog.funcNamed "satchel/satchellaw7.DeltaComposed" = some f) (hfn : Tryd.pinned.checked.prog.funcs[f]? = some fn) :
    false = Tryd.pinned.checked.prog.looks [] ∧ ∀ (j : Nat) t, fn.params[j]? = some t → Tryd.pinned.checked.prog.wantsStandIn t = false := by
  obtain rfl : f = 5 := Option.some.inj ((show Tryd.prog.funcNamed "satchel/satchellaw7.DeltaComposed" = some 5 by kernel_rfl).symm.trans hf) |>.symm
  obtain rfl : fn = Tryd.f5 := (Option.some.inj (Tryd.func5.symm.trans hfn)).symm
  refine ⟨by kernel_rfl, fun j t ht => ?_⟩
  rw [Tryd.params5] at ht
  obtain rfl : t = 47 := by simpa using Array.mem_of_getElem? ht
  exact (show Tryd.prog.wantsStandIn 47 = false by kernel_rfl)
theorem cardUpto (hw : ScriptWalk) : Rows.DeltaComposedUptoCardSaid :=
  Claim7.holds_tied_plain_at .later [] _ _ _ _ (saidUpto hw) (fun _ h => by cases h) (by kernel_rfl) (fun _ h => by cases h) deltaComposedUpto_row_tie rfl ⟨rfl, rfl⟩ (by kernel_rfl) rfl plain (by kernel_rfl)
theorem proved : Rows.DeltaComposedUptoCardSaid := cardUpto dcomp_walk
end Go.Proofs.YtlanabocdoacgaaDoor.deltaComposed
