/- PROVED: satchellaw2.DigestExact returns true and leaves its argument as it was, whatever the text, the key and the cuts, the package-level tables digest.begin, digest.rounds, satchelref2.H and satchelref2.K holding what the program's text lays (a tied card). CONDITION: what it reads holds together at most 1048576 values and letters (the statement's own). The seat's translation is of a pruned copy of the project. -/
import Derived.Test.YtafgeppdchnceaaDoorExact
import Derived.Test.YtafgeppdchnceaaDoorTables
set_option linter.unusedVariables false
namespace Go.Proofs.YtafgeppdchnceaaDoor.digestExact
open Go Go.RowKit Go.Sat Go.ChangeShapes Go.WideShapes Go.ChangeAt Go.Deep
theorem gH : Tryd.prog.globalNamed "satchel/satchelref2.H" = some 1 := by kernel_rfl
theorem gHT : (Tryd.prog.globals[1]?).map (·.type) = some 85 := by kernel_rfl
theorem gK : Tryd.prog.globalNamed "satchel/satchelref2.K" = some 3 := by kernel_rfl
theorem gKT : (Tryd.prog.globals[3]?).map (·.type) = some 99 := by kernel_rfl
theorem cellsU64 : Tryd.prog.cellsOf 78 = 1 := by kernel_rfl
theorem cells8x : Tryd.prog.cellsOf 85 = 8 := by kernel_rfl
theorem cells64x : Tryd.prog.cellsOf 99 = 64 := by kernel_rfl
theorem laid4 {W : World} (h : laidMetH Tryd.prog Rows.digestExactUptoRow.laid W) : Laid W ∧ RLaid W := by
  have h' : laidMet Tryd.prog Rows.digestExactUptoRow.laid W := h
  obtain ⟨ps, hv, _⟩ := h'
  have tb : Lib.TabIs Tryd.prog W "satchel/satchelref2.H" .u64 (Sha.h0.list.map fun (n : Nat) => (n : Int)) := tab_of_vars gH gHT Tryd.underlying85 Tryd.underlying78 cellsU64 cells8x hv
  obtain ⟨q, hv2⟩ := LaidVars_tail hv
  have tr : Lib.TabIs Tryd.prog W "satchel/satchelref2.K" .u64 (Sha.k0.map fun (n : Nat) => (n : Int)) := tab_of_vars gK gKT Tryd.underlying99 Tryd.underlying78 cellsU64 cells64x hv2
  obtain ⟨q2, hv3⟩ := LaidVars_tail hv2
  refine ⟨laid_of hv3, fun j v hv => ?_, fun t ht => ?_⟩
  · have hj : j < 8 := by have := (List.getElem?_eq_some_iff.1 hv).1; simpa [wcells64, Sha.V8.list] using this
    have := tb.cell gH j (by simpa [Sha.V8.list] using hj)
    rw [Nat.zero_add, this, ← hv, getD_cast]
    simp only [wcells64, List.getElem?_map]
    rw [List.getElem?_eq_getElem (by simpa [Sha.V8.list] using hj)]
    simp [List.getD, show j < Sha.h0.list.length by simpa [Sha.V8.list] using hj]
  · have := tr.cell gK t (by simpa [Sha.k0] using ht)
    rw [this, getD_cast]
section
variable {H : Type} {enc : TypeId × Value → H} {w : World} {base : Nat} {spare : Nat → Bool} {held : Bool}
theorem bulkAll_bytes (l : List UInt8) : l.length ≤ Rows.uptoBulkAll (l.map fun b => (DataW.lit (.int .u8 (b.toNat : Int)) : DataW H)) := by
  induction l with
  | nil => simp
  | cons b l ih => simp [Rows.uptoBulkAll, Rows.uptoBulk]; omega
theorem bulk_bytes {d : DataW H} {l : List UInt8} (hd : (d = .nil ∧ l = []) ∨ ∃ s, d = .slice (l.map fun b => .lit (.int .u8 (b.toNat : Int))) s) : l.length ≤ Rows.uptoBulk d := by
  rcases hd with ⟨hd, rfl⟩ | ⟨s, rfl⟩
  · simp
  · have := bulkAll_bytes (H := H) l
    simp only [Rows.uptoBulk]; omega
end
theorem laid_met4 (os : Os) (args : Array Value) : laidMet Tryd.prog Rows.digestExactUptoRow.laid ((laidWorld os).forCall (fun _ _ => 0) ⟨#[], args, []⟩).memory :=
  laidMet_of_run' 8 (by kernel_rfl) (by kernel_rfl)

def TextWalk : Prop := ∀ (vd vk vc : Value) (d k : List UInt8) (cuts : List Int) (W : World), Laid W → RLaid W → Rd W vd d → Rd W vk k → Sl W 1 vc cuts.length (cuts.map (Value.int .i64)) → d.length ≤ 1048576 → k.length ≤ 1048576 →
  Calls Tryd.prog 5 #[.agg #[vd, vk, vc]] W fun e w' => e = .returned (.bool true) ∧ Chg (fun _ => False) W w'
set_option maxRecDepth 100000 in
theorem contract (hw : TextWalk) (H : Type) (enc : TypeId × Value → H) (W : World) (base : Nat) (args : Array Value) (ds gs : List (DataW H)) (before : List MemPlace)
    (hval : ∀ (j : Nat) t v, Tryd.f5.params[j]? = some t → args[j]? = some v → Value.okWide Tryd.prog W .any base t v)
    (hW : DataW.Whole enc Tryd.prog Tryd.f5.params.toList Rows.digestExactSpec.vars false W args.toList ds gs before)
    (hk : Rows.uptoSmall H (ds ++ gs) = true) (hL : laidMetH Tryd.prog Rows.digestExactUptoRow.laid W) :
    Calls Tryd.prog 5 args W fun e W' => ∃ v, e = .returned v ∧ Rows.digestExactSpec.post enc Tryd.prog Tryd.f5 false true false false W args v W' := by
  have hW' := hW
  obtain ⟨p, q, hA0, hV, rfl, hfz, hnd⟩ := hW
  have hA : DataW.TrodAll enc Tryd.prog W 0 (fun _ => true) true Tryd.f5.params.toList args.toList ds p := hA0
  rw [Tryd.params5] at hA hval
  obtain ⟨v0, vs0, d0, ds0, p0, q0, hargs, rfl, rfl, h0, r0⟩ := trodAll_cons hA
  obtain ⟨rfl, rfl, rfl⟩ := trodAll_nil r0
  obtain rfl : args = #[v0] := by cases args; simp_all
  obtain ⟨rfl, rfl⟩ := trodVars_none hV
  have h0k := h0
  have hlt : ∀ x ∈ p0, x.block < W.heap.size := fun x hx => by simpa using hW'.lt x (by simpa using hx)
  have ok0 : Value.okWide Tryd.prog W .any base 25 v0 := hval 0 _ v0 rfl rfl
  simp only [Value.okWide, Tryd.underlying25] at ok0
  obtain ⟨cs, rfl, hcs, _⟩ := ok0
  have k1 : Tryd.prog.cellsOf 22 = 1 := by kernel_rfl
  have k2 : Tryd.prog.cellsOf 23 = 1 := by kernel_rfl
  obtain ⟨fuel, h0⟩ := h0
  obtain ⟨xs, n, rfl, hx, hl, hlen, hf⟩ := DataW.trod_struct Tryd.underlying25 h0
  have hl3 : cs.toList.length = 3 := hl.trans (by kernel_rfl)
  obtain ⟨cl⟩ := cs
  match cl, hl3, xs, hlen with
  | [i0, i1, i2], _, [x0, x1, x2], _ =>
    have g0 := hf 0 _ rfl
    have g1 := hf 1 _ rfl
    have g2 := hf 2 _ rfl
    simp [k1, k2] at g0 g1 g2
    obtain ⟨v0, l0, e0, r0, t0, b0⟩ := open_bytes Tryd.underlying22 Tryd.underlying5 (by kernel_rfl) g0
    obtain ⟨v1, l1, e1, r1, t1, b1⟩ := open_bytes Tryd.underlying22 Tryd.underlying5 (by kernel_rfl) g1
    obtain ⟨v2, l2, e2, r2, t2, b2⟩ := open_nums Tryd.underlying23 Tryd.underlying3 (by kernel_rfl) g2
    obtain rfl : i0 = v0 := by injection e0
    obtain rfl : i1 = v1 := by injection e1
    obtain rfl : i2 = v2 := by injection e2
    simp only [Prod.mk.injEq, List.map_cons, List.map_nil] at hx
    have hd0 := hx.1
    subst hd0
    have hb : l0.length ≤ 1048576 ∧ l1.length ≤ 1048576 := by
      have q0 := bulk_bytes b0
      have q1 := bulk_bytes b1
      simp [Rows.uptoSmall, Rows.uptoBulk, Rows.uptoBulkAll] at hk
      omega
    clear hA0
    simp only [List.append_nil] at hW'
    refine (hw i0 i1 i2 l0 l1 l2 W (laid4 hL).1 (laid4 hL).2 r0 r1 r2 hb.1 hb.2).mono fun e W' ⟨he, hg⟩ => ?_
    subst he
    have hbelow := hg.below
    exact ⟨_, rfl, ⟨_, _, _, [], p0, [], hW', trodAll_mk1 (shut_bool Tryd.underlying4 _), trodAll_mk1 (Below.trod laidOut (by kernel_rfl) (of_decide_eq_true (by kernel_rfl)) h0k hbelow hlt), rfl, hbelow.frame _, fun h => by cases h⟩⟩

theorem reads (os : Os) {H : Type} (enc : TypeId × Value → H) : ∃ places, DataW.whole enc Tryd.prog ((laidWorld os).forCall (fun _ _ => 0) ⟨#[], wText, []⟩).memory Tryd.f5.params.toList Rows.digestExactSpec.vars false wText.toList 8 = some ([.agg [.nil, .nil, .nil]], [], places) :=
  ⟨[], by kernel_rfl⟩
set_option maxRecDepth 100000 in
theorem liftedUpto (hw : TextWalk) (os : Os) (started : os.Started) (H : Type) (enc : TypeId × Value → H) (F : Stop.Interp) :
    ReturnsInHanded {} Tryd.checked os 5 .any ((Rows.OpenSpec.upto Rows.digestExactSpec).preRow enc Tryd.prog Tryd.f5 Rows.digestExactUptoRow.domain false Rows.digestExactUptoRow.laid) (((Rows.OpenSpec.upto Rows.digestExactSpec).at F).post enc Tryd.prog Tryd.f5 false true false false) := by
  obtain ⟨places, hx⟩ := reads os enc
  refine returnsInHanded_of_row (C := Tryd.checked) (s := Rows.OpenSpec.upto Rows.digestExactSpec) ownNone started (by kernel_rfl) Tryd.func5
    (witness_row_at (enc := enc) (C := Tryd.checked) false (laidWorld os) wText rfl (by kernel_rfl) (by kernel_rfl) (by kernel_rfl)
      (OpenSpec.preRow_of_cond 8 hx (by kernel_rfl) (fun k hk => by cases hk; kernel_rfl) (by kernel_rfl) (laid_met4 os wText))) ?_
  intro W base args ds gs before hval hW _ hcond _ hL _ _
  exact contract hw H enc W base args ds gs before hval hW (hcond _ rfl) hL
theorem saidUpto (hw : TextWalk) : Rows.DigestExactUptoSaid :=
  OpenClaim.holds_of_cond 5 Tryd.f5 rfl rfl rfl rfl rfl rfl rfl ⟨rfl, rfl, rfl, rfl, rfl⟩ rfl rfl rfl rfl rfl (by kernel_rfl) Tryd.func5 (by kernel_rfl)
    (of_decide_eq_true (by kernel_rfl)) (by unfold Func.isWrapper; first | (rw [if_pos (by decide +kernel)]; kernel_rfl) | (rw [if_neg (by decide +kernel)]; exact ⟨rfl, rfl⟩))
    (fun os started H enc _ F => by rw [OpenClaim.pre_eq_preRow]; exact liftedUpto hw os started H enc F)
theorem plain (f : FuncId) (fn : Func) (hf : Tryd.pinned.checked.prog.funcNamed "satchel/satchellaw2.DigestExact" = some f) (hfn : Tryd.pinned.checked.prog.funcs[f]? = some fn) :
    false = Tryd.pinned.checked.prog.looks [] ∧ ∀ (j : Nat) t, fn.params[j]? = some t → Tryd.pinned.checked.prog.wantsStandIn t = false := by
  obtain rfl : f = 5 := Option.some.inj ((show Tryd.prog.funcNamed "satchel/satchellaw2.DigestExact" = some 5 by kernel_rfl).symm.trans hf) |>.symm
  obtain rfl : fn = Tryd.f5 := (Option.some.inj (Tryd.func5.symm.trans hfn)).symm
  refine ⟨by kernel_rfl, fun j t ht => ?_⟩
  rw [Tryd.params5] at ht
  obtain rfl : t = 25 := by simpa using Array.mem_of_getElem? ht
  exact (show Tryd.prog.wantsStandIn 25 = false by kernel_rfl)
theorem cardUpto (hw : TextWalk) : Rows.DigestExactUptoCardSaid :=
  Claim7.holds_tied_plain_at .later [] _ _ _ _ (saidUpto hw) (fun _ h => by cases h) (by kernel_rfl) (fun _ h => by cases h) digestExactUpto_row_tie rfl ⟨rfl, rfl⟩ (by kernel_rfl) rfl plain (by kernel_rfl)
theorem proved : Rows.DigestExactUptoCardSaid := cardUpto fun vd vk vc d k cuts W hL hR hd hk _ h1 h2 => exact_walk vd vk vc d k W hL hR hd hk (by omega) (by omega)
end Go.Proofs.YtafgeppdchnceaaDoor.digestExact
