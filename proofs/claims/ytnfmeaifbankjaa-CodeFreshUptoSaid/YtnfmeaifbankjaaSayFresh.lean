/- PROVED: satchellaw1.CodeFresh returns true and leaves its argument as it was, whatever the script. CONDITION: what it reads holds together at most 1048576 values and letters (the statement's own). -/
import Derived.Test.YtnfmeaifbankjaaCodeFresh
import Derived.Test.YtnfmeaifbankjaaArgs
set_option linter.unusedVariables false
namespace Go.Proofs.Ytnfmeaifbankjaa.codeFresh
open Go Go.RowKit Go.Sat Go.ChangeShapes Go.WideShapes Go.ChangeAt Go.Deep
section
variable {H : Type} {enc : TypeId × Value → H} {w : World} {base : Nat} {spare : Nat → Bool} {held : Bool}
set_option maxRecDepth 100000 in
/-- Two slices of bytes in an array, opened. -/
theorem open_two {fuel : Nat} {cs : List Value} {x : DataW H × List MemPlace} (h : DataW.trod enc Try.prog w base spare held fuel 23 cs = some x) :
    ∃ v0 v1 l0 l1, cs = [v0, v1] ∧ Rd w v0 l0 ∧ Rd w v1 l1 ∧ (∀ k, rdb v0 = some k → k < w.heap.size) ∧ (∀ k, rdb v1 = some k → k < w.heap.size) ∧ l0.length + l1.length ≤ Rows.uptoBulk x.1 := by
  obtain ⟨xs, n, rfl, rfl, hl, hlen, hf⟩ := DataW.trod_array Try.underlying23 h
  have k3 : Try.prog.cellsOf 22 = 1 := by kernel_rfl
  have hl2 : cs.length = 2 := hl.trans (by kernel_rfl)
  match cs, hl2, xs, hlen with
  | [c0, c1], _, [x0, x1], _ =>
    have g0 := hf 0 (by omega)
    have g1 := hf 1 (by omega)
    simp [k3] at g0 g1
    obtain ⟨v0, l0, e0, r0, t0, b0⟩ := open_rd g0
    obtain ⟨v1, l1, e1, r1, t1, b1⟩ := open_rd g1
    simp only [List.cons.injEq, and_true] at e0 e1
    subst e0 e1
    refine ⟨c0, c1, l0, l1, rfl, r0, r1, t0, t1, ?_⟩
    simp [Rows.uptoBulk, Rows.uptoBulkAll]
    omega
end

set_option maxRecDepth 100000 in
theorem contract (H : Type) (enc : TypeId × Value → H) (W : World) (base : Nat) (args : Array Value) (ds gs : List (DataW H)) (before : List MemPlace)
    (hval : ∀ (j : Nat) t v, Try.f5.params[j]? = some t → args[j]? = some v → Value.okWide Try.prog W .any base t v)
    (hW : DataW.Whole enc Try.prog Try.f5.params.toList Rows.codeFreshSpec.vars false W args.toList ds gs before) (hk : Rows.uptoSmall H (ds ++ gs) = true) :
    Calls Try.prog 5 args W fun e W' => ∃ v, e = .returned v ∧ Rows.codeFreshSpec.post enc Try.prog Try.f5 false true false false W args v W' := by
  have hW' := hW
  obtain ⟨p, q, hA0, hV, rfl, hfz, hnd⟩ := hW
  have hA : DataW.TrodAll enc Try.prog W 0 (fun _ => true) true Try.f5.params.toList args.toList ds p := hA0
  rw [Try.params5] at hA hval
  obtain ⟨v0, vs0, d0, ds0, p0, q0, hargs, rfl, rfl, h0, r0⟩ := trodAll_cons hA
  obtain ⟨rfl, rfl, rfl⟩ := trodAll_nil r0
  obtain rfl : args = #[v0] := by cases args; simp_all
  obtain ⟨rfl, rfl⟩ := trodVars_none hV
  have h0k := h0
  have hlt : ∀ x ∈ p0, x.block < W.heap.size := fun x hx => by simpa using hW'.lt x (by simpa using hx)
  have ok0 : Value.okWide Try.prog W .any base 26 v0 := hval 0 _ v0 rfl rfl
  simp only [Value.okWide, Try.underlying26] at ok0
  obtain ⟨cs, rfl, hcs, _⟩ := ok0
  have k1 : Try.prog.cellsOf 23 = 2 := by kernel_rfl
  have k2 : Try.prog.cellsOf 24 = 1 := by kernel_rfl
  obtain ⟨fuel, h0⟩ := h0
  obtain ⟨xs, n, rfl, hx, hl, hlen, hf⟩ := DataW.trod_struct Try.underlying26 h0
  have hl3 : cs.toList.length = 3 := hl.trans (by kernel_rfl)
  obtain ⟨cl⟩ := cs
  match cl, hl3, xs, hlen with
  | [i0, i1, vo], _, [x0, x1], _ =>
    have g0 := hf 0 _ rfl
    have g1 := hf 1 _ rfl
    simp [k1, k2] at g0 g1
    obtain ⟨v0, v1, l0, l1, e0, r0, r1, t0, t1, hb0⟩ := open_two g0
    obtain ⟨v, ops, e1, hops, hbulk⟩ := open_ops g1
    obtain rfl : vo = v := by injection e1
    obtain ⟨rfl, rfl⟩ : i0 = v0 ∧ i1 = v1 := by
      injection e0 with a b
      injection b with c d
      exact ⟨a, c⟩
    simp only [Prod.mk.injEq, List.map_cons, List.map_nil] at hx
    have hd0 := hx.1
    subst hd0
    have hb : bulkOps ops ≤ 2000000 ∧ l0.length ≤ 2000000 := by
      simp [Rows.uptoSmall, Rows.uptoBulk, Rows.uptoBulkAll] at hk
      omega
    clear hA0
    simp only [List.append_nil] at hW'
    refine (codeFresh_walk i0 i1 vo l0 ops W r0 hb.2 hops hb.1).mono fun e W' ⟨he, hg⟩ => ?_
    subst he
    have hbelow := hg.below
    exact ⟨_, rfl, ⟨_, _, _, [], p0, [], hW', trodAll_mk1 (shut_bool Try.underlying4 _), trodAll_mk1 (Below.trod laidOut (by kernel_rfl) (of_decide_eq_true (by kernel_rfl)) h0k hbelow hlt), rfl, hbelow.frame _, fun h => by cases h⟩⟩

set_option maxRecDepth 100000 in
theorem lifted (os : Os) (started : os.Started) (H : Type) (enc : TypeId × Value → H) (F : Stop.Interp) :
    ReturnsInHanded {} Try.checked os 5 .any ((Rows.OpenSpec.upto Rows.codeFreshSpec).pre6 enc Try.prog Try.f5 Rows.codeFreshUptoRow.domain false) (((Rows.OpenSpec.upto Rows.codeFreshSpec).at F).post enc Try.prog Try.f5 false true false false) := by
  refine returnsInHanded_of_cond (C := Try.checked) (s := Rows.OpenSpec.upto Rows.codeFreshSpec) (k := Rows.uptoSmall) rfl ownNone started (by kernel_rfl) Try.func5
    (OpenSpec.witness (enc := enc) (C := Try.checked) (s := Rows.OpenSpec.upto Rows.codeFreshSpec) (k := Rows.uptoSmall) rfl false ⟨#[], #[.agg #[.slice none 0 0, .slice none 0 0, .slice none 0 0]], []⟩ 8 (by kernel_rfl) (by kernel_rfl) (by kernel_rfl)
      (x := ([.agg [.agg [.nil, .nil], .nil]], [], [])) (by kernel_rfl) rfl (by kernel_rfl)) ?_
  intro W base args ds gs before hval hW _ hk _
  exact contract H enc W base args ds gs before hval hW hk

theorem over : Rows.codeFreshUptoRow.holds Try.pinned (Rows.OpenSpec.upto Rows.codeFreshSpec) :=
  OpenClaim.holds_of_cond 5 Try.f5 rfl rfl rfl rfl rfl rfl rfl ⟨rfl, rfl, rfl, rfl, rfl⟩ rfl rfl rfl rfl rfl (by kernel_rfl) Try.func5 (by kernel_rfl)
    (of_decide_eq_true (by kernel_rfl)) (by unfold Func.isWrapper; first | (rw [if_pos (by decide +kernel)]; kernel_rfl) | (rw [if_neg (by decide +kernel)]; exact ⟨rfl, rfl⟩))
    (fun os started H enc _ F => lifted os started H enc F)

theorem proved : Rows.CodeFreshUptoSaid := over
end Go.Proofs.Ytnfmeaifbankjaa.codeFresh
