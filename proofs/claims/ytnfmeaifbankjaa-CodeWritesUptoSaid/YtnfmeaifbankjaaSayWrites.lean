/- PROVED: satchellaw1.CodeWrites returns true and leaves its argument as it was, whatever the script. CONDITION: what it reads holds together at most 1048576 values and letters (the statement's own). -/
import Derived.Test.YtnfmeaifbankjaaCodeWrites
import Derived.Test.YtnfmeaifbankjaaArgs
set_option linter.unusedVariables false
namespace Go.Proofs.Ytnfmeaifbankjaa.codeWrites
open Go Go.RowKit Go.Sat Go.ChangeShapes Go.WideShapes Go.ChangeAt Go.Deep

set_option maxRecDepth 100000 in
theorem contract (H : Type) (enc : TypeId × Value → H) (W : World) (base : Nat) (args : Array Value) (ds gs : List (DataW H)) (before : List MemPlace)
    (hval : ∀ (j : Nat) t v, Try.f3.params[j]? = some t → args[j]? = some v → Value.okWide Try.prog W .any base t v)
    (hW : DataW.Whole enc Try.prog Try.f3.params.toList Rows.codeWritesSpec.vars false W args.toList ds gs before) (hk : Rows.uptoSmall H (ds ++ gs) = true) :
    Calls Try.prog 3 args W fun e W' => ∃ v, e = .returned v ∧ Rows.codeWritesSpec.post enc Try.prog Try.f3 false true false false W args v W' := by
  have hW' := hW
  obtain ⟨p, q, hA0, hV, rfl, hfz, hnd⟩ := hW
  have hA : DataW.TrodAll enc Try.prog W 0 (fun _ => true) true Try.f3.params.toList args.toList ds p := hA0
  rw [Try.params3] at hA hval
  obtain ⟨v0, vs0, d0, ds0, p0, q0, hargs, rfl, rfl, h0, r0⟩ := trodAll_cons hA
  obtain ⟨rfl, rfl, rfl⟩ := trodAll_nil r0
  obtain rfl : args = #[v0] := by cases args; simp_all
  obtain ⟨rfl, rfl⟩ := trodVars_none hV
  have h0k := h0
  have hlt : ∀ x ∈ p0, x.block < W.heap.size := fun x hx => by simpa using hW'.lt x (by simpa using hx)
  have ok0 : Value.okWide Try.prog W .any base 26 v0 := hval 0 _ v0 rfl rfl
  simp only [Value.okWide, Try.underlying26] at ok0
  obtain ⟨cs, rfl, hcs, _⟩ := ok0
  have k1 : Try.prog.cellsOf 23 = 2 := by kernel_rfl
  have k2 : Try.prog.cellsOf 24 = 1 := by kernel_rfl
  obtain ⟨fuel, h0⟩ := h0
  obtain ⟨xs, n, rfl, hx, hl, hlen, hf⟩ := DataW.trod_struct Try.underlying26 h0
  have hl3 : cs.toList.length = 3 := hl.trans (by kernel_rfl)
  obtain ⟨cl⟩ := cs
  match cl, hl3, xs, hlen with
  | [i0, i1, vo], _, [x0, x1], _ =>
    have g1 := hf 1 _ rfl
    simp [k2] at g1
    obtain ⟨v, ops, e1, hops, hbulk⟩ := open_ops g1
    obtain rfl : vo = v := by injection e1
    simp only [Prod.mk.injEq, List.map_cons, List.map_nil] at hx
    have hd0 := hx.1
    subst hd0
    have hb : bulkOps ops ≤ 2000000 := by
      simp [Rows.uptoSmall, Rows.uptoBulk, Rows.uptoBulkAll] at hk
      omega
    clear hA0
    simp only [List.append_nil] at hW'
    refine (codeWrites_walk i0 i1 vo ops W hops hb).mono fun e W' ⟨he, hg⟩ => ?_
    subst he
    have hbelow := hg.below
    exact ⟨_, rfl, ⟨_, _, _, [], p0, [], hW', trodAll_mk1 (shut_bool Try.underlying4 _), trodAll_mk1 (Below.trod laidOut (by kernel_rfl) (of_decide_eq_true (by kernel_rfl)) h0k hbelow hlt), rfl, hbelow.frame _, fun h => by cases h⟩⟩

set_option maxRecDepth 100000 in
theorem lifted (os : Os) (started : os.Started) (H : Type) (enc : TypeId × Value → H) (F : Stop.Interp) :
    ReturnsInHanded {} Try.checked os 3 .any ((Rows.OpenSpec.upto Rows.codeWritesSpec).pre6 enc Try.prog Try.f3 Rows.codeWritesUptoRow.domain false) (((Rows.OpenSpec.upto Rows.codeWritesSpec).at F).post enc Try.prog Try.f3 false true false false) := by
  refine returnsInHanded_of_cond (C := Try.checked) (s := Rows.OpenSpec.upto Rows.codeWritesSpec) (k := Rows.uptoSmall) rfl ownNone started (by kernel_rfl) Try.func3
    (OpenSpec.witness (enc := enc) (C := Try.checked) (s := Rows.OpenSpec.upto Rows.codeWritesSpec) (k := Rows.uptoSmall) rfl false ⟨#[], #[.agg #[.slice none 0 0, .slice none 0 0, .slice none 0 0]], []⟩ 8 (by kernel_rfl) (by kernel_rfl) (by kernel_rfl)
      (x := ([.agg [.agg [.nil, .nil], .nil]], [], [])) (by kernel_rfl) rfl (by kernel_rfl)) ?_
  intro W base args ds gs before hval hW _ hk _
  exact contract H enc W base args ds gs before hval hW hk

theorem over : Rows.codeWritesUptoRow.holds Try.pinned (Rows.OpenSpec.upto Rows.codeWritesSpec) :=
  OpenClaim.holds_of_cond 3 Try.f3 rfl rfl rfl rfl rfl rfl rfl ⟨rfl, rfl, rfl, rfl, rfl⟩ rfl rfl rfl rfl rfl (by kernel_rfl) Try.func3 (by kernel_rfl)
    (of_decide_eq_true (by kernel_rfl)) (by unfold Func.isWrapper; first | (rw [if_pos (by decide +kernel)]; kernel_rfl) | (rw [if_neg (by decide +kernel)]; exact ⟨rfl, rfl⟩))
    (fun os started H enc _ F => lifted os started H enc F)

theorem proved : Rows.CodeWritesUptoSaid := over
end Go.Proofs.Ytnfmeaifbankjaa.codeWrites
