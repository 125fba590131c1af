/- PROVED: satchellaw1.CodeMany returns true and leaves its argument as it was, whatever the number and the lists of bytes. CONDITION: what it reads holds together at most 1048576 values and letters (the statement's own). -/
import Derived.Test.YtnfmeaifbankjaaArgsRows
set_option linter.unusedVariables false
namespace Go.Proofs.Ytnfmeaifbankjaa.codeMany
open Go Go.RowKit Go.Sat Go.ChangeShapes Go.WideShapes Go.ChangeAt Go.Deep

set_option maxRecDepth 100000 in
theorem contract (H : Type) (enc : TypeId × Value → H) (W : World) (base : Nat) (args : Array Value) (ds gs : List (DataW H)) (before : List MemPlace)
    (hval : ∀ (j : Nat) t v, Try.f4.params[j]? = some t → args[j]? = some v → Value.okWide Try.prog W .any base t v)
    (hW : DataW.Whole enc Try.prog Try.f4.params.toList Rows.codeManySpec.vars false W args.toList ds gs before) (hk : Rows.uptoSmall H (ds ++ gs) = true) :
    Calls Try.prog 4 args W fun e W' => ∃ v, e = .returned v ∧ Rows.codeManySpec.post enc Try.prog Try.f4 false true false false W args v W' := by
  have hW' := hW
  obtain ⟨p, q, hA0, hV, rfl, hfz, hnd⟩ := hW
  have hA : DataW.TrodAll enc Try.prog W 0 (fun _ => true) true Try.f4.params.toList args.toList ds p := hA0
  rw [Try.params4] at hA hval
  obtain ⟨v0, vs0, d0, ds0, p0, q0, hargs, rfl, rfl, h0, r0⟩ := trodAll_cons hA
  obtain ⟨rfl, rfl, rfl⟩ := trodAll_nil r0
  obtain rfl : args = #[v0] := by cases args; simp_all
  obtain ⟨rfl, rfl⟩ := trodVars_none hV
  have h0k := h0
  have hlt : ∀ x ∈ p0, x.block < W.heap.size := fun x hx => by simpa using hW'.lt x (by simpa using hx)
  have ok0 : Value.okWide Try.prog W .any base 42 v0 := hval 0 _ v0 rfl rfl
  simp only [Value.okWide, Try.underlying42] at ok0
  obtain ⟨cs, rfl, hcs, _⟩ := ok0
  have k1 : Try.prog.cellsOf 3 = 1 := by kernel_rfl
  have k2 : Try.prog.cellsOf 40 = 1 := by kernel_rfl
  obtain ⟨fuel, h0⟩ := h0
  obtain ⟨xs, n, rfl, hx, hl, hlen, hf⟩ := DataW.trod_struct Try.underlying42 h0
  have hl2 : cs.toList.length = 2 := hl.trans (by kernel_rfl)
  obtain ⟨cl⟩ := cs
  match cl, hl2, xs, hlen with
  | [nv, vo], _, [x0, x1], _ =>
    have g0 := hf 0 _ rfl
    have g1 := hf 1 _ rfl
    simp [k1, k2] at g0 g1
    obtain ⟨pn, e0, _, b0⟩ := DataW.trod_int Try.underlying3 g0
    obtain ⟨v, bs, e1, hrows, hbulk⟩ := open_rows g1
    obtain rfl : vo = v := by injection e1
    obtain rfl : nv = .int .i64 pn := by first | exact e0 | (injection e0) | simpa using e0
    simp only [Prod.mk.injEq, List.map_cons, List.map_nil] at hx
    have hd0 := hx.1
    subst hd0
    have hb : bulkRows bs ≤ 2000000 := by
      simp [Rows.uptoSmall, Rows.uptoBulk, Rows.uptoBulkAll] at hk
      omega
    clear hA0
    simp only [List.append_nil] at hW'
    refine (codeMany_walk pn vo bs W (lit_bounds_i64 b0) hrows hb).mono fun e W' ⟨he, hg⟩ => ?_
    subst he
    have hbelow := hg.below
    exact ⟨_, rfl, ⟨_, _, _, [], p0, [], hW', trodAll_mk1 (shut_bool Try.underlying4 _), trodAll_mk1 (Below.trod laidOut (by kernel_rfl) (of_decide_eq_true (by kernel_rfl)) h0k hbelow hlt), rfl, hbelow.frame _, fun h => by cases h⟩⟩

set_option maxRecDepth 100000 in
theorem lifted (os : Os) (started : os.Started) (H : Type) (enc : TypeId × Value → H) (F : Stop.Interp) :
    ReturnsInHanded {} Try.checked os 4 .any ((Rows.OpenSpec.upto Rows.codeManySpec).pre6 enc Try.prog Try.f4 Rows.codeManyUptoRow.domain false) (((Rows.OpenSpec.upto Rows.codeManySpec).at F).post enc Try.prog Try.f4 false true false false) := by
  refine returnsInHanded_of_cond (C := Try.checked) (s := Rows.OpenSpec.upto Rows.codeManySpec) (k := Rows.uptoSmall) rfl ownNone started (by kernel_rfl) Try.func4
    (OpenSpec.witness (enc := enc) (C := Try.checked) (s := Rows.OpenSpec.upto Rows.codeManySpec) (k := Rows.uptoSmall) rfl false ⟨#[], #[.agg #[.int .i64 0, .slice none 0 0]], []⟩ 8 (by kernel_rfl) (by kernel_rfl) (by kernel_rfl)
      (x := ([.agg [.lit (.int .i64 0), .nil]], [], [])) (by kernel_rfl) rfl (by kernel_rfl)) ?_
  intro W base args ds gs before hval hW _ hk _
  exact contract H enc W base args ds gs before hval hW hk

theorem over : Rows.codeManyUptoRow.holds Try.pinned (Rows.OpenSpec.upto Rows.codeManySpec) :=
  OpenClaim.holds_of_cond 4 Try.f4 rfl rfl rfl rfl rfl rfl rfl ⟨rfl, rfl, rfl, rfl, rfl⟩ rfl rfl rfl rfl rfl (by kernel_rfl) Try.func4 (by kernel_rfl)
    (of_decide_eq_true (by kernel_rfl)) (by unfold Func.isWrapper; first | (rw [if_pos (by decide +kernel)]; kernel_rfl) | (rw [if_neg (by decide +kernel)]; exact ⟨rfl, rfl⟩))
    (fun os started H enc _ F => lifted os started H enc F)

theorem proved : Rows.CodeManyUptoSaid := over
end Go.Proofs.Ytnfmeaifbankjaa.codeMany
