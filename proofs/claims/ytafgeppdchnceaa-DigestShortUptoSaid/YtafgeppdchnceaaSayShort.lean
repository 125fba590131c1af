/- PROVED: satchellaw2.DigestShort returns true and leaves its argument as it was, whatever the list of ids, the id and the prefix. CONDITION: what it reads holds together at most 1048576 values and letters (the statement's own). -/
import Derived.Test.YtafgeppdchnceaaDigestShort
import Derived.Test.YtafgeppdchnceaaArgsIds
set_option linter.unusedVariables false
namespace Go.Proofs.Ytafgeppdchnceaa.digestShort
open Go Go.RowKit Go.Sat Go.ChangeShapes Go.WideShapes Go.ChangeAt Go.Deep

set_option maxRecDepth 100000 in
set_option maxHeartbeats 400000 in
theorem contract (H : Type) (enc : TypeId × Value → H) (W : World) (base : Nat) (args : Array Value) (ds gs : List (DataW H)) (before : List MemPlace)
    (hval : ∀ (j : Nat) t v, Try.f3.params[j]? = some t → args[j]? = some v → Value.okWide Try.prog W .any base t v)
    (hW : DataW.Whole enc Try.prog Try.f3.params.toList Rows.digestShortSpec.vars false W args.toList ds gs before) (hk : Rows.uptoSmall H (ds ++ gs) = true) :
    Calls Try.prog 3 args W fun e W' => ∃ v, e = .returned v ∧ Rows.digestShortSpec.post enc Try.prog Try.f3 false true false false W args v W' := by
  have hW' := hW
  obtain ⟨p, q, hA0, hV, rfl, hfz, hnd⟩ := hW
  have hA : DataW.TrodAll enc Try.prog W 0 (fun _ => true) true Try.f3.params.toList args.toList ds p := hA0
  rw [Try.params3] at hA hval
  obtain ⟨v0, vs0, d0, ds0, p0, q0, hargs, rfl, rfl, h0, r0⟩ := trodAll_cons hA
  obtain ⟨rfl, rfl, rfl⟩ := trodAll_nil r0
  obtain rfl : args = #[v0] := by cases args; simp_all
  obtain ⟨rfl, rfl⟩ := trodVars_none hV
  have h0k := h0
  have hlt : ∀ x ∈ p0, x.block < W.heap.size := fun x hx => by simpa using hW'.lt x (by simpa using hx)
  have ok0 : Value.okWide Try.prog W .any base 27 v0 := hval 0 _ v0 rfl rfl
  simp only [Value.okWide, Try.underlying27] at ok0
  obtain ⟨cs, rfl, hcs, _⟩ := ok0
  have k1 : Try.prog.cellsOf 24 = 32 := by kernel_rfl
  have k2 : Try.prog.cellsOf 22 = 1 := by kernel_rfl
  have k3 : Try.prog.cellsOf 25 = 1 := by kernel_rfl
  obtain ⟨fuel, h0⟩ := h0
  obtain ⟨cl⟩ := cs
  replace h0 : DataW.trod enc Try.prog W 0 (fun _ => true) true fuel 27 cl = some (d0, p0) := h0
  obtain ⟨xs, n, rfl, hx, hl, hlen, hf⟩ := DataW.trod_struct Try.underlying27 h0
  have hl34 : cl.length = 34 := hl.trans (by kernel_rfl)
  obtain ⟨lv, rest, rfl⟩ : ∃ sv rest, cl = sv :: rest := by
    cases cl with
    | nil => simp at hl34
    | cons sv rest => exact ⟨_, _, rfl⟩
  obtain ⟨x0, x1, x2, rfl⟩ : ∃ x0 x1 x2, xs = [x0, x1, x2] := by
    match xs, hlen with
    | [x0, x1, x2], _ => exact ⟨_, _, _, rfl⟩
  have g0 := hf 0 _ rfl
  have g1 := hf 1 _ rfl
  have g2 := hf 2 _ rfl
  simp [k1, k2, k3] at g0 g1 g2
  have hr : rest.length = 33 := by simpa using hl34
  obtain ⟨lv', ls, e0, hids, hbulk⟩ := open_ids g0
  obtain ⟨d, e1, hd⟩ := open_arr Try.underlying24 Try.underlying5 (by kernel_rfl) k1 g1
  obtain ⟨pv, pl, e2, hrd, _, _⟩ := open_bytes Try.underlying25 Try.underlying5 (by kernel_rfl) g2
  obtain rfl : lv = lv' := by injection e0
  obtain ⟨pa, pc, rfl, _⟩ := hrd.form
  have hrest : rest = bcells d ++ [Value.slice pa pl.length pc] := by
    have h32 : rest.drop 32 = [Value.slice pa pl.length pc] := by
      rw [← e2, List.take_of_length_le (by simp; omega)]
    rw [← List.take_append_drop 32 rest, e1, h32]
  subst hrest
  simp only [Prod.mk.injEq, List.map_cons, List.map_nil] at hx
  have hd0 := hx.1
  subst hd0
  have hb : ls.length ≤ 1000000000 := by
    simp [Rows.uptoSmall, Rows.uptoBulk, Rows.uptoBulkAll] at hk
    omega
  clear hA0
  simp only [List.append_nil] at hW'
  refine (digestShort_walk lv (.slice pa pl.length pc) ls d W hd hids hb ⟨_, _, _, rfl⟩).mono fun e W' ⟨he, hg⟩ => ?_
  subst he
  have hbelow := hg.below
  exact ⟨_, rfl, ⟨_, _, _, [], p0, [], hW', trodAll_mk1 (shut_bool Try.underlying4 _), trodAll_mk1 (Below.trod laidOut (by kernel_rfl) (of_decide_eq_true (by kernel_rfl)) h0k hbelow hlt), rfl, hbelow.frame _, fun h => by cases h⟩⟩

set_option maxRecDepth 100000 in
theorem lifted (os : Os) (started : os.Started) (H : Type) (enc : TypeId × Value → H) (F : Stop.Interp) :
    ReturnsInHanded {} Try.checked os 3 .any ((Rows.OpenSpec.upto Rows.digestShortSpec).pre6 enc Try.prog Try.f3 Rows.digestShortUptoRow.domain false) (((Rows.OpenSpec.upto Rows.digestShortSpec).at F).post enc Try.prog Try.f3 false true false false) := by
  refine returnsInHanded_of_cond (C := Try.checked) (s := Rows.OpenSpec.upto Rows.digestShortSpec) (k := Rows.uptoSmall) rfl ownNone started (by kernel_rfl) Try.func3
    (OpenSpec.witness (enc := enc) (C := Try.checked) (s := Rows.OpenSpec.upto Rows.digestShortSpec) (k := Rows.uptoSmall) rfl false ⟨#[], #[.agg (Value.slice none 0 0 :: (bcells (List.replicate 32 0) ++ [Value.slice none 0 0])).toArray], []⟩ 8 (by kernel_rfl) (by kernel_rfl) (by kernel_rfl)
      (x := ([.agg [.nil, .agg (List.replicate 32 (.lit (.int .u8 0))), .nil]], [], [])) (by kernel_rfl) rfl (by kernel_rfl)) ?_
  intro W base args ds gs before hval hW _ hk _
  exact contract H enc W base args ds gs before hval hW hk

theorem over : Rows.digestShortUptoRow.holds Try.pinned (Rows.OpenSpec.upto Rows.digestShortSpec) :=
  OpenClaim.holds_of_cond 3 Try.f3 rfl rfl rfl rfl rfl rfl rfl ⟨rfl, rfl, rfl, rfl, rfl⟩ rfl rfl rfl rfl rfl (by kernel_rfl) Try.func3 (by kernel_rfl)
    (of_decide_eq_true (by kernel_rfl)) (by unfold Func.isWrapper; first | (rw [if_pos (by decide +kernel)]; kernel_rfl) | (rw [if_neg (by decide +kernel)]; exact ⟨rfl, rfl⟩))
    (fun os started H enc _ F => lifted os started H enc F)

theorem proved : Rows.DigestShortUptoSaid := over
end Go.Proofs.Ytafgeppdchnceaa.digestShort
