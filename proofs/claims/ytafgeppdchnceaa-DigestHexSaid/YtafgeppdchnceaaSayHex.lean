/- PROVED: satchellaw2.DigestHex returns true and leaves its argument as it was, whatever the text and the id. CONDITIONS: none beyond the statement's own. -/
import Derived.Test.YtafgeppdchnceaaDigestHex
import Derived.Test.YtafgeppdchnceaaArgsD
set_option linter.unusedVariables false
namespace Go.Proofs.Ytafgeppdchnceaa.digestHex
open Go Go.RowKit Go.Sat Go.ChangeShapes Go.WideShapes Go.ChangeAt Go.Deep

set_option maxRecDepth 100000 in
set_option maxHeartbeats 400000 in
theorem lifted (os : Os) (started : os.Started) (H : Type) (enc : TypeId × Value → H) :
    ReturnsInHanded {} Try.checked os 4 .any (Rows.digestHexSpec.pre6 enc Try.prog Try.f4 Rows.digestHexRow.domain false) (Rows.digestHexSpec.post enc Try.prog Try.f4 false true false false) := by
  refine returnsInHanded_of_change (C := Try.checked) ownNone started (by kernel_rfl) Try.func4
    (ChangeSpec.witness6 (enc := enc) (C := Try.checked) false ⟨#[], #[.agg (Value.slice none 0 0 :: bcells (List.replicate 32 0)).toArray], []⟩ 8 (by kernel_rfl) (by kernel_rfl) (by kernel_rfl) (by kernel_rfl)) ?_
  intro W base args ds gs before hval0 hW hcnd _
  have hval : ∀ (j : Nat) t v, Try.f4.params[j]? = some t → args[j]? = some v → Value.okWide Try.prog W .any base t v := hval0
  have hW' := hW
  obtain ⟨p, q, hA0, hV, rfl, hfz, hnd⟩ := hW
  have hA : DataW.TrodAll enc Try.prog W 0 (fun _ => true) true Try.f4.params.toList args.toList ds p := hA0
  rw [Try.params4] at hA hval
  obtain ⟨v0, vs0, d0, ds0, p0, q0, hargs, rfl, rfl, h0, r0⟩ := trodAll_cons hA
  obtain ⟨rfl, rfl, rfl⟩ := trodAll_nil r0
  obtain rfl : args = #[v0] := by cases args; simp_all
  obtain ⟨rfl, rfl⟩ := trodVars_none hV
  have h0k := h0
  have hlt : ∀ x ∈ p0, x.block < W.heap.size := fun x hx => by simpa using hW'.lt x (by simpa using hx)
  have ok0 : Value.okWide Try.prog W .any base 36 v0 := hval 0 _ v0 rfl rfl
  simp only [Value.okWide, Try.underlying36] at ok0
  obtain ⟨cs, rfl, hcs, _⟩ := ok0
  have k1 : Try.prog.cellsOf 24 = 32 := by kernel_rfl
  have k2 : Try.prog.cellsOf 25 = 1 := by kernel_rfl
  obtain ⟨fuel, h0⟩ := h0
  obtain ⟨cl⟩ := cs
  replace h0 : DataW.trod enc Try.prog W 0 (fun _ => true) true fuel 36 cl = some (d0, p0) := h0
  obtain ⟨xs, n, rfl, hx, hl, hlen, hf⟩ := DataW.trod_struct Try.underlying36 h0
  have hl33 : cl.length = 33 := hl.trans (by kernel_rfl)
  obtain ⟨sv, rest, rfl⟩ : ∃ sv rest, cl = sv :: rest := by
    cases cl with
    | nil => simp at hl33
    | cons sv rest => exact ⟨_, _, rfl⟩
  obtain ⟨x0, x1, rfl⟩ : ∃ x0 x1, xs = [x0, x1] := by
    match xs, hlen with
    | [x0, x1], _ => exact ⟨_, _, rfl⟩
  have g0 := hf 0 _ rfl
  have g1 := hf 1 _ rfl
  simp [k1, k2] at g0 g1
  have hr : rest.length = 32 := by simpa using hl33
  rw [List.take_of_length_le (by omega)] at g1
  obtain ⟨v, l, e0, hrd, _, _⟩ := open_bytes Try.underlying25 Try.underlying5 (by kernel_rfl) g0
  obtain ⟨d, rfl, hd⟩ := open_arr Try.underlying24 Try.underlying5 (by kernel_rfl) k1 g1
  obtain rfl : sv = v := by injection e0
  clear hA0 hval0
  simp only [List.append_nil] at hW'
  refine (digestHex_walk sv l d W hd hrd).mono fun e W' ⟨he, hg⟩ => ?_
  subst he
  have hbelow := hg.below
  exact ⟨_, rfl, ⟨_, _, _, [], p0, [], hW', trodAll_mk1 (shut_bool Try.underlying4 _), trodAll_mk1 (Below.trod laidOut (by kernel_rfl) (of_decide_eq_true (by kernel_rfl)) h0k hbelow hlt), rfl, hbelow.frame _, fun h => by cases h⟩⟩

theorem proved : Rows.DigestHexSaid :=
  OpenClaim.holds_of_wide 4 Try.f4 rfl rfl rfl rfl rfl rfl rfl ⟨rfl, rfl, rfl, rfl, rfl⟩ rfl rfl rfl rfl rfl (by kernel_rfl) Try.func4 (by kernel_rfl)
    (of_decide_eq_true (by kernel_rfl)) (by unfold Func.isWrapper; first | (rw [if_pos (by decide +kernel)]; kernel_rfl) | (rw [if_neg (by decide +kernel)]; exact ⟨rfl, rfl⟩))
    (fun os started H enc _ => lifted os started H enc)
end Go.Proofs.Ytafgeppdchnceaa.digestHex
