import Derived.Test.YtlanabocdoacgaaDoorDPlaced2
import Derived.Maps.OwnSet
import Derived.Maps.Views
import Derived.DeepKeys4
import Derived.Laws.Cover3
set_option linter.unusedVariables false
namespace Go.Proofs.YtlanabocdoacgaaDoor
open Go Go.RowKit Go.Sat
theorem laidOut8 : laidOutB Tryd.prog = true := by kernel_rfl
theorem keyLaw8 : Maps.Keyed Tryd.prog 109 := Maps.Keyed.of_law (deep_law_laid laidOut8 (m := 2) (by decide) (of_decide_eq_true (by kernel_rfl)) (by kernel_rfl) (by kernel_rfl))
theorem wf_u8 (b : UInt8) : (Lit.int .u8 (b.toNat : Int)).wf = true := by
  have := b.toNat_lt
  simp [Lit.wf, IntKind.min, IntKind.max, IntKind.signed, IntKind.bits]; omega
theorem lits1 (n : Nat) (b : UInt8) : Tryd.prog.keyLits (n + 1) 5 [.int .u8 (b.toNat : Int)] = some [.int .u8 (b.toNat : Int)] := by
  have := wf_u8 b
  simp [Program.keyLits, Tryd.underlying5, this]
theorem bytes1 (b : UInt8) : (Lit.int .u8 (b.toNat : Int)).keyBytes = [b] := by
  have := b.toNat_lt
  have e : ((b.toNat : Int) % 2 ^ IntKind.u8.bits).toNat = b.toNat := by simp [IntKind.bits]; omega
  simp only [Lit.keyBytes, e]
  simp [IntKind.bits, bytesBE, bytesLE]
theorem keyOf8 (k : List UInt8) (h : k.length = 8) : keyOf Tryd.prog 109 (.agg (bcells k).toArray) = some (.string k) := by
  have h1 : Tryd.prog.keyType 109 = true := by kernel_rfl
  have h2 : Tryd.prog.cellsOf 109 = 8 := by kernel_rfl
  have h3 : Tryd.prog.cellsOf 5 = 1 := by kernel_rfl
  obtain ⟨S, hS⟩ : ∃ S, Tryd.prog.types.size = S + 1 := ⟨Tryd.prog.types.size - 1, by kernel_rfl⟩
  match k, h with
  | [a, b, c, d, e, f, g, i], _ =>
    unfold keyOf
    simp only [Tryd.underlying109, h1, Value.formed, h2, hS]
    have hr : List.range 8 = [0, 1, 2, 3, 4, 5, 6, 7] := rfl
    simp [bcells, Program.keyLits, Tryd.underlying109, Tryd.underlying5, h2, h3, Value.cells, wf_u8, hr, keyBytes, bytes1]
/-- Block b is a map of at most n entries: key k leads to f k. -/
def MapIs (w : World) (b n : Nat) (f : List UInt8 → Option Nat) : Prop :=
  ∃ D : DataW Unit, w.ownsMap Tryd.prog 109 (plainElem Tryd.prog 3) b n D ∧ ∀ k : List UInt8, k.length = 8 → Maps.has D (.string k) = (f k).isSome ∧ D.atKey (.string k) (.lit (.int .i64 0)) = .lit (.int .i64 ((f k).getD 0 : Nat))
theorem MapIs.made (w : World) : MapIs (w.alloc (.map #[] 0)) w.heap.size 0 (fun _ => none) :=
  ⟨_, World.ownsMap_made w _ _ _, fun k _ => ⟨rfl, rfl⟩⟩
theorem MapIs.lt {w : World} {b n : Nat} {f : List UInt8 → Option Nat} (h : MapIs w b n f) : b < w.heap.size := by obtain ⟨D, h, _⟩ := h; exact h.lt
theorem MapIs.kept {S : Nat → Prop} {w w' : World} {b n : Nat} {f : List UInt8 → Option Nat} (h : MapIs w b n f) (hc : Chg S w w') (hn : ¬ S b) : MapIs w' b n f := by
  have hlt := h.lt
  obtain ⟨D, ⟨es, clock, hb, r⟩, hf⟩ := h
  exact ⟨D, ⟨es, clock, (hc.block b hlt hn).trans hb, r⟩, hf⟩
theorem MapIs.look {w : World} {b n : Nat} {f : List UInt8 → Option Nat} (h : MapIs w b n f) {k : List UInt8} (hk : k.length = 8) :
    (Instr.lookup 108 (.map (some b)) (.agg (bcells k).toArray) true).run Tryd.prog w = .ok (.tuple #[.int .i64 ((f k).getD 0 : Nat), .bool (f k).isSome]) w := by
  obtain ⟨D, h, hf⟩ := h
  obtain ⟨v, ps, hrun, hv⟩ := h.look_ok keyLaw8 Tryd.underlying108 (Tryd.zeroValue3 w) (plainElem_int Tryd.underlying3 (by decide)) (keyOf8 k hk)
  obtain ⟨c, rfl, hc, _⟩ := plainElem_int_inv Tryd.underlying3 hv
  obtain ⟨h1, h2⟩ := hf k hk
  rw [h2] at hc
  simp only [Prod.mk.injEq, DataW.lit.injEq, Lit.int.injEq, true_and] at hc
  rw [hrun, h1, ← hc.1]
theorem MapIs.put {w : World} {b n : Nat} {f : List UInt8 → Option Nat} (h : MapIs w b n f) {k : List UInt8} (hk : k.length = 8) (hn : n < maxLen) {v : Nat} (hv : v ≤ 9223372036854775807) :
    ∃ w', (Instr.mapUpdate 108 (.map (some b)) (.agg (bcells k).toArray) (.int .i64 (v : Int))).run Tryd.prog w = .ok () w' ∧ MapIs w' b (n + 1) (fun x => if x = k then some v else f x) ∧ Chg (fun q => q = b) w w' := by
  obtain ⟨D, h, hf⟩ := h
  have hwf : (Lit.int .i64 (v : Int)).wf = true := by simp [Lit.wf, IntKind.min, IntKind.max, IntKind.signed, IntKind.bits]; omega
  obtain ⟨w', hrun, h2, hg⟩ := h.update keyLaw8 Tryd.underlying108 hn (keyOf8 k hk) (plainElem_int (H := Unit) Tryd.underlying3 hwf)
  have hm : Maps.IsMap D := h.isMap
  refine ⟨w', hrun, ⟨_, h2, fun x hx => ?_⟩, Chg.of_grown hg (fun q hq _ => (Option.some.inj hq).symm)⟩
  by_cases e : x = k
  · subst e
    have hkl : WideAt.IsKeyLit (Lit.string x) := trivial
    simp only [if_true]
    exact ⟨by rw [Maps.has_put_same hm hkl]; rfl, by rw [Maps.atKey_put_same hm hkl]; rfl⟩
  · have hne : (Lit.string x) ≠ .string k := fun h => e (by injection h)
    simp only [if_neg e]
    rw [Maps.has_put_other hne, Maps.atKey_put_other hne]
    exact hf x hx
theorem wpl_look8 {ops : Array Oper} {rest : List Oper} {o : Oper} {a : Act} {Q : Exit → Act → World → Prop} {w : World} (hw : Region.wanted o (yielded ops a.tmps) = true) (m x : Operand)
    (ho : o.op = .lookup 108 m x true) {b n : Nat} {f : List UInt8 → Option Nat} {k : List UInt8} (hm : a.eval m = .map (some b)) (hM : MapIs w b n f) (hx : a.eval x = .agg (bcells k).toArray) (hk : k.length = 8)
    (h : wpList Tryd.prog ops Q rest (a.put o.dst (.tuple #[.int .i64 ((f k).getD 0 : Nat), .bool (f k).isSome])) w) : wpList Tryd.prog ops Q (o :: rest) a w := by
  refine BigFrame.wpList_want hw fun K hK => ?_
  unfold Oper.wp execOp
  have := hK _ _ h
  simpa [ho, hm, hx, hM.look hk, Result.andThen, Oper.upon] using this
theorem wpl_put8 {ops : Array Oper} {rest : List Oper} {o : Oper} {a : Act} {Q : Exit → Act → World → Prop} {w : World} (hw : Region.wanted o (yielded ops a.tmps) = true) (m x v : Operand)
    (ho : o.op = .mapUpdate 108 m x v) {b n : Nat} {f : List UInt8 → Option Nat} {k : List UInt8} {y : Nat} (hm : a.eval m = .map (some b)) (hM : MapIs w b n f) (hx : a.eval x = .agg (bcells k).toArray) (hv : a.eval v = .int .i64 (y : Int)) (hk : k.length = 8) (hn : n < maxLen) (hy : y ≤ 9223372036854775807)
    (h : ∀ w', MapIs w' b (n + 1) (fun x => if x = k then some y else f x) → Chg (fun q => q = b) w w' → wpList Tryd.prog ops Q rest (a.put o.dst undef) w') : wpList Tryd.prog ops Q (o :: rest) a w := by
  obtain ⟨w', hrun, h1, h2⟩ := hM.put hk hn hy
  refine BigFrame.wpList_want hw fun K hK => ?_
  unfold Oper.wp execOp
  have := hK _ _ (h w' h1 h2)
  simpa [ho, hm, hx, hv, hrun, Result.andThen, Oper.upon] using this
theorem run_arr8 (w : World) (a : Option Addr) (c : Nat) : (Instr.arrayAt 109 (.slice a 8 c)).run Tryd.prog w = .ok (.pointer a) w := run_arrayAt w _ _ 8 a 8 c Tryd.underlying109 (Nat.le_refl _)
end Go.Proofs.YtlanabocdoacgaaDoor
