import Derived.Test.YtnfmeaifbankjaaDoorEyeD
import Derived.Test.YtnfmeaifbankjaaDoorArgs
import Derived.Test.YtnfmeaifbankjaaDoorCards
import Derived.Test.YtnfmeaifbankjaaDoorTie
import Derived.Deep.DeepHandedRow
import Derived.Lib.LaidTab
set_option linter.unusedVariables false
namespace Go.Proofs.YtnfmeaifbankjaaDoor
open Go Go.RowKit Go.Sat Go.ChangeShapes Go.WideShapes Go.ChangeAt Go.Deep

theorem gErr : Tryd.prog.globalNamed "satchel/code.errnos" = some 0 := by kernel_rfl
theorem gErrType : (Tryd.prog.globals[0]?).map (·.type) = some 64 := by kernel_rfl
theorem cellsErrs : Tryd.prog.cellsOf 64 = 5 := by kernel_rfl
theorem cellsErr : Tryd.prog.cellsOf 43 = 1 := by kernel_rfl
/-- What the row's list gives: the table of errors. -/
theorem errnos_of {W : World} (h : laidMetH Tryd.prog [("satchel/code.errnos", Rows.laid_satchel_code_errnos)] W) : Errnos W := by
  have ht : Lib.TabIs Tryd.prog W "satchel/code.errnos" .i64 [0, 10, 11, 12, 14] := Lib.tabIs_of_head (rest := []) gErr gErrType Tryd.underlying64 Tryd.underlying43 cellsErr cellsErrs h
  intro i hi
  have := ht.cell gErr i (by simpa using hi)
  rw [this]
  match i, hi with
  | 0, _ => rfl
  | 1, _ => rfl
  | 2, _ => rfl
  | 3, _ => rfl
  | 4, _ => rfl

section
variable {H : Type} {enc : TypeId × Value → H} {w : World} {base : Nat} {spare : Nat → Bool} {held : Bool}
set_option maxRecDepth 100000 in
/-- Two slices of bytes in an array, opened. -/
theorem open_two {fuel : Nat} {cs : List Value} {x : DataW H × List MemPlace} (h : DataW.trod enc Tryd.prog w base spare held fuel 23 cs = some x) :
    ∃ v0 v1 l0 l1, cs = [v0, v1] ∧ Rd w v0 l0 ∧ Rd w v1 l1 ∧ (∀ k, rdb v0 = some k → k < w.heap.size) ∧ (∀ k, rdb v1 = some k → k < w.heap.size) ∧ l0.length + l1.length ≤ Rows.uptoBulk x.1 := by
  obtain ⟨xs, n, rfl, rfl, hl, hlen, hf⟩ := DataW.trod_array Tryd.underlying23 h
  have k3 : Tryd.prog.cellsOf 22 = 1 := by kernel_rfl
  have hl2 : cs.length = 2 := hl.trans (by kernel_rfl)
  match cs, hl2, xs, hlen with
  | [c0, c1], _, [x0, x1], _ =>
    have g0 := hf 0 (by omega)
    have g1 := hf 1 (by omega)
    simp [k3] at g0 g1
    obtain ⟨v0, l0, e0, r0, t0, b0⟩ := open_rd g0
    obtain ⟨v1, l1, e1, r1, t1, b1⟩ := open_rd g1
    simp only [List.cons.injEq, and_true] at e0 e1
    subst e0 e1
    refine ⟨c0, c1, l0, l1, rfl, r0, r1, t0, t1, ?_⟩
    simp [Rows.uptoBulk, Rows.uptoBulkAll]
    omega
end
/-- What a walk over a script shows. -/
def ScriptWalk (f : FuncId) : Prop := ∀ (i0 i1 vo : Value) (ls0 ls1 : List UInt8) (ops : List OpV) (W : World), Rd W i0 ls0 → Rd W i1 ls1 → (∀ k, rdb i0 = some k → k < W.heap.size) → (∀ k, rdb i1 = some k → k < W.heap.size) → ls0.length ≤ 2000000 → ls1.length ≤ 2000000 →
  RdOps W vo ops → bulkOps ops ≤ 2000000 → Errnos W → Calls Tryd.prog f #[.agg #[i0, i1, vo]] W fun e w' => e = .returned (.bool true) ∧ Chg (fun _ => False) W w'
/-- A world for the witness: the settled one, the table (block 0) holding what its initialiser lays. -/
noncomputable def laidWorld (os : Os) : World :=
  { World.holding Tryd.prog os ⟨#[], #[], []⟩ with heap := (World.holding Tryd.prog os ⟨#[], #[], []⟩).heap.modify 0 fun
      | .cells _ t frozen => .cells #[.int .i64 0, .int .i64 10, .int .i64 11, .int .i64 12, .int .i64 14] t frozen
      | o => o }
def wArgs : Array Value := #[.agg #[.slice none 0 0, .slice none 0 0, .slice none 0 0]]
theorem laid_met (os : Os) : laidMet Tryd.prog [("satchel/code.errnos", Rows.laid_satchel_code_errnos)] ((laidWorld os).forCall (fun _ _ => 0) ⟨#[], wArgs, []⟩).memory :=
  laidMet_of_run' 8 (by kernel_rfl) (by kernel_rfl)
end Go.Proofs.YtnfmeaifbankjaaDoor
