import Derived.Test.YtlanabocdoacgaaDoorArr
set_option linter.unusedVariables false
namespace Go.Sat
open Go Go.RowKit
/-- A struct of n cells. -/
def Wide (P : Program) (ty : TypeId) (n : Nat) : Prop := (∃ fs, P.underlying ty = some (.struct fs)) ∧ (P.info? ty).map (·.size) = some n
theorem wpl_load_wide {P : Program} {ops : Array Oper} {rest : List Oper} {o : Oper} {a : Act} {Q : Exit → Act → World → Prop} {w : World} (hw : Region.wanted o (yielded ops a.tmps) = true) (ty : TypeId) (x : Operand)
    (ho : o.op = .load ty x) {g : Nat} (hx : a.eval x = .pointer (some ⟨g, 0, none⟩)) {T : TypeId} {cs : Array Value} (hb : Blk w g T cs) (hu : Wide P ty cs.size)
    (h : wpList P ops Q rest (a.put o.dst (.agg cs)) w) : wpList P ops Q (o :: rest) a w := by
  obtain ⟨⟨fs, h1⟩, h3⟩ := hu
  refine BigFrame.wpList_want hw fun K hK => ?_
  unfold Oper.wp execOp
  simp only [ho, hx, Instr.loadAt, Instr.sureAddr, Sem.run_bind, Sem.run_pure, Result.andThen_ok, run_loadVar_row w g T ty cs (0, 0) _ hb h1 rfl h3]
  exact hK _ _ h
/-- Two results, the first of them a struct or an array in memory. -/
theorem results_wide_tmp {P : Program} {fn : Func} {c u : Tmp} {ty : TypeId} (h : fn.results = #[.cell c ty, .tmp u]) {tmps : Array Value} {w : World} {g : Nat} (hc : tmps.getD c undef = .pointer (some ⟨g, 0, none⟩)) {T : TypeId} {cs : Array Value}
    (hb : Blk w g T cs) (hu : Wide P ty cs.size) {v : Value} (hv : tmps.getD u undef = v) :
    (results fn tmps).run P w = .ok (.tuple #[.agg cs, v]) w := by
  subst hv
  obtain ⟨⟨fs, h1⟩, h3⟩ := hu
  have hc' : tmps[c]?.getD undef = .pointer (some ⟨g, 0, none⟩) := by simpa using hc
  simp [results, h, hc', asAddr, run_loadVar_row w g T ty cs (0, 0) _ hb h1 rfl h3]
end Go.Sat
