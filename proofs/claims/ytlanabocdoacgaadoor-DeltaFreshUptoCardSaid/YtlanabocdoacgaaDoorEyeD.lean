import Derived.Test.YtlanabocdoacgaaDoorEye4
import Derived.Test.YtlanabocdoacgaaDoorReaderD
set_option linter.unusedVariables false
namespace Go.Proofs.YtlanabocdoacgaaDoor
open Go Go.RowKit Go.Sat

/-- The program's table of errors. -/
def Errnos (w : World) : Prop := ∀ i, i < 5 → w.cell? ⟨0, i, none⟩ = some (.int .i64 (errO i))
theorem Errnos.kept {S : Nat → Prop} {w w' : World} (h : Errnos w) (hc : Chg S w w') (hS : ¬ S 0) : Errnos w' := fun i hi => by
  rw [hc.cell (p := ⟨0, i, none⟩) (World.block_lt_of_cell? w _ (h i hi)) hS]; exact h i hi
/-- What End answers. -/
def endO (s : RS) : Int := if s.met = 0 ∧ 0 < s.left then 13 else errO s.met

set_option maxRecDepth 100000 in
theorem rfault_any (pb : Nat) (v : Value) (T : TypeId) (s : RS) (w : World) (h : IsR w pb v T met s) (hE : Errnos w) :
    Calls Tryd.prog 32 #[.pointer (some ⟨pb, 0, none⟩)] w fun e w' => e = .returned (.int .i64 (errO s.met)) ∧ w = w' := by
  obtain ⟨-, -, c2, -, -⟩ := h.facts
  have hm := h.ok.met
  have hc := hE s.met (by omega)
  simp only [met] at c2
  clear h hE
  go_enter Tryd.func32, Tryd.ntmps32
  go_wp2_with fail
  go_ret
  exact ⟨rfl, rfl⟩
theorem errO_eq (m : Nat) : ((errO m) == 0) = (m == 0) := by
  have := errO_zero m
  rw [bne, bne] at this
  simpa using this
end Go.Proofs.YtlanabocdoacgaaDoor
