import Derived.Test.YtlanabocdoacgaaDoorEye3
set_option linter.unusedVariables false
namespace Go.Proofs.YtlanabocdoacgaaDoor
open Go Go.RowKit Go.Sat

theorem RS.var_p {s : RS} (h : s.met = 0) (most : Nat) (hb : (s.var most).2.met ≠ 0) : (s.var most).2.p = s.p := by
  unfold RS.var at hb ⊢
  rw [if_neg (by simp [h])] at hb ⊢
  cases hv : vr s.look most with
  | bad m => rfl
  | ok n k => rw [hv] at hb; exact (hb h).elim
theorem RS.var_bad {s : RS} (h : s.met ≠ 0) (most : Nat) : s.var most = (0, s) := by unfold RS.var; rw [if_pos h]

end Go.Proofs.YtlanabocdoacgaaDoor
