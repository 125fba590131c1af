import Derived.Test.YtlanabocdoacgaaDoorReader3
set_option linter.unusedVariables false
namespace Go.Proofs.YtlanabocdoacgaaDoor
open Go Go.RowKit Go.Sat

theorem vr_bad {l : List UInt8} {most : Nat} {m : Nat} (h : vr l most = .bad m) : 1 ≤ m ∧ m ≤ 3 := by
  unfold vr at h
  split at h
  · split at h <;> (cases h; omega)
  · split at h
    · cases h; omega
    · split at h
      · cases h; omega
      · cases h
theorem vr_ok {l : List UInt8} {most n k : Nat} (h : vr l most = .ok n k) : k ≤ l.length ∧ n ≤ most ∧ 0 < k ∧ n = val (l.take k) := by
  unfold vr at h
  split at h
  · split at h <;> cases h
  · rename_i j hj
    split at h
    · cases h
    · split at h
      · cases h
      · cases h
        have := endAt_lt l j hj
        exact ⟨by omega, by omega, by omega, rfl⟩
theorem RS.var_ok {s : RS} (h : s.Ok) (most : Nat) : (s.var most).2.Ok ∧ (s.var most).1 ≤ most ∧ (s.var most).2.l = s.l := by
  unfold RS.var
  split
  · exact ⟨h, Nat.zero_le _, rfl⟩
  · cases hv : vr s.look most with
    | bad m => exact ⟨RS.fall_ok h (by have := vr_bad hv; omega), Nat.zero_le _, rfl⟩
    | ok n k =>
      have h1 := vr_ok hv
      have h2 := RS.look_len_eq h
      have h3 := h.le
      exact ⟨⟨by simp only [RS.aft]; unfold RS.left at h2; omega, h.met⟩, h1.2.1, rfl⟩

end Go.Proofs.YtlanabocdoacgaaDoor
