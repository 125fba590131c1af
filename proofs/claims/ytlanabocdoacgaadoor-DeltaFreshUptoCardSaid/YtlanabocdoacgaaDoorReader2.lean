import Derived.Test.YtlanabocdoacgaaDoorReader
set_option linter.unusedVariables false
namespace Go.Proofs.YtlanabocdoacgaaDoor
open Go Go.RowKit Go.Sat

/-- A new Reader. -/
def NewR (w : World) (l : List UInt8) (e : Ending) (w' : World) : Prop :=
  ∃ pb v T, e = .returned (.pointer (some ⟨pb, 0, none⟩)) ∧ IsR w' pb v T met ⟨l, 0, 0⟩ ∧ Chg (fun _ => False) w w' ∧ w.heap.size ≤ pb ∧ ∀ k, rdb v = some k → w.heap.size ≤ k
set_option maxRecDepth 100000 in
theorem read_any (x : Value) (l : List UInt8) (w : World) (hx : Rd w x l) (hl : l.length ≤ 1000000000) :
    Calls Tryd.prog 30 #[x] w (NewR w l) := by
  go_enter Tryd.func30, Tryd.ntmps30
  go_wp2_with fail
  refine (taken_any _ l _ hx hl).mono ?_
  rintro e w1 ⟨rfl, ho, hc, hs⟩
  go_wp2_with fail
  go_ret
  have hc2 := hc.alloc (.cells #[.slice (some ⟨w.heap.size, 0, none⟩) l.length l.length, .int .i64 0, .int .i64 0] 101)
  refine ⟨w1.heap.size, _, _, rfl, ⟨Blk.new w1 _ _, (Own.rd ho).kept ((Chg.refl (fun _ => False) w1).alloc _) (fun _ _ => id), fun k hk => ?_, ⟨Nat.zero_le _, Nat.zero_le _⟩, hl⟩, hc2, hc.size, fun k hk => ?_⟩
  · simp [rdb] at hk; omega
  · simp [rdb] at hk; omega

theorem RS.fixed_lt (s : RS) (n : Nat) : (s.fixed n).1 < 256 ^ n := by
  have h := RS.num_lt (s.next n).1
  refine Nat.lt_of_lt_of_le h (Nat.pow_le_pow_right (by decide) ?_)
  unfold RS.next
  split
  · simp
  · split
    · simp
    · simp; omega
theorem Rd.lt {w : World} {x : Value} {l : List UInt8} (h : Rd w x l) {k : Nat} (hk : rdb x = some k) : k < w.heap.size := by
  by_cases h0 : 0 < l.length
  · obtain ⟨b, off, c, rfl, _, hb⟩ := h.addr h0
    simp only [rdb] at hk
    split at hk
    · cases hk
    · cases hk; exact hb
  · obtain ⟨ao, c, rfl, _⟩ := h.form
    have : l.length = 0 := by omega
    rw [this] at hk
    cases ao <;> simp [rdb] at hk
theorem eq_self_any (x y : Value) (l : List UInt8) (w : World) (hx : Rd w x l) (hy : Rd w y l) (hl : l.length ≤ 1000000000) :
    Calls Tryd.prog 15 #[x, y] w fun e w' => e = .returned (.bool true) ∧ Drawn w w' := by
  have h := eq_any x y l l w hx hy hl hl
  rwa [eqB_self] at h
end Go.Proofs.YtlanabocdoacgaaDoor
