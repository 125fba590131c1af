import Derived.Test.YtlanabocdoacgaaDoorDLaw
set_option linter.unusedVariables false
namespace Go.Sat
open Go
def freP (b : List UInt8) : List Pc := if 0 < b.length then [.new b] else []
def repP (a n : Nat) : List Pc := if 0 < n then [.copy a n] else []
theorem enc_freP (b : List UInt8) : encL (freP b) = freB b := by
  unfold freP freB
  split <;> simp [encL, Pc.enc]
theorem enc_repP (a n : Nat) : encL (repP a n) = repB a n := by
  unfold repP repB
  split <;> simp [encL, Pc.enc]
theorem flat_freP (base b : List UInt8) : flatP base (freP b) = b := by
  unfold freP
  split
  · simp [flatP, Pc.bytes]
  · rename_i h
    have : b = [] := List.length_eq_zero_iff.1 (by omega)
    subst this
    rfl
theorem flat_repP (base : List UInt8) (a n : Nat) : flatP base (repP a n) = (base.drop a).take n := by
  unfold repP
  split
  · simp [flatP, Pc.bytes]
  · rename_i h
    have : n = 0 := by omega
    subst this
    simp [flatP]
theorem good_freP (base : Nat) (b : List UInt8) : ∀ p ∈ freP b, p.Good base := by
  intro p hp
  unfold freP at hp
  split at hp
  · rename_i h
    simp at hp
    subst hp
    exact ⟨h, trivial⟩
  · simp at hp
theorem good_repP (base a n : Nat) (h : 0 < n → a + n ≤ base) : ∀ p ∈ repP a n, p.Good base := by
  intro p hp
  unfold repP at hp
  split at hp
  · rename_i h1
    simp at hp
    subst hp
    exact ⟨h1, h h1⟩
  · simp at hp
theorem varB_len3 (n : Nat) (h : n < 2097152) : (varB n).length ≤ 3 := by
  by_cases h1 : n < 128
  · rw [varB_lt h1]; simp
  · rw [varB_ge (by omega)]
    by_cases h2 : n / 128 < 128
    · rw [varB_lt h2]; simp
    · rw [varB_ge (by omega), varB_lt (by omega)]; simp
theorem freB_len3 (b : List UInt8) (h : b.length ≤ 65536) : (freB b).length ≤ b.length + 3 := by
  unfold freB
  split
  · have := varB_len3 (2 * b.length) (by omega); rw [List.length_append]; omega
  · simp
theorem repB_len6 (a n : Nat) (h : a ≤ 65536) (h2 : n ≤ 65536) : (repB a n).length ≤ 6 := by
  unfold repB
  split
  · have := varB_len3 (2 * n + 1) (by omega)
    have := varB_len3 a (by omega)
    rw [List.length_append]; omega
  · simp
/-- The commands of the middle. -/
def midP (base b : List UInt8) (f : List UInt8 → Option Nat) : Nat → Nat → Nat → List Pc
  | 0, from_, _ => freP (b.drop from_)
  | fu + 1, from_, i =>
    if i + 16 ≤ b.length then
      match f (key8 b i) with
      | none => midP base b f fu from_ (i + 1)
      | some a => if lcp (b.drop i) (base.drop a) < 16 then midP base b f fu from_ (i + 1)
        else freP ((b.drop from_).take (i - from_)) ++ repP a (lcp (b.drop i) (base.drop a)) ++ midP base b f fu (i + lcp (b.drop i) (base.drop a)) (i + lcp (b.drop i) (base.drop a))
    else freP (b.drop from_)
theorem midP_enc (base b : List UInt8) (f : List UInt8 → Option Nat) : ∀ fu from_ i, encL (midP base b f fu from_ i) = midL base b f fu from_ i
  | 0, from_, i => by unfold midP midL; exact enc_freP _
  | fu + 1, from_, i => by
    unfold midP midL
    split
    · cases hf : f (key8 b i) with
      | none => exact midP_enc base b f fu from_ (i + 1)
      | some a =>
        simp only
        split
        · exact midP_enc base b f fu from_ (i + 1)
        · rw [encL_append, encL_append, enc_freP, enc_repP, midP_enc base b f fu]
    · exact enc_freP _
theorem midP_flat (base b : List UInt8) (f : List UInt8 → Option Nat) : ∀ fu from_ i, from_ ≤ i → flatP base (midP base b f fu from_ i) = b.drop from_
  | 0, from_, i, h => by unfold midP; exact flat_freP _ _
  | fu + 1, from_, i, h => by
    unfold midP
    split
    · split
      · exact midP_flat base b f fu from_ (i + 1) (by omega)
      · rename_i a ha
        split
        · exact midP_flat base b f fu from_ (i + 1) (by omega)
        · rw [flatP_append, flatP_append, flat_freP, flat_repP, midP_flat base b f fu _ _ (Nat.le_refl _), ← lcp_take, ← List.drop_drop, List.append_assoc, List.take_append_drop]
          have e : b.drop i = (b.drop from_).drop (i - from_) := by rw [List.drop_drop]; congr 1; omega
          rw [e, List.take_append_drop]
    · exact flat_freP _ _
theorem midP_good (base b : List UInt8) (f : List UInt8 → Option Nat) : ∀ fu from_ i, ∀ p ∈ midP base b f fu from_ i, p.Good base.length
  | 0, from_, i => by unfold midP; exact good_freP _ _
  | fu + 1, from_, i => by
    unfold midP
    split
    · split
      · exact midP_good base b f fu from_ (i + 1)
      · rename_i a ha
        split
        · exact midP_good base b f fu from_ (i + 1)
        · intro p hp
          simp only [List.mem_append] at hp
          rcases hp with (hp | hp) | hp
          · exact good_freP _ _ p hp
          · refine good_repP _ _ _ (fun h0 => ?_) p hp
            have := (lcp_le (b.drop i) (base.drop a)).2
            rw [List.length_drop] at this
            omega
          · exact midP_good base b f fu _ _ p hp
    · exact good_freP _ _
theorem midL_len3 (base b : List UInt8) (f : List UInt8 → Option Nat) (hb : b.length ≤ 65536) (hbl : base.length ≤ 65536) : ∀ fu from_ i, from_ ≤ i → i ≤ b.length → (midL base b f fu from_ i).length ≤ b.length - from_ + 3
  | 0, from_, i, h1, h2 => by have := freB_len3 (b.drop from_) (by simp; omega); unfold midL; simp at this; omega
  | fu + 1, from_, i, h1, h2 => by
    unfold midL
    split
    · split
      · exact midL_len3 base b f hb hbl fu from_ (i + 1) (by omega) (by omega)
      · rename_i a ha
        split
        · exact midL_len3 base b f hb hbl fu from_ (i + 1) (by omega) (by omega)
        · have hl := (lcp_le (b.drop i) (base.drop a)).1
          have hl2 := (lcp_le (b.drop i) (base.drop a)).2
          rw [List.length_drop] at hl hl2
          have h3 := midL_len3 base b f hb hbl fu (i + lcp (b.drop i) (base.drop a)) (i + lcp (b.drop i) (base.drop a)) (by omega) (by omega)
          have h4 := freB_len3 ((b.drop from_).take (i - from_)) (by rw [List.length_take, List.length_drop]; omega)
          rw [List.length_take, List.length_drop] at h4
          have h5 := repB_len6 a (lcp (b.drop i) (base.drop a)) (by omega) (by omega)
          rw [List.length_append, List.length_append]
          omega
    · have := freB_len3 (b.drop from_) (by simp; omega)
      simp at this; omega
def makeP (base target : List UInt8) : List Pc :=
  repP 0 (lcp base target) ++ midP base ((target.drop (lcp base target)).take (target.length - backR base target - lcp base target)) (placesF base ((base.length - 4) / 4)) ((target.drop (lcp base target)).take (target.length - backR base target - lcp base target)).length 0 0 ++ repP (base.length - backR base target) (backR base target)
theorem backR_le (base target : List UInt8) : backR base target ≤ base.length - lcp base target ∧ backR base target ≤ target.length - lcp base target := by
  have := lcp_le (base.drop (lcp base target)).reverse (target.drop (lcp base target)).reverse
  unfold backR
  simpa using this
theorem back_same (base target : List UInt8) : base.drop (base.length - backR base target) = target.drop (target.length - backR base target) := by
  obtain ⟨h1, h2⟩ := backR_le base target
  have h3 := lcp_le base target
  have h := lcp_take (base.drop (lcp base target)).reverse (target.drop (lcp base target)).reverse
  change ((base.drop (lcp base target)).reverse).take (backR base target) = ((target.drop (lcp base target)).reverse).take (backR base target) at h
  rw [List.take_reverse, List.take_reverse] at h
  have h := List.reverse_inj.1 h
  rw [List.drop_drop, List.drop_drop, List.length_drop, List.length_drop] at h
  rw [show base.length - backR base target = lcp base target + (base.length - lcp base target - backR base target) from by omega, show target.length - backR base target = lcp base target + (target.length - lcp base target - backR base target) from by omega]
  exact h
theorem makeP_flat (base target : List UInt8) : flatP base (makeP base target) = target := by
  obtain ⟨h1, h2⟩ := backR_le base target
  have h3 := lcp_le base target
  have hs := back_same base target
  unfold makeP
  rw [flatP_append, flatP_append, flat_repP, flat_repP, midP_flat _ _ _ _ _ _ (Nat.le_refl _), hs, List.drop_zero, List.drop_zero, lcp_take]
  rw [List.take_of_length_le (i := backR base target) (l := target.drop (target.length - backR base target)) (by rw [List.length_drop]; omega)]
  have e : target.drop (target.length - backR base target) = (target.drop (lcp base target)).drop (target.length - backR base target - lcp base target) := by rw [List.drop_drop]; congr 1; omega
  rw [e, List.append_assoc, List.take_append_drop, List.take_append_drop]
theorem makeP_good (base target : List UInt8) : ∀ p ∈ makeP base target, p.Good base.length := by
  obtain ⟨h1, h2⟩ := backR_le base target
  have h3 := lcp_le base target
  intro p hp
  unfold makeP at hp
  simp only [List.mem_append] at hp
  rcases hp with (hp | hp) | hp
  · exact good_repP _ _ _ (fun _ => by omega) p hp
  · exact midP_good _ _ _ _ _ _ p hp
  · exact good_repP _ _ _ (fun _ => by omega) p hp
theorem makeP_len (base target : List UInt8) : lenL (makeP base target) = target.length := by
  rw [← flatP_len base _ (makeP_good base target), makeP_flat]
theorem makeR_del (base target : List UInt8) : makeR base target = delB base.length (makeP base target) := by
  unfold delB
  rw [makeP_len]
  unfold makeP makeR midR
  rw [encL_append, encL_append, enc_repP, enc_repP, midP_enc]
  simp only [List.append_assoc]
theorem make_good (base target : List UInt8) (hb : base.length ≤ 65536) (ht : target.length ≤ 65536) : appR base (makeR base target) = (target, 0) := by
  rw [makeR_del, appR_good base _ (makeP_good base target) hb (by rw [makeP_len]; exact ht), makeP_flat]
theorem make_size (base target : List UInt8) (hb : base.length ≤ 65536) (ht : target.length ≤ 65536) : sizeR (makeR base target) = (base.length, target.length, 0) := by
  rw [makeR_del, sizeR_good _ _ hb (by rw [makeP_len]; exact ht), makeP_len]
theorem make_part (base target : List UInt8) (j : Nat) (hb : base.length ≤ 65536) (ht : target.length ≤ 65536) (hj : j < (makeR base target).length) : appR base ((makeR base target).take j) = ([], 70) := by
  rw [makeR_del] at hj ⊢
  exact appR_part base _ j (makeP_good base target) hb (by rw [makeP_len]; exact ht) hj
theorem make_more (base target r : List UInt8) (hb : base.length ≤ 65536) (ht : target.length ≤ 65536) (hr : r ≠ []) : appR base (makeR base target ++ r) = ([], 70) := by
  rw [makeR_del]
  exact appR_more base _ r (makeP_good base target) hb (by rw [makeP_len]; exact ht) hr
theorem make_base (base target b : List UInt8) (hb : base.length ≤ 65536) (hne : base.length ≠ b.length) : appR b (makeR base target) = ([], 71) := by
  rw [makeR_del]
  exact appR_base b _ _ hb hne
theorem make_two (base target : List UInt8) : 2 ≤ (makeR base target).length := by
  have h1 := varB_pos base.length
  have h2 := varB_pos target.length
  unfold makeR
  simp only [List.length_append]
  omega
theorem make_len (base target : List UInt8) (hb : base.length ≤ 65536) (ht : target.length ≤ 65536) : (makeR base target).length + lcp base target + backR base target ≤ target.length + 32 := by
  obtain ⟨h1, h2⟩ := backR_le base target
  have h3 := lcp_le base target
  have v1 := varB_len3 base.length (by omega)
  have v2 := varB_len3 target.length (by omega)
  have r1 := repB_len6 0 (lcp base target) (by omega) (by omega)
  have r2 := repB_len6 (base.length - backR base target) (backR base target) (by omega) (by omega)
  have hml : ((target.drop (lcp base target)).take (target.length - backR base target - lcp base target)).length = target.length - backR base target - lcp base target := by rw [List.length_take, List.length_drop]; omega
  have m := midL_len3 base ((target.drop (lcp base target)).take (target.length - backR base target - lcp base target)) (placesF base ((base.length - 4) / 4)) (by omega) hb ((target.drop (lcp base target)).take (target.length - backR base target - lcp base target)).length 0 0 (Nat.le_refl _) (Nat.zero_le _)
  unfold makeR midR
  simp only [List.length_append]
  omega
end Go.Sat
