import Derived.Test.YtafgeppdchnceaaShort
set_option linter.unusedVariables false
namespace Go.Proofs.Ytafgeppdchnceaa
open Go Go.RowKit Go.Sat

/-- How many letters two texts have in common at their beginning. -/
def cpl : List UInt8 → List UInt8 → Nat
  | a :: l, b :: r => if a = b then cpl l r + 1 else 0
  | _, _ => 0
theorem cpl_le : ∀ (l r : List UInt8), cpl l r ≤ l.length
  | [], _ => by simp [cpl]
  | _ :: _, [] => by simp [cpl]
  | a :: l, b :: r => by
    have := cpl_le l r
    simp only [cpl, List.length_cons]
    split <;> omega
theorem cpl_lt : ∀ (l r : List UInt8), l.length = r.length → l ≠ r → cpl l r < l.length
  | [], [], _, h => (h rfl).elim
  | [], _ :: _, h, _ => by simp at h
  | _ :: _, [], h, _ => by simp at h
  | a :: l, b :: r, h, hn => by
    simp only [cpl, List.length_cons]
    split
    · rename_i he
      have := cpl_lt l r (by simpa using h) (fun e => hn (by rw [he, e]))
      omega
    · omega
/-- Up to there they are alike; there they are not. -/
theorem cpl_same : ∀ (l r : List UInt8) (k : Nat), k < cpl l r → l[k]? = r[k]?
  | [], _, _, h => by simp [cpl] at h
  | _ :: _, [], _, h => by simp [cpl] at h
  | a :: l, b :: r, k, h => by
    simp only [cpl] at h
    split at h
    · rename_i he
      cases k with
      | zero => simp [he]
      | succ k => simpa using cpl_same l r k (by omega)
    · omega
theorem cpl_other : ∀ (l r : List UInt8), l.length = r.length → cpl l r < l.length → l[cpl l r]? ≠ r[cpl l r]?
  | [], [], _, h => by simp [cpl] at h
  | [], _ :: _, h, _ => by simp at h
  | _ :: _, [], h, _ => by simp at h
  | a :: l, b :: r, h, hn => by
    by_cases he : a = b
    · simp only [cpl, if_pos he, List.length_cons] at hn ⊢
      simpa using cpl_other l r (by simpa using h) (by omega)
    · simp [cpl, he]
/-- A beginning of n letters is the other's too, just if they are alike so far. -/
theorem preB_take : ∀ (l r : List UInt8) (n : Nat), l.length = r.length → n ≤ l.length → (preB r (l.take n) = true ↔ n ≤ cpl l r)
  | [], [], n, _, hn => by simp at hn; subst hn; simp [preB, cpl]
  | [], _ :: _, _, h, _ => by simp at h
  | _ :: _, [], _, h, _ => by simp at h
  | a :: l, b :: r, 0, _, _ => by simp [preB]
  | a :: l, b :: r, n + 1, h, hn => by
    have ih := preB_take l r n (by simpa using h) (by simpa using hn)
    have hle : n ≤ r.length := by simp at h hn; omega
    have hle2 : n ≤ l.length := by simpa using hn
    simp only [preB, List.length_take, Bool.and_eq_true, decide_eq_true_eq, beq_iff_eq] at ih ⊢
    simp only [List.take_succ_cons, List.length_cons, cpl]
    rw [show min (n + 1) (l.length + 1) = n + 1 from by omega, show min n l.length = n from by omega] at *
    simp only [List.take_succ_cons, List.cons.injEq]
    by_cases he : a = b
    · subst he
      simp only [true_and, if_pos]
      constructor
      · intro h2; have := ih.1 ⟨hle, h2.2⟩; omega
      · intro h2; exact ⟨by omega, (ih.2 (by omega)).2⟩
    · simp only [if_neg he]
      constructor
      · intro h2; exact (he h2.2.1.symm).elim
      · intro h2; omega

/-- How long the abbreviation is. -/
def shortN (d : List UInt8) : List (List UInt8) → Nat → Nat
  | [], n => n
  | x :: ls, n => shortN d ls (if x = d then n else max n (cpl (hexB d) (hexB x) + 1))
theorem shortN_append (d : List UInt8) : ∀ (a b : List (List UInt8)) (n : Nat), shortN d (a ++ b) n = shortN d b (shortN d a n)
  | [], _, _ => rfl
  | x :: a, b, n => by simp [shortN, shortN_append d a b]
/-- It is n, or one more than what some other id has in common. -/
theorem shortN_le (d : List UInt8) : ∀ (ls : List (List UInt8)) (n m : Nat), shortN d ls n ≤ m ↔ n ≤ m ∧ ∀ x ∈ ls, x ≠ d → cpl (hexB d) (hexB x) < m
  | [], n, m => by simp [shortN]
  | x :: ls, n, m => by
    rw [shortN, shortN_le d ls]
    by_cases h : x = d
    · simp [h]
    · rw [if_neg h]
      simp only [List.mem_cons, forall_eq_or_imp]
      constructor
      · intro ⟨h1, h2⟩; exact ⟨by omega, fun _ => by omega, h2⟩
      · intro ⟨h1, h2, h3⟩; have := h2 h; exact ⟨by omega, h3⟩
theorem hexB_inj {l r : List UInt8} (h : hexB l = hexB r) : l = r := by rw [← unhex_hexB l, h, unhex_hexB]
theorem shortN_max (d : List UInt8) (ls : List (List UInt8)) (hd : d.length = 32) (hls : ∀ x ∈ ls, x.length = 32) : shortN d ls 4 ≤ 64 := by
  rw [shortN_le]
  refine ⟨by omega, fun x hx hn => ?_⟩
  have := cpl_lt (hexB d) (hexB x) (by simp [hd, hls x hx]) (fun e => hn (hexB_inj e).symm)
  simpa [hd] using this
theorem shortN_min (d : List UInt8) (ls : List (List UInt8)) (n : Nat) : n ≤ shortN d ls n := ((shortN_le d ls n _).1 (Nat.le_refl _)).1
end Go.Proofs.Ytafgeppdchnceaa
