import Derived.Lib.ItoaNum
namespace Go.Sat
open Go Lib

/-! ### Numbers in their shortest form -/
def varB (n : Nat) : List UInt8 := if h : n < 128 then [UInt8.ofNat n] else UInt8.ofNat (128 + n % 128) :: varB (n / 128)
termination_by n
decreasing_by omega
theorem varB_lt {n : Nat} (h : n < 128) : varB n = [UInt8.ofNat n] := by rw [varB, dif_pos h]
theorem varB_ge {n : Nat} (h : 128 ≤ n) : varB n = UInt8.ofNat (128 + n % 128) :: varB (n / 128) := by rw [varB, dif_neg (by omega)]
/-- The first k bytes, all with the high bit. -/
def varHead (n : Nat) : Nat → List UInt8
  | 0 => []
  | k + 1 => varHead n k ++ [UInt8.ofNat (128 + n / 128 ^ k % 128)]
@[simp] theorem varHead_length (n k : Nat) : (varHead n k).length = k := by induction k with
  | zero => rfl
  | succ k ih => simp [varHead, ih]
theorem varB_head (n : Nat) : ∀ k, (∀ j, j < k → 128 ≤ n / 128 ^ j) → varB n = varHead n k ++ varB (n / 128 ^ k)
  | 0, _ => by simp [varHead]
  | k + 1, h => by
    rw [varB_head n k (fun j hj => h j (by omega)), varHead, List.append_assoc, varB_ge (h k (by omega)), Nat.div_div_eq_div_mul, ← Nat.pow_succ]
    rfl
theorem varB_len (n : Nat) (h : n < 2 ^ 64) : (varB n).length ≤ 10 := by
  have key : ∀ k n, n < 128 ^ (k + 1) → (varB n).length ≤ k + 1 := by
    intro k
    induction k with
    | zero => intro n h; rw [varB_lt (by omega)]; simp
    | succ k ih =>
      intro n h
      by_cases h1 : n < 128
      · rw [varB_lt h1]; simp
      · rw [varB_ge (by omega)]
        have := ih (n / 128) (by rw [Nat.pow_succ] at h; exact Nat.div_lt_of_lt_mul (by rw [Nat.mul_comm]; exact h))
        simp only [List.length_cons]; omega
  exact key 9 n (by omega)
theorem varB_pos (n : Nat) : 0 < (varB n).length := by
  by_cases h : n < 128
  · rw [varB_lt h]; simp
  · rw [varB_ge (by omega)]; simp

/-- The rounds of code.Var: so many sevens but the last. -/
def rounds (n : Nat) : Nat := (max 1 (bitLen n) - 1) / 7
theorem rounds_ge {n : Nat} (hn : n < 2 ^ 64) : ∀ j, j < rounds n → 128 ≤ n / 128 ^ j := by
  intro j hj
  unfold rounds at hj
  have h0 : n ≠ 0 := by intro h; subst h; simp [bitLen, bitLenAux_zero] at hj
  obtain ⟨b1, b2, b3⟩ := bitLenAux_bounds 64 n hn h0
  have hm : max 1 (bitLen n) = bitLen n := by unfold bitLen; omega
  rw [hm] at hj
  have h7 : 7 * (j + 1) ≤ bitLen n - 1 := by omega
  have hp : 2 ^ (7 * (j + 1)) ≤ n := Nat.le_trans (Nat.pow_le_pow_right (by decide) h7) b2
  rw [Nat.pow_mul, show (2 : Nat) ^ 7 = 128 from rfl, Nat.pow_succ, Nat.mul_comm] at hp
  exact (Nat.le_div_iff_mul_le (Nat.pow_pos (by decide))).2 hp
theorem rounds_lt {n : Nat} (hn : n < 2 ^ 64) : n / 128 ^ rounds n < 128 := by
  by_cases h0 : n = 0
  · subst h0; simp
  obtain ⟨b1, b2, b3⟩ := bitLenAux_bounds 64 n hn h0
  have hm : max 1 (bitLen n) = bitLen n := by unfold bitLen; omega
  have hr : bitLen n ≤ 7 * (rounds n + 1) := by unfold rounds; rw [hm]; omega
  have hp : n < 2 ^ (7 * (rounds n + 1)) := Nat.lt_of_lt_of_le b3 (Nat.pow_le_pow_right (by decide) hr)
  rw [Nat.pow_mul, show (2 : Nat) ^ 7 = 128 from rfl, Nat.pow_succ] at hp
  exact Nat.div_lt_of_lt_mul hp
theorem rounds_le {n : Nat} (hn : n < 2 ^ 64) : rounds n ≤ 9 := by
  unfold rounds
  have := bitLen_le n 64 (Nat.le_refl _) hn
  omega
theorem varB_rounds {n : Nat} (hn : n < 2 ^ 64) : varB n = varHead n (rounds n) ++ [UInt8.ofNat (n / 128 ^ rounds n)] := by
  rw [varB_head n (rounds n) (rounds_ge hn), varB_lt (rounds_lt hn)]

/-! ### Bytes compared -/
def cmpB : List UInt8 → List UInt8 → Int
  | [], [] => 0
  | [], _ :: _ => -1
  | _ :: _, [] => 1
  | a :: l, b :: r => if a.toNat < b.toNat then -1 else if b.toNat < a.toNat then 1 else cmpB l r
theorem cmpB_zero : ∀ l r : List UInt8, cmpB l r = 0 ↔ l = r
  | [], [] => by simp [cmpB]
  | [], _ :: _ => by simp [cmpB]
  | _ :: _, [] => by simp [cmpB]
  | a :: l, b :: r => by
    unfold cmpB
    have hab : a = b ↔ a.toNat = b.toNat := ⟨fun h => by rw [h], fun h => UInt8.toNat_inj.1 h⟩
    split
    · simp only [List.cons.injEq, hab]; omega
    · split
      · simp only [List.cons.injEq, hab]; omega
      · rw [cmpB_zero l r]
        simp only [List.cons.injEq, hab]
        constructor
        · intro h; exact ⟨by omega, h⟩
        · intro h; exact h.2
theorem cmpB_range (l r : List UInt8) : cmpB l r = -1 ∨ cmpB l r = 0 ∨ cmpB l r = 1 := by
  induction l generalizing r with
  | nil => cases r <;> simp [cmpB]
  | cons a l ih =>
    cases r with
    | nil => simp [cmpB]
    | cons b r =>
      unfold cmpB
      split
      · exact .inl rfl
      · split
        · exact .inr (.inr rfl)
        · exact ih r
/-- The first k are alike: what is left decides. -/
theorem cmpB_drop (l r : List UInt8) : ∀ k, k ≤ l.length → k ≤ r.length → l.take k = r.take k → cmpB l r = cmpB (l.drop k) (r.drop k) := by
  induction l generalizing r with
  | nil => intro k h1 h2 h; simp at h1; subst h1; simp
  | cons a l ih =>
    intro k h1 h2 h
    cases k with
    | zero => simp
    | succ k =>
      cases r with
      | nil => simp at h2
      | cons b r =>
        simp only [List.take_succ_cons, List.cons.injEq] at h
        obtain ⟨rfl, h⟩ := h
        simp only [List.drop_succ_cons]
        rw [← ih r k (by simpa using h1) (by simpa using h2) h]
        simp [cmpB]
theorem cmpB_at {l r : List UInt8} {k : Nat} (h1 : k < l.length) (h2 : k < r.length) (h : l.take k = r.take k) :
    cmpB l r = if l[k].toNat < r[k].toNat then -1 else if r[k].toNat < l[k].toNat then 1 else cmpB (l.drop (k + 1)) (r.drop (k + 1)) := by
  rw [cmpB_drop l r k (by omega) (by omega) h, List.drop_eq_getElem_cons h1, List.drop_eq_getElem_cons h2]
  rfl
theorem take_alike {l r : List UInt8} {k : Nat} (h1 : k < l.length) (h2 : k < r.length) (h : l.take k = r.take k) (h3 : ¬ l[k].toNat < r[k].toNat) (h4 : ¬ r[k].toNat < l[k].toNat) : l.take (k + 1) = r.take (k + 1) := by
  rw [List.take_succ_eq_append_getElem h1, List.take_succ_eq_append_getElem h2, h, show l[k] = r[k] from UInt8.toNat_inj.1 (by omega)]
theorem cmpB_end {l r : List UInt8} {k : Nat} (h1 : k ≤ l.length) (h2 : k ≤ r.length) (h : l.take k = r.take k) (h3 : k = l.length ∨ k = r.length) :
    cmpB l r = if l.length < r.length then -1 else if r.length < l.length then 1 else 0 := by
  rw [cmpB_drop l r k h1 h2 h]
  by_cases hl : k = l.length
  · rw [List.drop_of_length_le (by omega : l.length ≤ k)]
    by_cases hr : k = r.length
    · rw [List.drop_of_length_le (by omega : r.length ≤ k), if_neg (by omega), if_neg (by omega)]; rfl
    · rw [List.drop_eq_getElem_cons (by omega : k < r.length), if_pos (by omega)]; rfl
  · have hr : k = r.length := by omega
    rw [List.drop_of_length_le (by omega : r.length ≤ k), List.drop_eq_getElem_cons (by omega : k < l.length), if_neg (by omega), if_pos (by omega)]; rfl

/-! ### A number taken into a range -/
theorem into_cases (n m : Int) (hm : 0 < m) : -m < n.tmod m ∧ n.tmod m < m ∧ (n.tmod m < 0 → n.tmod m + m = n % m) ∧ (0 ≤ n.tmod m → n.tmod m = n % m) := by
  have h1 := Int.emod_nonneg n (show m ≠ 0 by omega)
  have h2 := Int.emod_lt_of_pos n hm
  rw [Int.tmod_eq_emod]
  split
  · refine ⟨by omega, by omega, fun h => by omega, fun h => by omega⟩
  · rename_i h
    have h3 : n % m ≠ 0 := fun e => h (.inr (Int.dvd_of_emod_eq_zero e))
    refine ⟨by omega, by omega, fun h => by omega, fun h => by omega⟩

/-- The same bytes? -/
def eqB (l r : List UInt8) : Bool := decide (l = r)
theorem eqB_true {l r : List UInt8} : eqB l r = true ↔ l = r := by simp [eqB]
theorem eqB_self (l : List UInt8) : eqB l l = true := by simp [eqB]
theorem cmpB_eqB (l r : List UInt8) : (cmpB l r == 0) = eqB l r := by
  rw [Bool.eq_iff_iff, beq_iff_eq, cmpB_zero, eqB_true]

/-! ### A number's lowest bytes, the highest first -/
/-- The first i of size bytes. -/
def be (n : Int) (size i : Nat) : List UInt8 := (List.range i).map fun k => UInt8.ofNat (n.toNat / 256 ^ (size - 1 - k))
theorem be_succ (n : Int) (size i : Nat) : be n size (i + 1) = be n size i ++ [UInt8.ofNat (n.toNat / 256 ^ (size - 1 - i))] := by
  simp [be, List.range_succ]
@[simp] theorem be_length (n : Int) (size i : Nat) : (be n size i).length = i := by simp [be]
theorem be_get (n : Int) (size i k : Nat) (h : k < i) : (be n size i)[k]? = some (UInt8.ofNat (n.toNat / 256 ^ (size - 1 - k))) := by simp [be, h]
theorem shr_byte (n : Int) (hn : 0 ≤ n) (j : Nat) : n / 2 ^ (8 * j) % 256 = ((UInt8.ofNat (n.toNat / 256 ^ j)).toNat : Int) := by
  obtain ⟨m, rfl⟩ := Int.eq_ofNat_of_zero_le hn
  have e : (2 : Nat) ^ (8 * j) = 256 ^ j := by rw [Nat.pow_mul]
  rw [show ((2 : Int) ^ (8 * j)) = ((256 ^ j : Nat) : Int) from by rw [← e]; simp]
  simp
theorem div_byte (n : Int) (hn : 0 ≤ n) (j : Nat) : n / (256 ^ j : Nat) % 256 = ((UInt8.ofNat (n.toNat / 256 ^ j)).toNat : Int) := by
  obtain ⟨m, rfl⟩ := Int.eq_ofNat_of_zero_le hn
  simp
end Go.Sat
