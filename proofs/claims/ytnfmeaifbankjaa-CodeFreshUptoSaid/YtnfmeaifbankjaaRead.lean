import Derived.Test.YtnfmeaifbankjaaPlain
import Derived.Laws.BitsAllLaws
set_option linter.unusedVariables false
namespace Go.Sat
open Go

/-! ### What seems to be a number in its shortest form -/
/-- The number that seven bits each tell, the lowest first. -/
def val : List UInt8 → Nat
  | [] => 0
  | c :: r => c.toNat % 128 + 128 * val r
theorem val_lt : ∀ l : List UInt8, val l < 128 ^ l.length
  | [] => by simp [val]
  | c :: r => by
    have := val_lt r
    simp only [val, List.length_cons, Nat.pow_succ]
    have : c.toNat % 128 < 128 := Nat.mod_lt _ (by decide)
    omega
theorem val_append : ∀ a b : List UInt8, val (a ++ b) = val a + 128 ^ a.length * val b
  | [], b => by simp [val]
  | c :: a, b => by
    simp only [List.cons_append, val, val_append a b, List.length_cons, Nat.pow_succ, Nat.mul_add]
    rw [show 128 ^ a.length * 128 = 128 * 128 ^ a.length from Nat.mul_comm _ _, Nat.mul_assoc]
    omega
theorem val_snoc (a : List UInt8) (c : UInt8) : val (a ++ [c]) = val a + c.toNat % 128 * 128 ^ a.length := by
  rw [val_append]; simp [val, Nat.mul_comm]
theorem val_take_succ (l : List UInt8) (i : Nat) (h : i < l.length) : val (l.take (i + 1)) = val (l.take i) + l[i].toNat % 128 * 128 ^ i := by
  rw [List.take_succ_eq_append_getElem h, val_snoc, List.length_take, Nat.min_eq_left (by omega)]
theorem val_varB (n : Nat) : val (varB n) = n := by
  induction n using Nat.strongRecOn with
  | _ n ih =>
    by_cases h : n < 128
    · rw [varB_lt h]; simp [val]; omega
    · rw [varB_ge (by omega)]
      simp only [val, ih (n / 128) (by omega)]
      simp; omega
/-- Where it ends: the first byte below 128. -/
def endAt : List UInt8 → Option Nat
  | [] => none
  | c :: r => if c.toNat < 128 then some 0 else (endAt r).map (· + 1)
theorem endAt_lt : ∀ (l : List UInt8) (k : Nat), endAt l = some k → k < l.length
  | [], _, h => by cases h
  | c :: r, k, h => by
    unfold endAt at h
    split at h
    · cases h; simp
    · cases hr : endAt r with
      | none => simp [hr] at h
      | some j =>
        simp [hr] at h
        have := endAt_lt r j hr
        simp; omega
theorem endAt_none : ∀ (l : List UInt8), (∀ i (h : i < l.length), 128 ≤ l[i].toNat) → endAt l = none
  | [], _ => rfl
  | c :: r, h => by
    have h0 := h 0 (by simp)
    simp at h0
    rw [endAt, if_neg (by omega), endAt_none r (fun i hi => by have := h (i + 1) (by simpa using hi); simpa using this)]
    rfl
theorem endAt_some : ∀ (l : List UInt8) (k : Nat) (hk : k < l.length), (∀ i (h : i < k), 128 ≤ (l[i]'(by omega)).toNat) → l[k].toNat < 128 → endAt l = some k
  | [], _, hk, _, _ => by simp at hk
  | c :: r, 0, _, _, h => by rw [endAt, if_pos (by simpa using h)]
  | c :: r, k + 1, hk, h, h1 => by
    have h0 := h 0 (by omega)
    simp at h0
    rw [endAt, if_neg (by omega), endAt_some r k (by simpa using hk) (fun i hi => by have := h (i + 1) (by omega); simpa using this) (by simpa using h1)]
    rfl
theorem endAt_spec : ∀ (l : List UInt8) (k : Nat), endAt l = some k → ∃ h : k < l.length, (∀ i (hi : i < k), 128 ≤ (l[i]'(by omega)).toNat) ∧ l[k].toNat < 128
  | [], _, h => by cases h
  | c :: r, k, h => by
    unfold endAt at h
    split at h
    · rename_i hc
      cases h
      exact ⟨by simp, fun i hi => by omega, by simpa using hc⟩
    · rename_i hc
      cases hr : endAt r with
      | none => simp [hr] at h
      | some j =>
        simp [hr] at h
        subst h
        obtain ⟨h1, h2, h3⟩ := endAt_spec r j hr
        refine ⟨by simpa using h1, fun i hi => ?_, by simpa using h3⟩
        cases i with
        | zero => simp; omega
        | succ i => simpa using h2 i (by omega)

/-- The bytes of a number in its shortest form: all but the last have the high bit; the last one is no zero, but alone. -/
def Canon : List UInt8 → Prop
  | [] => False
  | [c] => c.toNat < 128
  | c :: d :: r => 128 ≤ c.toNat ∧ (r = [] → d.toNat ≠ 0) ∧ Canon (d :: r)
theorem canon_pos : ∀ (d : UInt8) (r : List UInt8), Canon (d :: r) → (r = [] → d.toNat ≠ 0) → 0 < val (d :: r)
  | d, [], h, h0 => by simp [Canon] at h; have := h0 rfl; simp [val]; omega
  | d, e :: r, h, _ => by
    have := canon_pos e r h.2.2 h.2.1
    simp only [val] at this ⊢
    omega
theorem varB_val : ∀ l : List UInt8, Canon l → varB (val l) = l
  | [], h => h.elim
  | [c], h => by
    simp only [Canon] at h
    simp only [val]
    rw [varB_lt (by omega)]
    simp
    apply UInt8.toNat_inj.1
    simp; omega
  | c :: d :: r, h => by
    have hp := canon_pos d r h.2.2 h.2.1
    have ih := varB_val (d :: r) h.2.2
    have hc := h.1
    have hc2 := c.toNat_lt
    rw [show val (c :: d :: r) = c.toNat % 128 + 128 * val (d :: r) from rfl]
    rw [varB_ge (by omega), show (c.toNat % 128 + 128 * val (d :: r)) / 128 = val (d :: r) from by omega, ih]
    congr 1
    apply UInt8.toNat_inj.1
    simp; omega
theorem canon_varB (n : Nat) : Canon (varB n) ∧ (1 ≤ n → ∀ d, varB n = [d] → d.toNat ≠ 0) := by
  induction n using Nat.strongRecOn with
  | _ n ih =>
    by_cases h : n < 128
    · rw [varB_lt h]
      refine ⟨by simp [Canon]; omega, fun h1 d hd => ?_⟩
      simp at hd; subst hd; simp; omega
    · rw [varB_ge (by omega)]
      obtain ⟨h1, h2⟩ := ih (n / 128) (by omega)
      have hp := varB_pos (n / 128)
      cases hv : varB (n / 128) with
      | nil => rw [hv] at hp; simp at hp
      | cons d r =>
        rw [hv] at h1 h2
        refine ⟨⟨by simp; omega, fun hr => ?_, h1⟩, fun _ e he => by simp at he⟩
        subst hr
        exact h2 (by omega) d rfl
/-- All but the last of k + 1 bytes have the high bit, the last has not. -/
theorem canon_iff : ∀ (l : List UInt8) (k : Nat) (hl : l.length = k + 1), (∀ i (hi : i < k), 128 ≤ (l[i]'(by omega)).toNat) → (l[k]'(by omega)).toNat < 128 → (Canon l ↔ ¬ ((l[k]'(by omega)).toNat = 0 ∧ 0 < k))
  | [c], 0, _, _, h => by simp [Canon]; simpa using h
  | c :: d :: r, 0, hl, _, _ => by simp at hl
  | [c], k + 1, hl, _, _ => by simp at hl
  | c :: d :: r, k + 1, hl, h, h1 => by
    have h0 := h 0 (by omega)
    simp at h0
    have ih := canon_iff (d :: r) k (by simpa using hl) (fun i hi => by have := h (i + 1) (by omega); simpa using this) (by simpa using h1)
    simp only [Canon]
    rw [ih]
    simp only [List.getElem_cons_succ]
    constructor
    · rintro ⟨_, h2, h3⟩ ⟨h4, _⟩
      cases k with
      | zero =>
        have : r = [] := by cases r with
          | nil => rfl
          | cons _ _ => simp at hl
        subst this
        exact h2 rfl (by simpa using h4)
      | succ k => exact h3 ⟨h4, by omega⟩
    · intro h4
      refine ⟨h0, fun hr => ?_, fun h5 => h4 ⟨h5.1, by omega⟩⟩
      subst hr
      have : k = 0 := by simpa using hl
      subst this
      intro h5
      exact h4 ⟨by simpa using h5, by omega⟩
  | [], _, hl, _, _ => by simp at hl

/-- What is met: a number behind k bytes, or a fault (1: short, 2: form, 3: above). -/
inductive VR where
  | ok (n k : Nat)
  | bad (m : Nat)
def vr (look : List UInt8) (most : Nat) : VR :=
  match endAt look with
  | none => if look.length < 10 then .bad 1 else .bad 2
  | some k => if (k = 9 ∧ 1 < (look.getD 9 0).toNat) ∨ ((look.getD k 0).toNat = 0 ∧ 0 < k) then .bad 2 else if most < val (look.take (k + 1)) then .bad 3 else .ok (val (look.take (k + 1))) (k + 1)

theorem val_top (l : List UInt8) (h : l.length = 10) : val l = val (l.take 9) + (l.getD 9 0).toNat % 128 * 9223372036854775808 := by
  have h1 := val_take_succ l 9 (by omega)
  rw [List.take_of_length_le (by omega)] at h1
  rw [h1]
  have : l.getD 9 0 = l[9] := by simp [List.getD, List.getElem?_eq_getElem (show 9 < l.length by omega)]
  rw [this]
/-- The document's way: what is read is written anew and compared. -/
theorem again_iff (look : List UInt8) (k : Nat) (he : endAt look = some k) (hl : look.length ≤ 10) :
    varB (val (look.take (k + 1)) % 18446744073709551616) = look.take (k + 1) ↔ ¬ ((k = 9 ∧ 1 < (look.getD 9 0).toNat) ∨ ((look.getD k 0).toNat = 0 ∧ 0 < k)) := by
  obtain ⟨hk, h1, h2⟩ := endAt_spec look k he
  have hlen : (look.take (k + 1)).length = k + 1 := by simp; omega
  have hgk : look.getD k 0 = look[k] := by simp [List.getD, List.getElem?_eq_getElem hk]
  have hc := canon_iff (look.take (k + 1)) k hlen (fun i hi => by simpa using h1 i hi) (by simpa using h2)
  simp only [List.getElem_take] at hc
  rw [hgk]
  have hv := val_lt (look.take (k + 1))
  rw [hlen] at hv
  by_cases h9 : k = 9 ∧ 1 < (look.getD 9 0).toNat
  · obtain ⟨rfl, h9⟩ := h9
    refine ⟨fun h => ?_, fun h => (h (.inl ⟨rfl, h9⟩)).elim⟩
    have h10 : look.length = 10 := by omega
    have e := congrArg val h
    rw [val_varB, List.take_of_length_le (by omega), val_top look h10] at e
    have : (look.getD 9 0).toNat < 128 := by rw [hgk]; exact h2
    rw [Nat.mod_eq_of_lt this] at e
    omega
  · have hlt : val (look.take (k + 1)) < 18446744073709551616 := by
      by_cases hk9 : k = 9
      · subst hk9
        have h10 : look.length = 10 := by omega
        rw [List.take_of_length_le (by omega), val_top look h10]
        have hv9 := val_lt (look.take 9)
        have : (look.take 9).length = 9 := by simp; omega
        rw [this] at hv9
        have : (look.getD 9 0).toNat ≤ 1 := by omega
        have : (look.getD 9 0).toNat % 128 ≤ 1 := by omega
        have e9 : (128 : Nat) ^ 9 = 9223372036854775808 := by decide
        omega
      · have : 128 ^ (k + 1) ≤ 128 ^ 9 := Nat.pow_le_pow_right (by decide) (by omega)
        have e9 : (128 : Nat) ^ 9 = 9223372036854775808 := by decide
        omega
    rw [Nat.mod_eq_of_lt hlt]
    constructor
    · intro h hor
      rcases hor with hor | hor
      · exact h9 hor
      · have hcv := (canon_varB (val (look.take (k + 1)))).1
        rw [h] at hcv
        exact hc.1 hcv hor
    · intro h
      exact varB_val _ (hc.2 fun h3 => h (.inr h3))

/-! ### A Reader's state: the bytes, the place, what it has met (0: nothing, 1: short, 2: form, 3: above, 4: arg) -/
structure RS where
  l : List UInt8
  p : Nat
  met : Nat
namespace RS
def left (s : RS) : Nat := s.l.length - s.p
def fall (s : RS) (m : Nat) : RS := { s with met := m }
def next (s : RS) (n : Int) : List UInt8 × RS :=
  if s.met ≠ 0 then ([], s) else if (s.left : Int) < n then ([], s.fall 1) else ((s.l.drop s.p).take n.toNat, { s with p := s.p + n.toNat })
def raw (s : RS) (n : Int) : List UInt8 × RS := if s.met = 0 ∧ n < 0 then ([], s.fall 4) else s.next n
def look (s : RS) : List UInt8 := (s.l.drop s.p).take 10
/-- What a look at a number makes of a state. -/
def aft (s : RS) : VR → Nat × RS
  | .bad m => (0, s.fall m)
  | .ok n k => (n, { s with p := s.p + k })
def var (s : RS) (most : Nat) : Nat × RS := if s.met ≠ 0 then (0, s) else s.aft (vr s.look most)
def num (l : List UInt8) : Nat := l.foldl (fun n c => n * 256 + c.toNat) 0
def fixed (s : RS) (size : Nat) : Nat × RS := (num (s.next size).1, (s.next size).2)
def text (s : RS) (most : Int) : List UInt8 × RS :=
  let r := s.var (max 0 most).toNat
  if r.2.met = 0 ∧ r.2.left < r.1 then ([], s.fall 1) else r.2.next r.1
/-- A state that may be. -/
structure Ok (s : RS) : Prop where
  le : s.p ≤ s.l.length
  met : s.met ≤ 4
theorem left_eq {s : RS} (h : s.Ok) : (s.left : Int) = s.l.length - s.p := by have := h.le; unfold left; omega
theorem fall_ok {s : RS} (h : s.Ok) {m : Nat} (hm : m ≤ 4) : (s.fall m).Ok := ⟨h.le, hm⟩
theorem next_ok {s : RS} (h : s.Ok) (n : Int) (hn : s.met = 0 → 0 ≤ n) : (s.next n).2.Ok := by
  unfold next
  split
  · exact h
  · split
    · exact fall_ok h (by omega)
    · have := h.le
      have := left_eq h
      exact ⟨by simp only; omega, h.met⟩
theorem num_lt : ∀ l : List UInt8, num l < 256 ^ l.length := by
  intro l
  have key : ∀ (l : List UInt8) (n : Nat), l.foldl (fun n c => n * 256 + c.toNat) n < (n + 1) * 256 ^ l.length := by
    intro l
    induction l with
    | nil => intro n; simp
    | cons c l ih =>
      intro n
      have := ih (n * 256 + c.toNat)
      have hc := c.toNat_lt
      simp only [List.foldl_cons, List.length_cons, Nat.pow_succ]
      refine Nat.lt_of_lt_of_le this ?_
      rw [Nat.mul_comm (256 ^ l.length) 256, ← Nat.mul_assoc]
      exact Nat.mul_le_mul_right _ (by omega)
  have := key l 0
  simpa [num] using this
theorem num_snoc (l : List UInt8) (c : UInt8) : num (l ++ [c]) = num l * 256 + c.toNat := by simp [num]
theorem num_take_succ (l : List UInt8) (i : Nat) (h : i < l.length) : num (l.take (i + 1)) = num (l.take i) * 256 + l[i].toNat := by
  rw [List.take_succ_eq_append_getElem h, num_snoc]
theorem look_len (s : RS) : s.look.length ≤ 10 := by simp [look]; omega
theorem look_len_eq {s : RS} (h : s.Ok) : s.look.length = min 10 s.left := by simp [look, left]
end RS
theorem or_low (n c : Nat) (hc : c < 256) : (n * 256) ||| c = n * 256 + c := by
  have := Nat.shiftLeft_add_eq_or_of_lt (i := 8) (b := c) (by omega) n
  rw [Nat.shiftLeft_eq] at this
  exact this.symm
theorem or_high (n c i : Nat) (h : n < 2 ^ i) : n ||| (c * 2 ^ i) = n + c * 2 ^ i := by
  have := Nat.shiftLeft_add_eq_or_of_lt (i := i) (b := n) h c
  rw [Nat.shiftLeft_eq] at this
  rw [Nat.or_comm, ← this, Nat.add_comm]
theorem and127_all : ∀ b : Fin 256, bits BinOp.and IntKind.u8 (b.val : Int) 127 = ((b.val % 128 : Nat) : Int) := by decide +kernel
theorem and128_all : ∀ b : Fin 256, bits BinOp.and IntKind.u8 (b.val : Int) 128 = if b.val < 128 then 0 else 128 := by decide +kernel
theorem and127 (c : UInt8) : bits BinOp.and IntKind.u8 (c.toNat : Int) 127 = ((c.toNat % 128 : Nat) : Int) := and127_all ⟨c.toNat, c.toNat_lt⟩
theorem and128_lo (c : UInt8) (h : c.toNat < 128) : bits BinOp.and IntKind.u8 (c.toNat : Int) 128 = 0 := by
  have := and128_all ⟨c.toNat, c.toNat_lt⟩
  simpa [h] using this
theorem and128_hi (c : UInt8) (h : 128 ≤ c.toNat) : bits BinOp.and IntKind.u8 (c.toNat : Int) 128 = 128 := by
  have := and128_all ⟨c.toNat, c.toNat_lt⟩
  simpa [show ¬ c.toNat < 128 by omega] using this

theorem vr_top {look : List UInt8} {k : Nat} (most : Nat) (hl : look.length ≤ 10) (hk : k < look.length) (hall : ∀ j (h : j < look.length), j < k → 128 ≤ look[j].toNat) (h9 : k = 9) (hc : 1 < look[k].toNat) : vr look most = .bad 2 := by
  subst h9
  have h10 : look.length = 10 := by omega
  unfold vr
  by_cases h : look[9].toNat < 128
  · rw [endAt_some look 9 hk (fun i hi => hall i (by omega) hi) h]
    have hg : look.getD 9 0 = look[9] := by simp [List.getD, List.getElem?_eq_getElem hk]
    exact if_pos (.inl ⟨rfl, by rw [hg]; exact hc⟩)
  · rw [endAt_none look fun i hi => by
      by_cases h9 : i = 9
      · subst h9; omega
      · exact hall i hi (by omega)]
    simp [h10]
theorem vr_at {look : List UInt8} {k : Nat} (most : Nat) (hk : k < look.length) (hall : ∀ j (h : j < look.length), j < k → 128 ≤ look[j].toNat) (hc : look[k].toNat < 128) (h9 : ¬ (k = 9 ∧ 1 < look[k].toNat)) :
    vr look most = if look[k].toNat = 0 ∧ 0 < k then .bad 2 else if most < val (look.take (k + 1)) then .bad 3 else .ok (val (look.take (k + 1))) (k + 1) := by
  unfold vr
  rw [endAt_some look k hk (fun i hi => hall i (by omega) hi) hc]
  have hg : look.getD k 0 = look[k] := by simp [List.getD, List.getElem?_eq_getElem hk]
  simp only
  by_cases h0 : look[k].toNat = 0 ∧ 0 < k
  · rw [if_pos h0, if_pos (.inr (by rw [hg]; exact h0))]
  · rw [if_neg h0, if_neg (fun h => by
      rcases h with ⟨h1, h2⟩ | h
      · subst h1; rw [hg] at h2; exact h9 ⟨rfl, h2⟩
      · rw [hg] at h; exact h0 h)]
theorem vr_end {look : List UInt8} (most : Nat) (hall : ∀ j (h : j < look.length), 128 ≤ look[j].toNat) : vr look most = if look.length < 10 then .bad 1 else .bad 2 := by
  unfold vr
  rw [endAt_none look hall]
theorem or_step (v c k : Nat) (hv : v < 128 ^ k) (hk : k ≤ 8 ∨ (k = 9 ∧ c ≤ 1)) : bits BinOp.or IntKind.u64 (v : Int) (IntKind.u64.wrap ((c : Int) % 128 * 2 ^ (7 * k))) = ((v + c % 128 * 128 ^ k : Nat) : Int) := by
  have e : (2 : Nat) ^ (7 * k) = 128 ^ k := by rw [Nat.pow_mul]
  have hmod : c % 128 < 128 := Nat.mod_lt _ (by decide)
  have hlt : c % 128 * 128 ^ k < 18446744073709551616 := by
    rcases hk with hk | ⟨rfl, hc⟩
    · have h1 : 128 ^ k ≤ 128 ^ 8 := Nat.pow_le_pow_right (by decide) hk
      have e8 : (128 : Nat) ^ 8 = 72057594037927936 := by decide
      have : c % 128 * 128 ^ k ≤ 127 * 72057594037927936 := Nat.mul_le_mul (by omega) (by omega)
      omega
    · have e9 : (128 : Nat) ^ 9 = 9223372036854775808 := by decide
      have : c % 128 ≤ 1 := by omega
      have : c % 128 * 128 ^ 9 ≤ 1 * 128 ^ 9 := Nat.mul_le_mul_right _ this
      omega
  have hv2 : v < 18446744073709551616 := by
    have h1 : 128 ^ k ≤ 128 ^ 9 := Nat.pow_le_pow_right (by decide) (by omega)
    have e9 : (128 : Nat) ^ 9 = 9223372036854775808 := by decide
    omega
  have ex : (c : Int) % 128 * 2 ^ (7 * k) = ((c % 128 * 128 ^ k : Nat) : Int) := by rw [← e]; simp
  rw [ex]
  have hw : IntKind.u64.wrap ((c % 128 * 128 ^ k : Nat) : Int) = ((c % 128 * 128 ^ k : Nat) : Int) := by
    simp only [IntKind.wrap, IntKind.signed, IntKind.bits]
    generalize c % 128 * 128 ^ k = x at hlt
    simp
    omega
  rw [hw, u64_or_nat _ _ hv2 hlt, ← e, or_high _ _ _ (by rw [e]; exact hv), e]
theorem wrap_step (V x : Nat) : IntKind.u64.wrap (IntKind.u64.wrap (((V % 18446744073709551616 : Nat) : Int) * 128) + (x : Int) % 128) = (((x % 128 + 128 * V) % 18446744073709551616 : Nat) : Int) := by
  simp only [IntKind.wrap, IntKind.signed, IntKind.bits]
  simp
  omega
end Go.Sat
