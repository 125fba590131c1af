import Derived.Test.YtnfmeaifbankjaaDoorRead
set_option linter.unusedVariables false
namespace Go.Sat
open Go
/-- The bytes of an item, by the form that the papers name. -/
def opT (k n : Int) (b : List UInt8) : List UInt8 :=
  if k = 1 then be (n % 256) 1 1 else if k = 2 then be (n % 4294967296) 4 4 else if k = 3 then be n 8 8 else if k = 4 then varB n.toNat else if k = 5 then varB b.length ++ b else if k = 6 then b else []
theorem num_be_aux (n : Int) (s : Nat) : ∀ i, i ≤ s → RS.num (be n s i) = n.toNat / 256 ^ (s - i) % 256 ^ i
  | 0, _ => by simp [be, RS.num, Nat.mod_one]
  | i + 1, h => by
    have e1 : s - i = s - 1 - i + 1 := by omega
    have e2 : s - (i + 1) = s - 1 - i := by omega
    rw [be_succ, RS.num_snoc, num_be_aux n s i (by omega), e1, e2, Nat.pow_succ, ← Nat.div_div_eq_div_mul]
    generalize n.toNat / 256 ^ (s - 1 - i) = m
    have hb : (UInt8.ofNat m).toNat = m % 256 := by simp
    rw [hb, Nat.pow_succ, Nat.mul_comm (256 ^ i) 256, Nat.mod_mul, Nat.mul_comm, Nat.add_comm]
theorem num_be (n : Int) (s : Nat) (h : n.toNat < 256 ^ s) : RS.num (be n s s) = n.toNat := by
  rw [num_be_aux n s s (Nat.le_refl _), Nat.sub_self, Nat.pow_zero, Nat.div_one, Nat.mod_eq_of_lt h]
theorem endAt_varB (r : List UInt8) (n : Nat) : endAt (varB n ++ r) = some ((varB n).length - 1) := by
  induction n using Nat.strongRecOn with
  | _ n ih =>
    by_cases h : n < 128
    · rw [varB_lt h]; simp [endAt]; omega
    · rw [varB_ge (by omega), List.cons_append, endAt, if_neg (by simp; omega), ih (n / 128) (by omega)]
      have := varB_pos (n / 128)
      simp; omega
theorem endAt_cut (n : Nat) : endAt (varB n).dropLast = none := by
  induction n using Nat.strongRecOn with
  | _ n ih =>
    by_cases h : n < 128
    · rw [varB_lt h]; simp [endAt]
    · have hp := varB_pos (n / 128)
      rw [varB_ge (by omega), List.dropLast_cons_of_ne_nil (by intro e; rw [e] at hp; simp at hp), endAt, if_neg (by simp; omega), ih (n / 128) (by omega)]
      rfl
theorem vr_varB (r : List UInt8) (n : Nat) (hn : n < 2 ^ 64) (most : Nat) (hm : n ≤ most) : vr ((varB n ++ r).take 10) most = .ok n (varB n).length := by
  have hlen := varB_len n hn
  have hpos := varB_pos n
  have e : (varB n ++ r).take 10 = varB n ++ r.take (10 - (varB n).length) := by rw [List.take_append, List.take_of_length_le hlen]
  have hle : ((varB n ++ r).take 10).length ≤ 10 := by simp; omega
  rw [e] at hle ⊢
  have he := endAt_varB (r.take (10 - (varB n).length)) n
  have ht : (varB n ++ r.take (10 - (varB n).length)).take ((varB n).length - 1 + 1) = varB n := by
    rw [show (varB n).length - 1 + 1 = (varB n).length from by omega, List.take_left]
  have ha := (again_iff _ _ he hle).1 (by rw [ht, val_varB, Nat.mod_eq_of_lt (by omega)])
  unfold vr
  rw [he]
  simp only
  rw [if_neg ha, ht, val_varB, if_neg (by omega), show (varB n).length - 1 + 1 = (varB n).length from by omega]
theorem vr_cut (n : Nat) (hn : n < 2 ^ 64) (most : Nat) : vr (((varB n).dropLast).take 10) most = .bad 1 := by
  have hlen := varB_len n hn
  have hpos := varB_pos n
  rw [List.take_of_length_le (by simp; omega)]
  unfold vr
  rw [endAt_cut]
  simp only
  rw [if_pos (by simp; omega)]

namespace RS
/-- The state behind an item that is read back. -/
def backS (k n : Int) (b : List UInt8) (s : RS) : RS :=
  if k = 1 then (s.fixed 1).2 else if k = 2 then (s.fixed 4).2 else if k = 3 then (s.fixed 8).2 else if k = 4 then (s.var n.toNat).2 else if k = 5 then (s.text b.length).2 else if k = 6 then (s.raw b.length).2 else s
/-- What it answers. -/
def backV (k n : Int) (b : List UInt8) (s : RS) : Bool :=
  if k = 1 then ((s.fixed 1).1 : Int) == n % 256 else if k = 2 then ((s.fixed 4).1 : Int) == n % 4294967296 else if k = 3 then ((s.fixed 8).1 : Int) == n else if k = 4 then ((s.var n.toNat).1 : Int) == n
  else if k = 5 then (s.text b.length).1 == b else if k = 6 then (s.raw b.length).1 == b else true
theorem next_good (pre b rest : List UInt8) : (RS.mk (pre ++ b ++ rest) pre.length 0).next b.length = (b, ⟨pre ++ b ++ rest, pre.length + b.length, 0⟩) := by
  unfold next
  rw [if_neg (by simp), if_neg (by simp only [left, List.length_append]; omega)]
  simp [List.append_assoc]
theorem next_cut (pre x : List UInt8) (n : Nat) (h : x.length < n) : (RS.mk (pre ++ x) pre.length 0).next n = ([], ⟨pre ++ x, pre.length, 1⟩) := by
  unfold next
  rw [if_neg (by simp), if_pos (by simp only [left, List.length_append]; omega)]
  rfl
theorem var_good (pre rest : List UInt8) (n most : Nat) (hn : n < 2 ^ 64) (hm : n ≤ most) : (RS.mk (pre ++ varB n ++ rest) pre.length 0).var most = (n, ⟨pre ++ varB n ++ rest, pre.length + (varB n).length, 0⟩) := by
  unfold var
  rw [if_neg (by simp)]
  have : (RS.mk (pre ++ varB n ++ rest) pre.length 0).look = (varB n ++ rest).take 10 := by simp [look, List.append_assoc]
  rw [this, vr_varB _ n hn _ hm]
  rfl
theorem var_cut (pre : List UInt8) (n most : Nat) (hn : n < 2 ^ 64) : (RS.mk (pre ++ (varB n).dropLast) pre.length 0).var most = (0, ⟨pre ++ (varB n).dropLast, pre.length, 1⟩) := by
  unfold var
  rw [if_neg (by simp)]
  have : (RS.mk (pre ++ (varB n).dropLast) pre.length 0).look = ((varB n).dropLast).take 10 := by simp [look]
  rw [this, vr_cut n hn]
  rfl
theorem fixed_good (pre rest : List UInt8) (n : Int) (s : Nat) (h : n.toNat < 256 ^ s) : (RS.mk (pre ++ be n s s ++ rest) pre.length 0).fixed s = (n.toNat, ⟨pre ++ be n s s ++ rest, pre.length + s, 0⟩) := by
  have := next_good pre (be n s s) rest
  rw [be_length] at this
  unfold fixed
  rw [this, num_be n s h]
theorem fixed_cut (pre x : List UInt8) (s : Nat) (h : x.length < s) : (RS.mk (pre ++ x) pre.length 0).fixed s = (0, ⟨pre ++ x, pre.length, 1⟩) := by
  unfold fixed
  rw [next_cut pre x s h]
  rfl
theorem text_good (pre b rest : List UInt8) (hb : b.length < 2 ^ 64) : (RS.mk (pre ++ (varB b.length ++ b) ++ rest) pre.length 0).text b.length = (b, ⟨pre ++ (varB b.length ++ b) ++ rest, pre.length + (varB b.length ++ b).length, 0⟩) := by
  have e : pre ++ (varB b.length ++ b) ++ rest = pre ++ varB b.length ++ (b ++ rest) := by simp [List.append_assoc]
  have e2 : pre ++ varB b.length ++ (b ++ rest) = (pre ++ varB b.length) ++ b ++ rest := by simp [List.append_assoc]
  have hv := var_good pre (b ++ rest) b.length b.length hb (Nat.le_refl _)
  have hx := next_good (pre ++ varB b.length) b rest
  rw [← e2, ← e, List.length_append] at hx
  rw [← e] at hv
  unfold text
  simp only
  rw [show (max (0 : Int) (b.length : Int)).toNat = b.length by omega, hv]
  simp only
  rw [if_neg (by simp only [left, List.length_append]; omega), hx]
  simp [Nat.add_assoc]
theorem text_cut (pre b : List UInt8) (hb : b.length < 2 ^ 64) : (RS.mk (pre ++ (varB b.length ++ b).dropLast) pre.length 0).text b.length = ([], ⟨pre ++ (varB b.length ++ b).dropLast, pre.length, 1⟩) := by
  by_cases h : b = []
  · subst h
    have hv := var_cut pre 0 0 (by decide)
    have e : varB ([] : List UInt8).length ++ [] = varB 0 := by simp
    rw [e]
    unfold text
    simp only
    rw [show (max (0 : Int) (([] : List UInt8).length : Int)).toNat = 0 by simp, hv]
    simp [next]
  · have e : (varB b.length ++ b).dropLast = varB b.length ++ b.dropLast := List.dropLast_append_of_ne_nil h
    have hv := var_good pre b.dropLast b.length b.length hb (Nat.le_refl _)
    have hp : 0 < b.length := List.length_pos_iff.2 h
    rw [e, ← List.append_assoc]
    unfold text
    simp only
    rw [show (max (0 : Int) (b.length : Int)).toNat = b.length by omega, hv]
    simp only
    rw [if_pos ⟨trivial, by simp only [left, List.length_append, List.length_dropLast]; omega⟩]
    rfl
/-- What was written is read back. -/
theorem back_good (k n : Int) (b pre rest : List UInt8) (hn : 0 ≤ n ∧ n ≤ 18446744073709551615) (hb : b.length ≤ 1000000000) :
    (RS.mk (pre ++ opT k n b ++ rest) pre.length 0).backV k n b = true ∧ (RS.mk (pre ++ opT k n b ++ rest) pre.length 0).backS k n b = ⟨pre ++ opT k n b ++ rest, pre.length + (opT k n b).length, 0⟩ := by
  unfold backV backS opT
  by_cases h1 : k = 1
  · have h := fixed_good pre rest (n % 256) 1 (by omega)
    simp only [h1, if_true]
    rw [h]
    exact ⟨by simp; omega, by simp⟩
  by_cases h2 : k = 2
  · have h := fixed_good pre rest (n % 4294967296) 4 (by omega)
    subst h2
    simp only [show ((2 : Int) = 1) = False from by simp, if_false, if_true]
    rw [h]
    exact ⟨by simp; omega, by simp⟩
  by_cases h3 : k = 3
  · have h := fixed_good pre rest n 8 (by omega)
    subst h3
    simp only [show ((3 : Int) = 1) = False from by simp, show ((3 : Int) = 2) = False from by simp, if_false, if_true]
    rw [h]
    exact ⟨by simp; omega, by simp⟩
  by_cases h4 : k = 4
  · have h := var_good pre rest n.toNat n.toNat (by omega) (Nat.le_refl _)
    subst h4
    simp only [show ((4 : Int) = 1) = False from by simp, show ((4 : Int) = 2) = False from by simp, show ((4 : Int) = 3) = False from by simp, if_false, if_true]
    rw [h]
    exact ⟨by simp; omega, by simp⟩
  by_cases h5 : k = 5
  · have h := text_good pre b rest (by omega)
    subst h5
    simp only [show ((5 : Int) = 1) = False from by simp, show ((5 : Int) = 2) = False from by simp, show ((5 : Int) = 3) = False from by simp, show ((5 : Int) = 4) = False from by simp, if_false, if_true]
    rw [h]
    exact ⟨by simp, by simp⟩
  by_cases h6 : k = 6
  · have h := next_good pre b rest
    subst h6
    simp only [show ((6 : Int) = 1) = False from by simp, show ((6 : Int) = 2) = False from by simp, show ((6 : Int) = 3) = False from by simp, show ((6 : Int) = 4) = False from by simp, show ((6 : Int) = 5) = False from by simp, if_false, if_true]
    unfold raw
    rw [if_neg (by simp), h]
    exact ⟨by simp, by simp⟩
  simp [h1, h2, h3, h4, h5, h6]
/-- Without its last byte it falls short. -/
theorem back_cut (k n : Int) (b pre : List UInt8) (hn : 0 ≤ n ∧ n ≤ 18446744073709551615) (hb : b.length ≤ 1000000000) (hne : opT k n b ≠ []) :
    (RS.mk (pre ++ (opT k n b).dropLast) pre.length 0).backS k n b = ⟨pre ++ (opT k n b).dropLast, pre.length, 1⟩ := by
  have hpos : 0 < (opT k n b).length := List.length_pos_iff.2 hne
  unfold opT at hpos
  unfold backS opT
  by_cases h1 : k = 1
  · simp only [h1, if_true]
    rw [fixed_cut _ _ _ (by simp)]
  by_cases h2 : k = 2
  · subst h2
    simp only [show ((2 : Int) = 1) = False from by simp, if_false, if_true]
    rw [fixed_cut _ _ _ (by simp)]
  by_cases h3 : k = 3
  · subst h3
    simp only [show ((3 : Int) = 1) = False from by simp, show ((3 : Int) = 2) = False from by simp, if_false, if_true]
    rw [fixed_cut _ _ _ (by simp)]
  by_cases h4 : k = 4
  · subst h4
    simp only [show ((4 : Int) = 1) = False from by simp, show ((4 : Int) = 2) = False from by simp, show ((4 : Int) = 3) = False from by simp, if_false, if_true]
    rw [var_cut _ _ _ (by omega)]
  by_cases h5 : k = 5
  · subst h5
    simp only [show ((5 : Int) = 1) = False from by simp, show ((5 : Int) = 2) = False from by simp, show ((5 : Int) = 3) = False from by simp, show ((5 : Int) = 4) = False from by simp, if_false, if_true]
    rw [text_cut _ _ (by omega)]
  by_cases h6 : k = 6
  · subst h6
    simp only [show ((6 : Int) = 1) = False from by simp, show ((6 : Int) = 2) = False from by simp, show ((6 : Int) = 3) = False from by simp, show ((6 : Int) = 4) = False from by simp, show ((6 : Int) = 5) = False from by simp, if_false, if_true] at hpos ⊢
    unfold raw
    rw [if_neg (by simp), next_cut _ _ _ (by simp; omega)]
  simp [h1, h2, h3, h4, h5, h6] at hpos
end RS
/-! ### Items in turn -/
/-- An item: its kind, its number, its bytes. -/
structure It where
  k : Int
  n : Int
  b : List UInt8
structure It.Ok (i : It) : Prop where
  n : 0 ≤ i.n ∧ i.n ≤ 18446744073709551615
  b : i.b.length ≤ 1000000000
def It.enc (i : It) : List UInt8 := opT i.k i.n i.b
def encs (l : List It) : List UInt8 := (l.map It.enc).flatten
theorem encs_succ (l : List It) (k : Nat) (h : k < l.length) : encs (l.take (k + 1)) = encs (l.take k) ++ l[k].enc := by
  rw [List.take_succ_eq_append_getElem h]; simp only [encs, List.map_append, List.flatten_append, List.map_cons, List.map_nil, List.flatten_cons, List.flatten_nil, List.append_nil]
theorem encs_split (l : List It) (k : Nat) : encs l = encs (l.take k) ++ encs (l.drop k) := by
  conv => lhs; rw [← List.take_append_drop k l]
  simp only [encs, List.map_append, List.flatten_append]
/-- Where the reader of the whole stands behind k items. -/
theorem turn_good (l : List It) (k : Nat) (h : k < l.length) (hk : l[k].Ok) : (RS.mk (encs l) (encs (l.take k)).length 0).backV l[k].k l[k].n l[k].b = true ∧
    (RS.mk (encs l) (encs (l.take k)).length 0).backS l[k].k l[k].n l[k].b = ⟨encs l, (encs (l.take (k + 1))).length, 0⟩ := by
  have e : encs l = encs (l.take k) ++ opT l[k].k l[k].n l[k].b ++ encs (l.drop (k + 1)) := by
    rw [encs_split l (k + 1), encs_succ l k h]; rfl
  have := RS.back_good l[k].k l[k].n l[k].b (encs (l.take k)) (encs (l.drop (k + 1))) hk.n hk.b
  rw [← e] at this
  rw [encs_succ l k h, List.length_append]
  exact this
/-- Where the reader of all but the last byte stands behind k items. -/
def Cut (l : List It) (k : Nat) (s : RS) : Prop :=
  s.l = (encs l).dropLast ∧ (((encs (l.take k)).length < (encs l).length ∧ s.p = (encs (l.take k)).length ∧ s.met = 0) ∨ ((encs (l.take k)).length = (encs l).length ∧ s.met = 1))
theorem cut_step (stuck : ∀ (k n : Int) (b : List UInt8) (s : RS), s.met ≠ 0 → s.backS k n b = s) (l : List It) (k : Nat) (h : k < l.length) (hk : l[k].Ok) (s : RS) (hs : Cut l k s) : Cut l (k + 1) (s.backS l[k].k l[k].n l[k].b) := by
  have e : encs l = encs (l.take (k + 1)) ++ encs (l.drop (k + 1)) := encs_split l (k + 1)
  have e1 := encs_succ l k h
  have hle := congrArg List.length e
  have hle1 := congrArg List.length e1
  rw [List.length_append] at hle hle1
  obtain ⟨hl, hs | hs⟩ := hs
  · obtain ⟨h1, h2, h3⟩ := hs
    obtain ⟨sl, sp, sm⟩ := s
    simp only at hl h2 h3
    subst hl h2 h3
    by_cases hr : encs (l.drop (k + 1)) = []
    · rw [hr, List.append_nil] at e
      have hne : opT l[k].k l[k].n l[k].b ≠ [] := fun h0 => by
        have h0 : l[k].enc = [] := h0
        rw [h0, List.append_nil] at e1
        rw [e, e1] at h1
        omega
      have e2 : (encs l).dropLast = encs (l.take k) ++ (opT l[k].k l[k].n l[k].b).dropLast := by
        rw [e, e1]; exact List.dropLast_append_of_ne_nil hne
      have hb := RS.back_cut l[k].k l[k].n l[k].b (encs (l.take k)) hk.n hk.b hne
      rw [← e2] at hb
      rw [hb]
      exact ⟨rfl, .inr ⟨by rw [← e], rfl⟩⟩
    · have e2 : (encs l).dropLast = encs (l.take k) ++ opT l[k].k l[k].n l[k].b ++ (encs (l.drop (k + 1))).dropLast := by
        rw [e, List.dropLast_append_of_ne_nil hr, e1]; rfl
      have hb := (RS.back_good l[k].k l[k].n l[k].b (encs (l.take k)) (encs (l.drop (k + 1))).dropLast hk.n hk.b).2
      rw [← e2] at hb
      rw [hb]
      have hp : 0 < (encs (l.drop (k + 1))).length := List.length_pos_iff.2 hr
      exact ⟨rfl, .inl ⟨by omega, by rw [hle1]; rfl, rfl⟩⟩
  · obtain ⟨h1, h2⟩ := hs
    rw [stuck _ _ _ _ (by omega)]
    exact ⟨hl, .inr ⟨by omega, h2⟩⟩
end Go.Sat
