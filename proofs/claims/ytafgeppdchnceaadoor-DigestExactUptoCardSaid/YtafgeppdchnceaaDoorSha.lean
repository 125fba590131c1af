import Derived.Laws.BitsAllLaws
set_option linter.unusedVariables false
/-! SHA-256, plain: words are numbers below 2^32. -/
namespace Go.Sat
open Go
namespace Sha
def rotr (x n : Nat) : Nat := (x / 2 ^ n) ||| (x * 2 ^ (32 - n) % 4294967296)
theorem rotr_lt {x n : Nat} (h : x < 4294967296) : rotr x n < 4294967296 := by
  have h1 : x / 2 ^ n < 2 ^ 32 := Nat.lt_of_le_of_lt (Nat.div_le_self _ _) (by omega)
  exact Nat.or_lt_two_pow h1 (by omega)
def s0 (x : Nat) : Nat := rotr x 7 ^^^ rotr x 18 ^^^ x / 8
def s1 (x : Nat) : Nat := rotr x 17 ^^^ rotr x 19 ^^^ x / 1024
def S0 (x : Nat) : Nat := rotr x 2 ^^^ rotr x 13 ^^^ rotr x 22
def S1 (x : Nat) : Nat := rotr x 6 ^^^ rotr x 11 ^^^ rotr x 25
def ch (e f g : Nat) : Nat := (e &&& f) ^^^ ((4294967295 ^^^ e) &&& g)
def maj (a b c : Nat) : Nat := (a &&& b) ^^^ (a &&& c) ^^^ (b &&& c)
theorem xor_lt {a b : Nat} (ha : a < 4294967296) (hb : b < 4294967296) : a ^^^ b < 4294967296 := Nat.xor_lt_two_pow (n := 32) ha hb
theorem and_lt {a b : Nat} (ha : a < 4294967296) : a &&& b < 4294967296 := Nat.lt_of_le_of_lt Nat.and_le_left ha
theorem s0_lt {x : Nat} (h : x < 4294967296) : s0 x < 4294967296 := xor_lt (xor_lt (rotr_lt h) (rotr_lt h)) (by omega)
theorem s1_lt {x : Nat} (h : x < 4294967296) : s1 x < 4294967296 := xor_lt (xor_lt (rotr_lt h) (rotr_lt h)) (by omega)
theorem S0_lt {x : Nat} (h : x < 4294967296) : S0 x < 4294967296 := xor_lt (xor_lt (rotr_lt h) (rotr_lt h)) (rotr_lt h)
theorem S1_lt {x : Nat} (h : x < 4294967296) : S1 x < 4294967296 := xor_lt (xor_lt (rotr_lt h) (rotr_lt h)) (rotr_lt h)
theorem ch_lt {e f g : Nat} (he : e < 4294967296) : ch e f g < 4294967296 := xor_lt (and_lt he) (and_lt (xor_lt (by decide) he))
theorem maj_lt {a b c : Nat} (ha : a < 4294967296) (hb : b < 4294967296) : maj a b c < 4294967296 := xor_lt (xor_lt (and_lt ha) (and_lt ha)) (and_lt hb)
/-- The words of a block. -/
def word (b : List UInt8) (t : Nat) : Nat := ((b.getD (4 * t) 0).toNat * 16777216 + (b.getD (4 * t + 1) 0).toNat * 65536 + (b.getD (4 * t + 2) 0).toNat * 256 + (b.getD (4 * t + 3) 0).toNat)
def words (b : List UInt8) (n : Nat) : List Nat := (List.range n).map (word b)
/-- One more word of the schedule. -/
def more (w : List Nat) : Nat := (s1 (w.getD (w.length - 2) 0) + w.getD (w.length - 7) 0 + s0 (w.getD (w.length - 15) 0) + w.getD (w.length - 16) 0) % 4294967296
def sched (w : List Nat) : Nat → List Nat
  | 0 => w
  | k + 1 => sched w k ++ [more (sched w k)]
theorem sched_len (w : List Nat) : ∀ k, (sched w k).length = w.length + k
  | 0 => rfl
  | k + 1 => by simp [sched, sched_len w k]; omega
theorem sched_lt (w : List Nat) (h : ∀ x ∈ w, x < 4294967296) : ∀ k, ∀ x ∈ sched w k, x < 4294967296
  | 0 => h
  | k + 1 => fun x hx => by
    simp only [sched, List.mem_append, List.mem_singleton] at hx
    rcases hx with hx | rfl
    · exact sched_lt w h k x hx
    · exact Nat.mod_lt _ (by decide)
theorem getD_lt {l : List Nat} (h : ∀ x ∈ l, x < 4294967296) (k : Nat) : l.getD k 0 < 4294967296 := by
  by_cases hk : k < l.length
  · simp only [List.getD, List.getElem?_eq_getElem hk, Option.getD_some]; exact h _ (List.getElem_mem _)
  · simp [List.getD, List.getElem?_eq_none (Nat.le_of_not_lt hk)]
/-- The eight words. -/
structure V8 where
  (a b c d e f g h : Nat)
def V8.list (v : V8) : List Nat := [v.a, v.b, v.c, v.d, v.e, v.f, v.g, v.h]
def V8.of : List Nat → V8
  | [a, b, c, d, e, f, g, h] => ⟨a, b, c, d, e, f, g, h⟩
  | _ => ⟨0, 0, 0, 0, 0, 0, 0, 0⟩
/-- One round, by the round's word k and the schedule's word w. -/
def rnd (v : V8) (k w : Nat) : V8 :=
  let p := (v.h + S1 v.e + ch v.e v.f v.g + k + w) % 4294967296
  let q := (S0 v.a + maj v.a v.b v.c) % 4294967296
  ⟨(p + q) % 4294967296, v.a, v.b, v.c, (v.d + p) % 4294967296, v.e, v.f, v.g⟩
def rnds (K w : List Nat) (v : V8) : Nat → V8
  | 0 => v
  | t + 1 => rnd (rnds K w v t) (K.getD t 0) (w.getD t 0)
theorem rnd_lt {v : V8} (h : ∀ x ∈ v.list, x < 4294967296) (k w : Nat) : ∀ x ∈ (rnd v k w).list, x < 4294967296 := by
  simp only [V8.list, List.mem_cons, List.not_mem_nil, or_false, forall_eq_or_imp, forall_eq, rnd] at h ⊢
  obtain ⟨h1, h2, h3, h4, h5, h6, h7, h8⟩ := h
  exact ⟨Nat.mod_lt _ (by decide), h1, h2, h3, Nat.mod_lt _ (by decide), h5, h6, h7⟩
theorem rnds_lt (K w : List Nat) {v : V8} (h : ∀ x ∈ v.list, x < 4294967296) : ∀ t, ∀ x ∈ (rnds K w v t).list, x < 4294967296
  | 0 => h
  | t + 1 => rnd_lt (rnds_lt K w h t) _ _
def V8.add (v u : V8) : V8 := ⟨(v.a + u.a) % 4294967296, (v.b + u.b) % 4294967296, (v.c + u.c) % 4294967296, (v.d + u.d) % 4294967296, (v.e + u.e) % 4294967296, (v.f + u.f) % 4294967296, (v.g + u.g) % 4294967296, (v.h + u.h) % 4294967296⟩
def mix (K : List Nat) (v : V8) (b : List UInt8) : V8 := v.add (rnds K (sched (words b 16) 48) v 64)
end Sha
end Go.Sat
