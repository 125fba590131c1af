import Derived.Test.YtlanabocdoacgaaDoorEyeD
set_option linter.unusedVariables false
namespace Go.Sat
open Go
/-! ### What a delta says -/
/-- A piece of a target: new bytes, or so many of the base from a place on. -/
inductive Pc where
  | new (b : List UInt8)
  | copy (a n : Nat)
namespace Pc
def bytes (base : List UInt8) : Pc → List UInt8
  | new b => b
  | copy a n => (base.drop a).take n
def len : Pc → Nat
  | new b => b.length
  | copy _ n => n
/-- It lies within a base of that length. -/
def fits (base : Nat) : Pc → Prop
  | new _ => True
  | copy a n => a + n ≤ base
theorem bytes_len {base : List UInt8} {p : Pc} (h : p.fits base.length) : (p.bytes base).length = p.len := by
  cases p with
  | new b => rfl
  | copy a n => simp only [fits] at h; simp only [bytes, len, List.length_take, List.length_drop]; omega
end Pc
def M64 : Nat := 18446744073709551615
def newC (q : List UInt8 × RS) : (Nat ⊕ Pc) × RS := if q.2.met ≠ 0 then (.inl 70, q.2) else (.inr (.new q.1), q.2)
def copC (base n : Nat) (a : Nat × RS) : (Nat ⊕ Pc) × RS := if a.2.met ≠ 0 then (.inl 70, a.2) else if base < a.1 ∨ base - a.1 < n then (.inl 72, a.2) else (.inr (.copy a.1 n), a.2)
def oneC (base room : Nat) (r : Nat × RS) : (Nat ⊕ Pc) × RS :=
  if r.2.met ≠ 0 ∨ r.1 < 2 then (.inl 70, r.2)
  else if room < r.1 / 2 then (.inl 73, r.2)
  else if r.1 % 2 = 0 then newC (r.2.raw ((r.1 / 2 : Nat) : Int))
  else copC base (r.1 / 2) (r.2.var M64)
/-- The next command, of which at most room bytes may come. -/
def oneR (s : RS) (base room : Nat) : (Nat ⊕ Pc) × RS := oneC base room (s.var M64)
theorem RS.raw_nat (s : RS) (n : Nat) : s.raw (n : Int) = s.next n := by unfold RS.raw; rw [if_neg (by omega)]
theorem RS.next_len_eq {s : RS} (h : s.Ok) (n : Nat) (hm : (s.next (n : Int)).2.met = 0) : (s.next (n : Int)).1.length = n := by
  have hl := RS.left_eq h
  unfold RS.next at hm ⊢
  by_cases h0 : s.met ≠ 0
  · rw [if_pos h0] at hm; exact absurd hm h0
  · rw [if_neg h0] at hm ⊢
    by_cases h1 : (s.left : Int) < n
    · rw [if_pos h1] at hm; simp [RS.fall] at hm
    · rw [if_neg h1]
      simp
      omega
theorem RS.next_l' (s : RS) (n : Int) : (s.next n).2.l = s.l := by
  unfold RS.next RS.fall
  split
  · rfl
  · split <;> rfl
theorem oneR_ok {s : RS} (h : s.Ok) (base room : Nat) (hv : ∀ (s : RS), s.Ok → ∀ most, (s.var most).2.Ok ∧ (s.var most).1 ≤ most ∧ (s.var most).2.l = s.l) :
    (oneR s base room).2.Ok ∧ (oneR s base room).2.l = s.l ∧ ∀ p, (oneR s base room).1 = .inr p → 1 ≤ p.len ∧ p.len ≤ room ∧ p.fits base := by
  obtain ⟨h1, h2, h3⟩ := hv s h M64
  unfold oneR oneC
  generalize s.var M64 = r at *
  obtain ⟨c, s1⟩ := r
  simp only at h1 h2 h3 ⊢
  by_cases c1 : s1.met ≠ 0 ∨ c < 2
  · rw [if_pos c1]; exact ⟨h1, h3, fun p hp => by cases hp⟩
  rw [if_neg c1]
  by_cases c2 : room < c / 2
  · rw [if_pos c2]; exact ⟨h1, h3, fun p hp => by cases hp⟩
  rw [if_neg c2]
  by_cases c3 : c % 2 = 0
  · rw [if_pos c3, RS.raw_nat]
    unfold newC
    have hok := RS.next_ok h1 ((c / 2 : Nat) : Int) (fun _ => by omega)
    have hl := RS.next_l' s1 ((c / 2 : Nat) : Int)
    by_cases c4 : (s1.next ((c / 2 : Nat) : Int)).2.met ≠ 0
    · rw [if_pos c4]; exact ⟨hok, hl.trans h3, fun p hp => by cases hp⟩
    · rw [if_neg c4]
      refine ⟨hok, hl.trans h3, fun p hp => ?_⟩
      cases hp
      have := RS.next_len_eq h1 (c / 2) (by omega)
      simp only [Pc.len, Pc.fits]
      rw [this]
      exact ⟨by omega, by omega, trivial⟩
  · rw [if_neg c3]
    unfold copC
    obtain ⟨a1, a2, a3⟩ := hv s1 h1 M64
    generalize s1.var M64 = a at *
    obtain ⟨at_, s2⟩ := a
    simp only at a1 a2 a3 ⊢
    by_cases c4 : s2.met ≠ 0
    · rw [if_pos c4]; exact ⟨a1, a3.trans h3, fun p hp => by cases hp⟩
    rw [if_neg c4]
    by_cases c5 : base < at_ ∨ base - at_ < c / 2
    · rw [if_pos c5]; exact ⟨a1, a3.trans h3, fun p hp => by cases hp⟩
    · rw [if_neg c5]
      refine ⟨a1, a3.trans h3, fun p hp => ?_⟩
      cases hp
      simp only [Pc.len, Pc.fits]
      omega
/-- The commands, up to the room's end. -/
def goR (base : Nat) : Nat → RS → Nat → List Pc → (Nat ⊕ List Pc) × RS
  | 0, s, _, acc => (.inr acc, s)
  | f + 1, s, room, acc => if room = 0 then (.inr acc, s) else match oneR s base room with
    | (.inl e, t) => (.inl e, t)
    | (.inr p, t) => goR base f t (room - p.len) (acc ++ [p])
theorem goR_end (base f : Nat) (s : RS) (acc : List Pc) : goR base f s 0 acc = (.inr acc, s) := by
  cases f with
  | zero => rfl
  | succ f => simp [goR]
theorem goR_bad {base f room e : Nat} {s t : RS} {acc : List Pc} (h : oneR s base room = (.inl e, t)) (h0 : 0 < room) (hf : room ≤ f) : goR base f s room acc = (.inl e, t) := by
  cases f with
  | zero => omega
  | succ f => simp [goR, show room ≠ 0 by omega, h]
theorem goR_good {base f room : Nat} {s t : RS} {p : Pc} {acc : List Pc} (h : oneR s base room = (.inr p, t)) (h0 : 0 < room) (hf : room ≤ f) : goR base f s room acc = goR base (f - 1) t (room - p.len) (acc ++ [p]) := by
  cases f with
  | zero => omega
  | succ f => simp [goR, show room ≠ 0 by omega, h]
/-- The pieces, the target's length, the error. -/
def pcsR (base : Nat) (d : List UInt8) : List Pc × Nat × Nat :=
  let r := (⟨d, 0, 0⟩ : RS).var 65536
  if r.2.met ≠ 0 then ([], 0, 70) else if r.1 ≠ base then ([], 0, 71) else
  let q := r.2.var M64
  if q.2.met ≠ 0 then ([], 0, 70) else if 65536 < q.1 then ([], 0, 73) else
  match goR base q.1 q.2 q.1 [] with
  | (.inl e, _) => ([], 0, e)
  | (.inr l, t) => if 0 < t.left then ([], 0, 70) else (l, q.1, 0)
def flatP (base : List UInt8) (l : List Pc) : List UInt8 := (l.map (Pc.bytes base)).flatten
/-- The target, the error. -/
def appR (base d : List UInt8) : List UInt8 × Nat :=
  let r := pcsR base.length d
  if r.2.2 ≠ 0 then ([], r.2.2) else (flatP base r.1, 0)
def sizeR (d : List UInt8) : Nat × Nat × Nat :=
  let r := (⟨d, 0, 0⟩ : RS).var 65536
  let q := r.2.var M64
  if q.2.met ≠ 0 then (0, 0, 70) else if 65536 < q.1 then (0, 0, 73) else (r.1, q.1, 0)
theorem flatP_snoc (base : List UInt8) (l : List Pc) (p : Pc) : flatP base (l ++ [p]) = flatP base l ++ p.bytes base := by simp [flatP]
end Go.Sat
