import Derived.Test.YtafgeppdchnceaaDoorSha
set_option linter.unusedVariables false
namespace Go.Sat
open Go
namespace Sha
/-- The i-th block of d. -/
def blk (d : List UInt8) (i : Nat) : List UInt8 := (d.drop (64 * i)).take 64
/-- The words behind the whole blocks of d. -/
def state (K : List Nat) (v : V8) (d : List UInt8) : V8 := (List.range (d.length / 64)).foldl (fun v i => mix K v (blk d i)) v
/-- What stands behind the whole blocks. -/
def rem (d : List UInt8) : List UInt8 := d.drop (64 * (d.length / 64))
theorem rem_len (d : List UInt8) : (rem d).length = d.length % 64 := by simp [rem]; omega
theorem blk_left (d x : List UInt8) (i : Nat) (h : 64 * i + 64 ≤ d.length) : blk (d ++ x) i = blk d i := by
  unfold blk
  rw [List.drop_append_of_le_length (by omega), List.take_append_of_le_length (by simp; omega)]
theorem foldl_same {α β : Type} (f g : α → β → α) : ∀ (l : List β) (a : α), (∀ a, ∀ b ∈ l, f a b = g a b) → l.foldl f a = l.foldl g a
  | [], _, _ => rfl
  | b :: l, a, h => by
    rw [List.foldl_cons, List.foldl_cons, h a b (List.mem_cons_self ..)]
    exact foldl_same f g l _ fun a b hb => h a b (List.mem_cons_of_mem _ hb)
theorem state_few (K : List Nat) (v : V8) (d x : List UInt8) (h : (d ++ x).length / 64 = d.length / 64) : state K v (d ++ x) = state K v d := by
  unfold state
  rw [h]
  refine foldl_same _ _ _ _ fun a i hi => ?_
  rw [List.mem_range] at hi
  rw [blk_left d x i (by omega)]
theorem rem_few (d x : List UInt8) (h : (d ++ x).length / 64 = d.length / 64) : rem (d ++ x) = rem d ++ x := by
  unfold rem
  rw [h, List.drop_append_of_le_length (by omega)]
theorem state_full (K : List Nat) (v : V8) (d x : List UInt8) (h : d.length % 64 + x.length = 64) : state K v (d ++ x) = mix K (state K v d) (rem d ++ x) ∧ rem (d ++ x) = [] := by
  have hl : (d ++ x).length / 64 = d.length / 64 + 1 := by simp; omega
  constructor
  · unfold state
    rw [hl, List.range_succ, List.foldl_append]
    simp only [List.foldl_cons, List.foldl_nil]
    have e : blk (d ++ x) (d.length / 64) = rem d ++ x := by
      unfold blk rem
      rw [List.drop_append_of_le_length (by omega), List.take_of_length_le (by simp; omega)]
    rw [e]
    refine congrArg (fun z => mix K z (rem d ++ x)) ?_
    refine foldl_same _ _ _ _ fun a i hi => ?_
    rw [List.mem_range] at hi
    rw [blk_left d x i (by omega)]
  · unfold rem
    rw [hl, List.drop_of_length_le (by simp; omega)]
/-- The padded text, the digest. -/
def pad (d : List UInt8) : List UInt8 := [128] ++ List.replicate ((119 - d.length % 64) % 64) 0 ++ (List.range 8).map fun k => UInt8.ofNat (8 * d.length % 18446744073709551616 / 256 ^ (7 - k))
def out (v : V8) : List UInt8 := (v.list.map fun w => (List.range 4).map fun k => UInt8.ofNat (w / 256 ^ (3 - k))).flatten
def sha (K : List Nat) (v : V8) (d : List UInt8) : List UInt8 := out (state K v (d ++ pad d))
end Sha
end Go.Sat
