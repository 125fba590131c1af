import Derived.Test.YtnfmeaifbankjaaCodeW
set_option linter.unusedVariables false
namespace Go.Proofs.Ytnfmeaifbankjaa
open Go Go.RowKit Go.Sat

/-- A step of a script, as it stands in memory, with the bytes that it names. -/
structure OpV where
  k : Int
  wh : Int
  m : Int
  n : Int
  x : Value
  b : List UInt8
def OpV.cells (o : OpV) : List Value := [.int .i64 o.k, .int .i64 o.wh, .int .i64 o.m, .int .u64 o.n, o.x]
def OpV.val (o : OpV) : Value := .agg #[.int .i64 o.k, .int .i64 o.wh, .int .i64 o.m, .int .u64 o.n, o.x]
structure OpV.Ok (w : World) (o : OpV) : Prop where
  k : -9223372036854775808 ≤ o.k ∧ o.k ≤ 9223372036854775807
  wh : -9223372036854775808 ≤ o.wh ∧ o.wh ≤ 9223372036854775807
  m : -9223372036854775808 ≤ o.m ∧ o.m ≤ 9223372036854775807
  n : 0 ≤ o.n ∧ o.n ≤ 18446744073709551615
  rd : Rd w o.x o.b
  lt : ∀ k, rdb o.x = some k → k < w.heap.size
/-- A slice of steps that reads. -/
def RdOps (w : World) (v : Value) (ops : List OpV) : Prop :=
  (∀ o ∈ ops, o.Ok w) ∧ ((ops = [] ∧ ∃ ao c, v = .slice ao 0 c) ∨ ∃ b off c, v = .slice (some ⟨b, off, none⟩) ops.length c ∧ b < w.heap.size ∧
    ∀ i (h : i < ops.length), ∀ j u, ops[i].cells[j]? = some u → w.cell? ⟨b, off + i * 5 + j, none⟩ = some u)
/-- How many bytes they name in all. -/
def bulkOps (ops : List OpV) : Nat := (ops.map fun o => o.b.length + 1).sum

theorem bulk_take (ops : List OpV) (k : Nat) : ((ops.take k).map fun o => o.b.length).sum ≤ bulkOps ops := by
  induction ops generalizing k with
  | nil => simp [bulkOps]
  | cons o ops ih =>
    cases k with
    | zero => simp
    | succ k =>
      have := ih k
      simp only [bulkOps, List.take_succ_cons, List.map_cons, List.sum_cons] at this ⊢
      omega
theorem bulk_step (ops : List OpV) (k : Nat) (h : k < ops.length) : ((ops.take (k + 1)).map fun o => o.b.length).sum = ((ops.take k).map fun o => o.b.length).sum + ops[k].b.length := by
  rw [List.take_succ_eq_append_getElem h, List.map_append, List.sum_append]; simp
theorem RdOps.ok {w w' : World} {o : OpV} (h : o.Ok w) (hc : Chg (fun _ => False) w w') : o.Ok w' := ⟨h.k, h.wh, h.m, h.n, h.rd.kept hc (fun _ _ => id), fun k hk => Nat.lt_of_lt_of_le (h.lt k hk) hc.size⟩

theorem RdOps.form {w : World} {v : Value} {ops : List OpV} (h : RdOps w v ops) : ∃ ao c, v = .slice ao ops.length c := by
  rcases h.2 with ⟨h0, ao, c, rfl⟩ | ⟨b, off, c, rfl, _⟩
  · exact ⟨ao, c, by rw [h0]; rfl⟩
  · exact ⟨_, c, rfl⟩
end Go.Proofs.Ytnfmeaifbankjaa
