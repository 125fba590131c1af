import Derived.Test.YtlanabocdoacgaaDoorDPlaced2
set_option linter.unusedVariables false
namespace Go.Proofs.YtlanabocdoacgaaDoor
open Go Go.RowKit Go.Sat
/-- Two slices of bytes side by side, as they stand in memory, with what they hold. -/
structure PairV where
  vb : Value
  vd : Value
  b : List UInt8
  d : List UInt8
def PairV.cells (p : PairV) : List Value := [p.vb, p.vd]
structure PairV.Ok (w : World) (p : PairV) : Prop where
  b : Rd w p.vb p.b
  d : Rd w p.vd p.d
def RdPairs (w : World) (v : Value) (ps : List PairV) : Prop :=
  (∀ p ∈ ps, p.Ok w) ∧ ((ps = [] ∧ ∃ ao c, v = .slice ao 0 c) ∨ ∃ b off c, v = .slice (some ⟨b, off, none⟩) ps.length c ∧ b < w.heap.size ∧
    ∀ i (h : i < ps.length), ∀ j u, ps[i].cells[j]? = some u → w.cell? ⟨b, off + i * 2 + j, none⟩ = some u)
theorem RdPairs.form {w : World} {v : Value} {ps : List PairV} (h : RdPairs w v ps) : ∃ ao c, v = .slice ao ps.length c := by
  rcases h.2 with ⟨h0, ao, c, rfl⟩ | ⟨b, off, c, rfl, _⟩
  · exact ⟨ao, c, by rw [h0]; rfl⟩
  · exact ⟨_, c, rfl⟩
def bulkPairs (ps : List PairV) : Nat := (ps.map fun p => p.b.length + p.d.length + 1).sum
theorem bulk_mem {ps : List PairV} {p : PairV} (h : p ∈ ps) : p.b.length + p.d.length + 1 ≤ bulkPairs ps := by
  induction ps with
  | nil => cases h
  | cons q ps ih =>
    simp only [bulkPairs, List.map_cons, List.sum_cons] at ih ⊢
    rcases List.mem_cons.1 h with rfl | h
    · omega
    · have := ih h; omega
theorem bulk_len : ∀ ps : List PairV, ps.length ≤ bulkPairs ps
  | [] => by simp [bulkPairs]
  | p :: ps => by have := bulk_len ps; simp only [bulkPairs, List.map_cons, List.sum_cons, List.length_cons] at this ⊢; omega
end Go.Proofs.YtlanabocdoacgaaDoor
