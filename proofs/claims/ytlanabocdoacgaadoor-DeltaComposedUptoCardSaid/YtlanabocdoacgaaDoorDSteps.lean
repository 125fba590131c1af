import Derived.Test.YtlanabocdoacgaaDoorDStrict
set_option linter.unusedVariables false
namespace Go.Sat
open Go
theorem encL_len (base : Nat) (hb : base ≤ 65536) : ∀ ps : List Pc, (∀ p ∈ ps, p.Good base) → lenL ps ≤ 65536 → (encL ps).length ≤ 21 * lenL ps
  | [], _, _ => by simp [encL, lenL]
  | p :: ps, h, hl => by
    have hp := h p (List.mem_cons_self ..)
    rw [lenL_cons] at hl ⊢
    have ih := encL_len base hb ps (fun q hq => h q (List.mem_cons_of_mem _ hq)) (by omega)
    rw [encL_cons, List.length_append]
    obtain ⟨h1, h2⟩ := hp
    have h3 : p.enc.length ≤ p.len + 20 := by
      cases p with
      | new b =>
        have := varB_len (2 * b.length) (by simp only [Pc.len] at hl; omega)
        simp only [Pc.enc, Pc.len, List.length_append]; omega
      | copy a n =>
        simp only [Pc.fits] at h2
        have := varB_len (2 * n + 1) (by simp only [Pc.len] at hl; omega)
        have := varB_len a (by omega)
        simp only [Pc.enc, Pc.len, List.length_append]; omega
    omega
end Go.Sat
namespace Go.Proofs.YtlanabocdoacgaaDoor
open Go Go.RowKit Go.Sat
/-- A step of a script, as it stands in memory, with what it holds. -/
structure StepV where
  vn : Value
  at_ : Int
  n : Int
  b : List UInt8
def StepV.cells (p : StepV) : List Value := [p.vn, .int .i64 p.at_, .int .i64 p.n]
structure StepV.Ok (w : World) (p : StepV) : Prop where
  b : Rd w p.vn p.b
  at_ : -9223372036854775808 ≤ p.at_ ∧ p.at_ ≤ 9223372036854775807
  n : -9223372036854775808 ≤ p.n ∧ p.n ≤ 9223372036854775807
def RdSteps (w : World) (v : Value) (ps : List StepV) : Prop :=
  (∀ p ∈ ps, p.Ok w) ∧ ((ps = [] ∧ ∃ ao c, v = .slice ao 0 c) ∨ ∃ b off c, v = .slice (some ⟨b, off, none⟩) ps.length c ∧ b < w.heap.size ∧
    ∀ i (h : i < ps.length), ∀ j u, ps[i].cells[j]? = some u → w.cell? ⟨b, off + i * 3 + j, none⟩ = some u)
theorem RdSteps.form {w : World} {v : Value} {ps : List StepV} (h : RdSteps w v ps) : ∃ ao c, v = .slice ao ps.length c := by
  rcases h.2 with ⟨h0, ao, c, rfl⟩ | ⟨b, off, c, rfl, _⟩
  · exact ⟨ao, c, by rw [h0]; rfl⟩
  · exact ⟨_, c, rfl⟩
def bulkSteps (ps : List StepV) : Nat := (ps.map fun p => p.b.length + 1).sum
theorem bulkS_mem {ps : List StepV} {p : StepV} (h : p ∈ ps) : p.b.length + 1 ≤ bulkSteps ps := by
  induction ps with
  | nil => cases h
  | cons q ps ih =>
    simp only [bulkSteps, List.map_cons, List.sum_cons] at ih ⊢
    rcases List.mem_cons.1 h with rfl | h
    · omega
    · have := ih h; omega
theorem bulkS_len : ∀ ps : List StepV, ps.length ≤ bulkSteps ps
  | [] => by simp [bulkSteps]
  | p :: ps => by have := bulkS_len ps; simp only [bulkSteps, List.map_cons, List.sum_cons, List.length_cons] at this ⊢; omega
/-- The loop of a script: the commands so far lie in the Writer, the bytes in want. -/
structure CompI (w0 wr : World) (base : List UInt8) (pb : Nat) (T : TypeId) (vw v : Value) (pcs : List Pc) : Prop where
  good : ∀ p ∈ pcs, p.Good base.length
  len : lenL pcs ≤ 65536
  isw : IsW wr pb v T (encL pcs)
  own : Own wr 5 1 vw (lenL pcs) (bcells (flatP base pcs))
  hpb : w0.heap.size ≤ pb
  hv : ∀ k, v.ownBlock = some k → w0.heap.size ≤ k
  hvw : ∀ k, vw.ownBlock = some k → w0.heap.size ≤ k ∧ k ≠ pb ∧ v.ownBlock ≠ some k
  chg : Chg (fun _ => False) w0 wr
namespace CompI
variable {w0 wr w' : World} {base : List UInt8} {pb : Nat} {T : TypeId} {vw v : Value} {pcs : List Pc}
theorem kept (h : CompI w0 wr base pb T vw v pcs) (c : Chg (fun _ => False) wr w') : CompI w0 w' base pb T vw v pcs :=
  ⟨h.good, h.len, h.isw.kept c id (fun _ _ => id), h.own.kept c (fun _ _ => id), h.hpb, h.hv, h.hvw, h.chg.trans c (fun _ _ h => h)⟩
/-- A piece more: first the Writer's step, then the append. -/
theorem more (h : CompI w0 wr base pb T vw v pcs) (p : Pc) (hp : p.Good base.length) (hl : lenL pcs + p.len ≤ 65536) {w1 w2 : World} {v1 vw2 : Value}
    (hI : IsW w1 pb v1 T (encL pcs ++ p.enc)) (hc : Chg (fun k => k = pb ∨ v.ownBlock = some k) wr w1) (hb : ∀ k, v1.ownBlock = some k → v.ownBlock = some k ∨ wr.heap.size ≤ k)
    (ho : Own w2 5 1 vw2 (lenL pcs + p.len) (bcells (flatP base pcs) ++ bcells (p.bytes base))) (hg : w1.grownBy w2 vw.ownBlock) (hbl : vw2.ownBlock = vw.ownBlock ∨ vw2.ownBlock = some w1.heap.size) :
    CompI w0 w2 base pb T vw2 v1 (pcs ++ [p]) := by
  have hsz := h.chg.size
  have hsz1 := hc.size
  have e1 : Chg (fun k => vw.ownBlock = some k) w1 w2 := (Chg.refl _ w1).grown hg (fun k hk => .inr hk)
  have hv1 : ∀ k, v1.ownBlock = some k → w0.heap.size ≤ k ∧ vw.ownBlock ≠ some k := fun k hk => by
    rcases hb k hk with h2 | h2
    · exact ⟨h.hv k h2, fun e => (h.hvw k e).2.2 h2⟩
    · refine ⟨by omega, fun e => ?_⟩
      have := h.own.lt k e
      omega
  refine ⟨fun q hq => ?_, by rw [lenL_append]; simpa [lenL] using hl, ?_, ?_, h.hpb, fun k hk => (hv1 k hk).1, fun k hk => ?_, ?_⟩
  · rcases List.mem_append.1 hq with hq | hq
    · exact h.good q hq
    · simp at hq; subst hq; exact hp
  · rw [encL_append, show encL [p] = p.enc from by simp [encL]]
    exact hI.kept e1 (fun e => (h.hvw pb e).2.1 rfl) (fun k hk => (hv1 k hk).2)
  · rw [lenL_append, flatP_append, show lenL [p] = p.len from by simp [lenL], show flatP base [p] = p.bytes base from by simp [flatP], bcells_append]
    exact ho
  · rcases hbl with e | e
    · rw [e] at hk
      refine ⟨(h.hvw k hk).1, (h.hvw k hk).2.1, fun e2 => (hv1 k e2).2 hk⟩
    · rw [e] at hk
      have hk' : w1.heap.size = k := by simpa using hk
      have hpb := lt_of_block hI.blk
      refine ⟨by omega, by omega, fun e2 => ?_⟩
      have := hI.own.lt k e2
      omega
  · refine (h.chg.trans hc (fun k hk h2 => ?_)).trans e1 (fun k hk h2 => ?_)
    · rcases h2 with h2 | h2
      · have := h.hpb; omega
      · have := h.hv k h2; omega
    · have := (h.hvw k h2).1; omega
end CompI
end Go.Proofs.YtlanabocdoacgaaDoor
