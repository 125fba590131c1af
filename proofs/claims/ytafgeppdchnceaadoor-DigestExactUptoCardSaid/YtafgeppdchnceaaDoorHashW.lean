import Derived.Test.YtafgeppdchnceaaDoorShaP
import Derived.Test.YtafgeppdchnceaaDoorShaS
set_option linter.unusedVariables false
namespace Go.Sat
open Go Go.RowKit
/-- The first part of a slice of bytes that reads. -/
theorem wpl_upto {P : Program} {ops : Array Oper} {rest : List Oper} {o : Oper} {a : Act} {Q : Exit → Act → World → Prop} {w : World} (hw : Region.wanted o (yielded ops a.tmps) = true) (t : TypeId) (x hi : Operand)
    (ho : o.op = .slice t x none (some hi) none) {e : TypeId} (ht : P.underlying t = some (.slice e)) (hsz : ∀ w, (sizeOf e).run P w = .ok 1 w) {ao : Option Addr} {n c : Nat} {l : List UInt8} (hx : a.eval x = .slice ao n c) (hr : Rd w (.slice ao n c) l)
    {j : Int} (h0 : Nat) (hhi : a.eval hi = .int .i64 j) (hj0 : j = h0) (h2 : h0 ≤ l.length)
    (h : ∀ y, Rd w y (l.take h0) → wpList P ops Q rest (a.put o.dst y) w) : wpList P ops Q (o :: rest) a w := by
  subst hj0
  have hp := hr.part (Nat.zero_le h0) h2
  have hc : l.length ≤ c ∧ n = l.length := by
    obtain ⟨ao', c', e1, e2⟩ := hr.form
    injection e1 with e3 e4 e5
    omega
  have he : P.elem t = e := by simp [Program.elem, ht]
  have hrun : (Instr.slice t (.slice ao n c) none (some (.int .i64 (h0 : Int))) none).run P w = .ok (.slice (ao.map fun a => if c = 0 then a else a.add 0) (h0 - 0) (c - 0)) w := by
    rw [run_slice_h w t ao n c (by rw [he]; exact ht) .i64 h0 (by omega) (by omega), he, hsz]
    simp [sliced]
    split
    · cases ao <;> rfl
    · rfl
  have hrun2 : (Instr.sliceAt t (.slice ao n c) none (some (.int .i64 (h0 : Int))) none).run P w = .ok (.slice (ao.map fun a => if c = 0 then a else a.add 0) (h0 - 0) (c - 0)) w := by
    rw [run_sliceAt_slice _ _ _ _ _ _ (by rw [he]; exact ht)]; exact hrun
  refine BigFrame.wpList_want hw fun K hK => ?_
  unfold Oper.wp execOp
  have := hK _ _ (h _ (by simpa using hp))
  simpa [ho, hhi, hx, hrun2, Oper.upon] using this
/-- The last part of a slice of bytes that reads. -/
theorem wpl_from {P : Program} {ops : Array Oper} {rest : List Oper} {o : Oper} {a : Act} {Q : Exit → Act → World → Prop} {w : World} (hw : Region.wanted o (yielded ops a.tmps) = true) (t : TypeId) (x lo : Operand)
    (ho : o.op = .slice t x (some lo) none none) {e : TypeId} (ht : P.underlying t = some (.slice e)) (hsz : ∀ w, (sizeOf e).run P w = .ok 1 w) {ao : Option Addr} {n c : Nat} {l : List UInt8} (hx : a.eval x = .slice ao n c) (hr : Rd w (.slice ao n c) l)
    {j : Int} (l0 : Nat) (hlo : a.eval lo = .int .i64 j) (hj0 : j = l0) (h2 : l0 ≤ l.length)
    (h : ∀ y, Rd w y (l.drop l0) → (∀ k, rdb y = some k → rdb (.slice ao n c) = some k) → wpList P ops Q rest (a.put o.dst y) w) : wpList P ops Q (o :: rest) a w := by
  subst hj0
  have hp := hr.part h2 (Nat.le_refl _)
  have hc : l.length ≤ c ∧ n = l.length := by
    obtain ⟨ao', c', e1, e2⟩ := hr.form
    injection e1 with e3 e4 e5
    omega
  have he : P.elem t = e := by simp [Program.elem, ht]
  have hrun : (Instr.slice t (.slice ao n c) (some (.int .i64 (l0 : Int))) none none).run P w = .ok (.slice (ao.map fun a => if c = l0 then a else a.add l0) (l.length - l0) (c - l0)) w := by
    rw [run_slice_l w t ao n c (by rw [he]; exact ht) .i64 l0 (by omega) (by omega), he, hsz]
    simp [sliced, hc.2]
    split
    · cases ao <;> rfl
    · rfl
  have hrun2 : (Instr.sliceAt t (.slice ao n c) (some (.int .i64 (l0 : Int))) none none).run P w = .ok (.slice (ao.map fun a => if c = l0 then a else a.add l0) (l.length - l0) (c - l0)) w := by
    rw [run_sliceAt_slice _ _ _ _ _ _ (by rw [he]; exact ht)]; exact hrun
  have hdt : (l.drop l0).take (l.length - l0) = l.drop l0 := List.take_of_length_le (by simp)
  rw [hdt] at hp
  refine BigFrame.wpList_want hw fun K hK => ?_
  unfold Oper.wp execOp
  have := hK _ _ (h _ hp fun k hk => ?_)
  · simpa [ho, hlo, hx, hrun2, Oper.upon] using this
  · cases ao with
    | none => simp [rdb] at hk
    | some a =>
      simp only [rdb, Option.map_some] at hk ⊢
      split at hk
      · cases hk
      · rw [if_neg (by omega)]
        rw [← hk]
        split
        · rfl
        · unfold Addr.add; split <;> rfl
/-- The last part of an array in memory, as a slice. -/
theorem wpl_arr_from {P : Program} {ops : Array Oper} {rest : List Oper} {o : Oper} {a : Act} {Q : Exit → Act → World → Prop} {w : World} (hw : Region.wanted o (yielded ops a.tmps) = true) (t : TypeId) (x lo : Operand)
    (ho : o.op = .slice t x (some lo) none none) {N : Nat} {e : TypeId} (hu : P.underlying t = some (.array N e)) (hsz : ∀ w, (sizeOf e).run P w = .ok 1 w) {g off : Nat} (hx : a.eval x = .pointer (some ⟨g, off, none⟩)) {l0 : Nat} (hlo : a.eval lo = .int .i64 (l0 : Int)) (h1 : l0 < N)
    (h : wpList P ops Q rest (a.put o.dst (.slice (some ⟨g, off + l0, none⟩) (N - l0) (N - l0))) w) : wpList P ops Q (o :: rest) a w := by
  have he : P.elem t = e := by simp [Program.elem, hu]
  have hN : P.arrayLen t = N := by simp [Program.arrayLen, hu]
  have hrun : (Instr.sliceAt t (.pointer (some ⟨g, off, none⟩)) (some (.int .i64 (l0 : Int))) none none).run P w = .ok (.slice (some ⟨g, off + l0, none⟩) (N - l0) (N - l0)) w := by
    rw [run_sliceAt_array_l w t ⟨g, off, none⟩ (by rw [hN, he]; exact hu) .i64 l0 (by omega) (by rw [hN]; omega), he, hsz, hN]
    simp [slicedAt, addr_add, show N ≠ l0 by omega]
  refine BigFrame.wpList_want hw fun K hK => ?_
  unfold Oper.wp execOp
  have := hK _ _ h
  simpa [ho, hlo, hx, hrun, Oper.upon] using this
theorem Rd.src_cells {w : World} {l : List UInt8} {b off n c : Nat} (h : Rd w (.slice (some ⟨b, off, none⟩) n c) l) : ∀ j u, (bcells l)[j]? = some u → w.cell? ((⟨b, off, none⟩ : Addr).add j) = some u := fun j u hu => by
  have hj : j < l.length := by have := (List.getElem?_eq_some_iff.1 hu).1; simpa using this
  rw [bcells_get, List.getElem?_eq_getElem hj] at hu
  rw [addr_add, ← hu]
  exact h.cell hj
end Go.Sat
namespace Go.Proofs.YtafgeppdchnceaaDoor
open Go Go.RowKit Go.Sat
/-- The cells of a Hash. -/
def hcells (v : Sha.V8) (tail : List UInt8) (have_ all : Int) : List Value := wcells v.list ++ (bcells tail ++ [.int .i64 have_, .int .u64 all])
/-- A Hash to which d was written. -/
structure IsH (w : World) (K : List Nat) (v0 : Sha.V8) (pb : Nat) (d : List UInt8) : Prop where
  blk : ∃ tail : List UInt8, tail.length = 64 ∧ tail.take (d.length % 64) = Sha.rem d ∧ Blk w pb 80 (hcells (Sha.state K v0 d) tail (d.length % 64 : Nat) (d.length % 18446744073709551616 : Nat)).toArray
/-- The rounds' words. -/
def Rounds (w : World) (K : List Nat) : Prop := (∀ t, t < 64 → w.cell? ⟨2, t, none⟩ = some (.int .u32 ((K.getD t 0 : Nat) : Int))) ∧ ∀ x ∈ K, x < 4294967296
theorem hlen_v (v : Sha.V8) : (wcells v.list).length = 8 := rfl
theorem hcell_have (v : Sha.V8) (tail : List UInt8) (h a : Int) (ht : tail.length = 64) : (hcells v tail h a)[72]? = some (.int .i64 h) := by
  unfold hcells
  rw [List.getElem?_append_right (by rw [hlen_v]; omega), hlen_v, List.getElem?_append_right (by simp [ht])]
  simp [ht]
theorem hcell_all (v : Sha.V8) (tail : List UInt8) (h a : Int) (ht : tail.length = 64) : (hcells v tail h a)[73]? = some (.int .u64 a) := by
  unfold hcells
  rw [List.getElem?_append_right (by rw [hlen_v]; omega), hlen_v, List.getElem?_append_right (by simp [ht])]
  simp [ht]
theorem hcell_tail (v : Sha.V8) (tail : List UInt8) (h a : Int) (ht : tail.length = 64) (j : Nat) (hj : j < tail.length) : (hcells v tail h a)[8 + j]? = some (.int .u8 (tail[j].toNat : Int)) := by
  unfold hcells
  rw [List.getElem?_append_right (by rw [hlen_v]; omega), hlen_v, List.getElem?_append_left (by simp; omega), show 8 + j - 8 = j from by omega, bcells_get, List.getElem?_eq_getElem hj]
  rfl
theorem hset_have (v : Sha.V8) (tail : List UInt8) (h a h2 : Int) (ht : tail.length = 64) : (hcells v tail h a).toArray.setIfInBounds 72 (.int .i64 h2) = (hcells v tail h2 a).toArray := by
  unfold hcells
  rw [List.setIfInBounds_toArray, List.set_append_right _ _ (by rw [hlen_v]; omega), hlen_v, List.set_append_right _ _ (by simp [ht])]
  simp [ht]
theorem hset_all (v : Sha.V8) (tail : List UInt8) (h a a2 : Int) (ht : tail.length = 64) : (hcells v tail h a).toArray.setIfInBounds 73 (.int .u64 a2) = (hcells v tail h a2).toArray := by
  unfold hcells
  rw [List.setIfInBounds_toArray, List.set_append_right _ _ (by rw [hlen_v]; omega), hlen_v, List.set_append_right _ _ (by simp [ht])]
  simp [ht]
theorem hcopy (v : Sha.V8) (tail l : List UInt8) (h a : Int) (k : Nat) (ht : tail.length = 64) (hk : k + l.length ≤ 64) :
    ((hcells v tail h a).take (8 + k) ++ bcells l ++ (hcells v tail h a).drop (8 + k + l.length)) = hcells v (tail.take k ++ l ++ tail.drop (k + l.length)) h a := by
  unfold hcells
  rw [List.take_append, List.drop_append, hlen_v, List.take_of_length_le (by rw [hlen_v]; omega), List.drop_of_length_le (by rw [hlen_v]; omega), List.nil_append, show 8 + k - 8 = k from by omega, show 8 + k + l.length - 8 = k + l.length from by omega,
    List.take_append_of_le_length (by simp [ht]; omega), List.drop_append_of_le_length (by simp [ht]; omega)]
  simp only [bcells_append, bcells_take, bcells_drop, List.append_assoc]
theorem mix_lt (K : List Nat) (v : Sha.V8) (b : List UInt8) : ∀ x ∈ (Sha.mix K v b).list, x < 4294967296 := by
  simp only [Sha.mix, Sha.V8.add, Sha.V8.list, List.mem_cons, List.not_mem_nil, or_false, forall_eq_or_imp, forall_eq]
  exact ⟨Nat.mod_lt _ (by decide), Nat.mod_lt _ (by decide), Nat.mod_lt _ (by decide), Nat.mod_lt _ (by decide), Nat.mod_lt _ (by decide), Nat.mod_lt _ (by decide), Nat.mod_lt _ (by decide), Nat.mod_lt _ (by decide)⟩
theorem state_lt (K : List Nat) (v : Sha.V8) (hv : ∀ x ∈ v.list, x < 4294967296) (d : List UInt8) : ∀ x ∈ (Sha.state K v d).list, x < 4294967296 := by
  unfold Sha.state
  have key : ∀ (l : List Nat) (v : Sha.V8), (∀ x ∈ v.list, x < 4294967296) → ∀ x ∈ (l.foldl (fun v i => Sha.mix K v (Sha.blk d i)) v).list, x < 4294967296 := by
    intro l
    induction l with
    | nil => intro v h; exact h
    | cons i l ih => intro v h; exact ih _ (mix_lt K v _)
  exact key _ v hv
end Go.Proofs.YtafgeppdchnceaaDoor
