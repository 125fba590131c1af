import Derived.Test.YtnfmeaifbankjaaDuo
import Derived.Test.YtnfmeaifbankjaaReader2
set_option linter.unusedVariables false
namespace Go.Sat
open Go
/-- A number's lowest bytes, read. -/
theorem be_last (n : Int) (hn : 0 ≤ n) (s : Nat) : be n (s + 1) (s + 1) = be (n / 256) s s ++ [UInt8.ofNat n.toNat] := by
  obtain ⟨m, rfl⟩ := Int.eq_ofNat_of_zero_le hn
  rw [be_succ]
  congr 1
  · simp only [be]
    refine List.map_congr_left fun k hk => ?_
    have hk := List.mem_range.1 hk
    have e : ((m : Int) / 256).toNat = m / 256 := by omega
    rw [e, Int.toNat_natCast, Nat.div_div_eq_div_mul, show s + 1 - 1 - k = (s - 1 - k) + 1 from by omega, Nat.pow_succ, Nat.mul_comm]
  · simp
theorem num_be (s : Nat) : ∀ n : Int, 0 ≤ n → n.toNat < 256 ^ s → RS.num (be n s s) = n.toNat := by
  induction s with
  | zero => intro n h0 h1; simp at h1; simp [be, RS.num]; omega
  | succ s ih =>
    intro n h0 h1
    rw [be_last n h0, RS.num_snoc, ih (n / 256) (by omega) (by rw [Nat.pow_succ] at h1; omega)]
    have : (UInt8.ofNat n.toNat).toNat = n.toNat % 256 := by simp
    omega
theorem fixed_be (n : Int) (s : Nat) (r : List UInt8) (h0 : 0 ≤ n) (h1 : n.toNat < 256 ^ s) : (RS.mk (be n s s ++ r) 0 0).fixed s = (n.toNat, ⟨be n s s ++ r, s, 0⟩) := by
  have hl : (RS.mk (be n s s ++ r) 0 0).next s = (be n s s, ⟨be n s s ++ r, s, 0⟩) := by
    unfold RS.next
    rw [if_neg (by simp), if_neg (by simp [RS.left]; omega)]
    simp
  simp only [RS.fixed, hl, num_be s n h0 h1]
theorem range_map_set {α : Type} (f : Nat → α) (n i : Nat) (u : α) : ((List.range n).map f).set i u = (List.range n).map fun j => if j = i then u else f j := by
  refine List.ext_getElem? fun j => ?_
  simp only [List.getElem?_set, List.getElem?_map, List.length_map, List.length_range]
  by_cases hj : j < n
  · rw [List.getElem?_range hj]
    by_cases h : i = j
    · subst h; simp [hj]
    · simp [h, Ne.symm h]
  · rw [List.getElem?_eq_none (by simpa using hj)]
    simp
    intro h; subst h; omega
theorem range_map_snoc {α : Type} (f g : Nat → α) (n : Nat) (h : ∀ i, i < n → g i = f i) : (List.range (n + 1)).map g = (List.range n).map f ++ [g n] := by
  rw [List.range_succ, List.map_append]
  congr 1
  exact List.map_congr_left fun i hi => h i (List.mem_range.1 hi)
def upd {α : Type} (f : Nat → α) (i : Nat) (x : α) : Nat → α := fun j => if j = i then x else f j
theorem upd_self {α : Type} (f : Nat → α) (i : Nat) (x : α) : upd f i x i = x := by simp [upd]
theorem upd_other {α : Type} (f : Nat → α) (i j : Nat) (x : α) (h : j ≠ i) : upd f i x j = f j := by simp [upd, h]
theorem Own.cellAt {w : World} {e : TypeId} {g n c : Nat} {xs : List Value} (h : Own w e 1 (.slice (some ⟨g, 0, none⟩) n c) n xs) {i : Nat} (hi : i < n) : w.cell? ⟨g, i, none⟩ = xs[i]? := (h.store hi (.bool true)).2.2
/-- Old blocks keep their label; of the new ones those of P get the label j. -/
noncomputable def relab (lab : Nat → Nat) (w : World) (P : Nat → Prop) (j : Nat) : Nat → Nat := fun k => if k < w.heap.size then lab k else by classical exact if P k then j else 0
theorem relab_old {lab : Nat → Nat} {w : World} {P : Nat → Prop} {j k : Nat} (h : k < w.heap.size) : relab lab w P j k = lab k := by simp [relab, h]
theorem relab_new {lab : Nat → Nat} {w : World} {P : Nat → Prop} {j k : Nat} (h : w.heap.size ≤ k) (hP : P k) : relab lab w P j k = j := by
  have : ¬ k < w.heap.size := by omega
  simp [relab, this, hP]
theorem relab_none {lab : Nat → Nat} {w : World} {P : Nat → Prop} {j k : Nat} (h : w.heap.size ≤ k) (hP : ¬ P k) : relab lab w P j k = 0 := by
  have : ¬ k < w.heap.size := by omega
  simp [relab, this, hP]
end Go.Sat
namespace Go.Proofs.Ytnfmeaifbankjaa
open Go Go.RowKit Go.Sat

/-- A Writer, its one field, the list beside it, what both hold. -/
structure It where
  pb : Nat
  v : Value
  T : TypeId
  h : Value
  l : List UInt8
def It.One (x : It) (w : World) : Prop := Go.Proofs.Ytnfmeaifbankjaa.One w x.pb x.v x.T x.h x.l
def It.FP (x : It) : Nat → Prop := Go.Proofs.Ytnfmeaifbankjaa.FP x.pb x.v x.h
/-- n of them, apart by their blocks' labels. -/
structure Crowd (W w : World) (n : Nat) (it : Nat → It) (lab : Nat → Nat) : Prop where
  one : ∀ i, i < n → (it i).One w
  lb : ∀ i, i < n → ∀ k, (it i).FP k → lab k = i + 1
  old : ∀ k, k < W.heap.size → lab k = 0
  ch : Chg (fun _ => False) W w
/-- What is nobody's, and new. -/
def Free (W : World) (lab : Nat → Nat) (k : Nat) : Prop := lab k = 0 ∧ W.heap.size ≤ k
theorem Crowd.step {W w w1 : World} {n : Nat} {it : Nat → It} {lab : Nat → Nat} (h : Crowd W w n it lab) {i : Nat} (hi : i < n) (x : It) (ho : x.One w1)
    (hc : Chg (fun q => (it i).FP q ∨ Free W lab q) w w1) (hf : ∀ k, x.FP k → (it i).FP k ∨ w.heap.size ≤ k) : Crowd W w1 n (upd it i x) (relab lab w x.FP (i + 1)) := by
  have hlt : ∀ j, j < n → ∀ k, (it j).FP k → k < w.heap.size := fun j hj k hk => One.lt (h.one j hj) hk
  refine ⟨fun j hj => ?_, fun j hj k hk => ?_, fun k hk => ?_, h.ch.trans hc fun q hq hs => ?_⟩
  · by_cases e : j = i
    · subst e; rw [upd_self]; exact ho
    · rw [upd_other _ _ _ _ e]
      refine One.kept (h.one j hj) hc fun k hk hs => ?_
      have h1 := h.lb j hj k hk
      rcases hs with hs | hs
      · have := h.lb i hi k hs; omega
      · have := hs.1; omega
  · by_cases e : j = i
    · subst e; rw [upd_self] at hk
      rcases hf k hk with h1 | h1
      · rw [relab_old (hlt j hj k h1)]; exact h.lb j hj k h1
      · exact relab_new h1 hk
    · rw [upd_other _ _ _ _ e] at hk
      rw [relab_old (hlt j hj k hk)]; exact h.lb j hj k hk
  · have := h.ch.size
    rw [relab_old (by omega)]; exact h.old k hk
  · rcases hs with hs | hs
    · have h1 := h.lb i hi q hs
      have := h.old q hq; omega
    · have := hs.2; omega
/-- One more. -/
theorem Crowd.add {W w w1 : World} {n : Nat} {it : Nat → It} {lab : Nat → Nat} (h : Crowd W w n it lab) (x : It) (ho : x.One w1)
    (hc : Chg (Free W lab) w w1) (hf : ∀ k, x.FP k → w.heap.size ≤ k) : Crowd W w1 (n + 1) (upd it n x) (relab lab w x.FP (n + 1)) := by
  have hlt : ∀ j, j < n → ∀ k, (it j).FP k → k < w.heap.size := fun j hj k hk => One.lt (h.one j hj) hk
  refine ⟨fun j hj => ?_, fun j hj k hk => ?_, fun k hk => ?_, h.ch.trans hc fun q hq hs => ?_⟩
  · by_cases e : j = n
    · subst e; rw [upd_self]; exact ho
    · rw [upd_other _ _ _ _ e]
      refine One.kept (h.one j (by omega)) hc fun k hk hs => ?_
      have h1 := h.lb j (by omega) k hk
      have := hs.1; omega
  · by_cases e : j = n
    · subst e; rw [upd_self] at hk
      exact relab_new (hf k hk) hk
    · rw [upd_other _ _ _ _ e] at hk
      rw [relab_old (hlt j (by omega) k hk)]; exact h.lb j (by omega) k hk
  · have := h.ch.size
    rw [relab_old (by omega)]; exact h.old k hk
  · have := hs.2; omega
/-- What is nobody's turns; new blocks get whatever label is none of theirs. -/
theorem Crowd.more {W w w1 : World} {n : Nat} {it : Nat → It} {lab : Nat → Nat} (h : Crowd W w n it lab) (P : Nat → Prop) (j : Nat)
    (hc : Chg (fun q => (∀ i, i < n → lab q ≠ i + 1) ∧ W.heap.size ≤ q) w w1) : Crowd W w1 n it (relab lab w P j) := by
  have hlt : ∀ j, j < n → ∀ k, (it j).FP k → k < w.heap.size := fun j hj k hk => One.lt (h.one j hj) hk
  refine ⟨fun j hj => One.kept (h.one j hj) hc fun k hk hs => hs.1 j hj (h.lb j hj k hk), fun j hj k hk => ?_, fun k hk => ?_, h.ch.trans hc fun q hq hs => ?_⟩
  · rw [relab_old (hlt j hj k hk)]; exact h.lb j hj k hk
  · have := h.ch.size
    rw [relab_old (by omega)]; exact h.old k hk
  · have := hs.2; omega
/-- The same, for whatever labels agree on what is there. -/
theorem Crowd.turn {W w w1 : World} {n : Nat} {it : Nat → It} {lab lab' : Nat → Nat} (h : Crowd W w n it lab) (hl : ∀ k, k < w.heap.size → lab' k = lab k)
    (hc : Chg (fun q => (∀ i, i < n → lab q ≠ i + 1) ∧ W.heap.size ≤ q) w w1) : Crowd W w1 n it lab' := by
  have hlt : ∀ j, j < n → ∀ k, (it j).FP k → k < w.heap.size := fun j hj k hk => One.lt (h.one j hj) hk
  refine ⟨fun j hj => One.kept (h.one j hj) hc fun k hk hs => hs.1 j hj (h.lb j hj k hk), fun j hj k hk => ?_, fun k hk => ?_, h.ch.trans hc fun q hq hs => ?_⟩
  · rw [hl k (hlt j hj k hk)]; exact h.lb j hj k hk
  · have := h.ch.size
    rw [hl k (by omega)]; exact h.old k hk
  · have := hs.2; omega
/-- A Reader, its bytes. -/
structure Rt where
  pb : Nat
  v : Value
  T : TypeId
/-- Readers that stand at the beginning. -/
def Rds (w : World) (m n : Nat) (rd : Nat → Rt) (it : Nat → It) (lab : Nat → Nat) : Prop :=
  ∀ i, m ≤ i → i < n → IsR w (rd i).pb (rd i).v (rd i).T met ⟨(it i).l, 0, 0⟩ ∧ lab (rd i).pb = 1000 + i ∧ ∀ z, rdb (rd i).v = some z → lab z = 2000 ∧ z < w.heap.size
theorem Rds.turn {S : Nat → Prop} {w w1 : World} {m m' n : Nat} {rd : Nat → Rt} {it : Nat → It} {lab lab' : Nat → Nat} (h : Rds w m n rd it lab) (hm : m ≤ m') (hl : ∀ k, k < w.heap.size → lab' k = lab k) (hc : Chg S w w1)
    (hS : ∀ z, S z → lab z ≠ 2000 ∧ ∀ i, m' ≤ i → lab z ≠ 1000 + i) : Rds w1 m' n rd it lab' := fun i h1 h2 => by
  obtain ⟨a, b, c⟩ := h i (by omega) h2
  refine ⟨a.kept hc (fun hs => (hS _ hs).2 i h1 b) (fun z hz hs => (hS _ hs).1 (c z hz).1), by rw [hl _ a.blk.lt]; exact b, fun z hz => ⟨by rw [hl _ (c z hz).2]; exact (c z hz).1, Nat.lt_of_lt_of_le (c z hz).2 hc.size⟩⟩
end Go.Proofs.Ytnfmeaifbankjaa
