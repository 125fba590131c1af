import Derived.Test.YtnfmeaifbankjaaDoorReads
import Derived.Test.YtnfmeaifbankjaaDoorOps
set_option linter.unusedVariables false
namespace Go.Sat
open Go
def upd2 {α : Type} (f : Nat → α) (i : Nat) (x : α) : Nat → α := fun j => if j = i then x else f j
theorem upd2_self {α : Type} (f : Nat → α) (i : Nat) (x : α) : upd2 f i x i = x := by simp [upd2]
theorem upd2_other {α : Type} (f : Nat → α) (i j : Nat) (x : α) (h : j ≠ i) : upd2 f i x j = f j := by simp [upd2, h]
end Go.Sat
namespace Go.Proofs.YtnfmeaifbankjaaDoor
open Go Go.RowKit Go.Sat

/-- A Reader and an Eye: where they are. -/
structure Pt where
  pb : Nat
  v : Value
  T : TypeId
  eb : Nat
  ev : Value
  ET : TypeId
def Pt.Pair (p : Pt) (w : World) (s : RS) : Prop := Go.Proofs.YtnfmeaifbankjaaDoor.Pair w p.pb p.v p.T p.eb p.ev p.ET s
/-- n pairs, apart by their blocks' labels. -/
structure Pairs (W w : World) (n : Nat) (P : Nat → Pt) (s : Nat → RS) (lab : Nat → Nat) : Prop where
  pr : ∀ i, i < n → (P i).Pair w (s i)
  lp : ∀ i, i < n → lab (P i).pb = i + 1 ∧ lab (P i).eb = i + 1
  lr : ∀ i, i < n → (∀ k, rdb (P i).v = some k → lab k = 100) ∧ ∀ k, rdb (P i).ev = some k → lab k = 100
  old : ∀ k, k < W.heap.size → lab k = 0
  ch : Chg (fun _ => False) W w
  few : n ≤ 50
  tab : Errnos W
theorem Pairs.pos {W w : World} {n : Nat} {P : Nat → Pt} {s : Nat → RS} {lab : Nat → Nat} (h : Pairs W w n P s lab) : 0 < W.heap.size := by
  have := World.block_lt_of_cell? W _ (h.tab 0 (by omega))
  exact this
theorem Pairs.rdlt {W w : World} {n : Nat} {P : Nat → Pt} {s : Nat → RS} {lab : Nat → Nat} (h : Pairs W w n P s lab) {i : Nat} (hi : i < n) :
    (∀ k, rdb (P i).v = some k → k < w.heap.size) ∧ ∀ k, rdb (P i).ev = some k → k < w.heap.size :=
  ⟨fun k hk => Rd.lt (h.pr i hi).r.rd hk, fun k hk => Rd.lt (h.pr i hi).e.rd hk⟩
/-- What is nobody's turns. -/
theorem Pairs.turn {W w w1 : World} {n : Nat} {P : Nat → Pt} {s : Nat → RS} {lab lab' : Nat → Nat} (h : Pairs W w n P s lab) (hl : ∀ k, k < w.heap.size → lab' k = lab k) (hc : Chg (fun z => lab z = 0 ∧ W.heap.size ≤ z) w w1) : Pairs W w1 n P s lab' := by
  have hpos := h.pos
  refine ⟨fun i hi => (h.pr i hi).kept hc fun k hk hz => ?_, fun i hi => ?_, fun i hi => ?_, fun k hk => ?_, h.ch.trans hc fun q hq hs => by have := hs.2; omega, h.few, h.tab⟩
  · rcases hk with rfl | rfl | rfl | hk | hk
    · have := (h.lp i hi).1; have := hz.1; omega
    · have := (h.lp i hi).2; have := hz.1; omega
    · have := hz.2; omega
    · have := (h.lr i hi).1 k hk; have := hz.1; omega
    · have := (h.lr i hi).2 k hk; have := hz.1; omega
  · rw [hl _ (h.pr i hi).r.blk.lt, hl _ (h.pr i hi).e.blk.lt]; exact h.lp i hi
  · exact ⟨fun k hk => by rw [hl k ((h.rdlt hi).1 k hk)]; exact (h.lr i hi).1 k hk, fun k hk => by rw [hl k ((h.rdlt hi).2 k hk)]; exact (h.lr i hi).2 k hk⟩
  · have := h.ch.size
    rw [hl k (by omega)]; exact h.old k hk
/-- One of them makes a step. -/
theorem Pairs.step {W w w1 : World} {n : Nat} {P : Nat → Pt} {s : Nat → RS} {lab : Nat → Nat} (h : Pairs W w n P s lab) {i : Nat} (hi : i < n) {s' : RS} (hp : (P i).Pair w1 s') (hc : Chg (fun z => z = (P i).pb ∨ z = (P i).eb) w w1) : Pairs W w1 n P (upd2 s i s') lab := by
  have hpos := h.pos
  have hl : ∀ z, (z = (P i).pb ∨ z = (P i).eb) → lab z = i + 1 := fun z hz => by
    rcases hz with rfl | rfl
    · exact (h.lp i hi).1
    · exact (h.lp i hi).2
  refine ⟨fun j hj => ?_, h.lp, h.lr, h.old, h.ch.trans hc fun q hq hs => by have := hl q hs; have := h.old q hq; omega, h.few, h.tab⟩
  by_cases e : j = i
  · subst e; rw [upd2_self]; exact hp
  · rw [upd2_other _ _ _ _ e]
    have hfew := h.few
    refine (h.pr j hj).kept hc fun k hk hz => ?_
    have h1 := hl k hz
    rcases hk with rfl | rfl | rfl | hk | hk
    · have := (h.lp j hj).1; omega
    · have := (h.lp j hj).2; omega
    · have := h.old 0 hpos; omega
    · have := (h.lr j hj).1 k hk; omega
    · have := (h.lr j hj).2 k hk; omega
/-- One more. -/
theorem Pairs.add {W w w1 : World} {n : Nat} {P : Nat → Pt} {s : Nat → RS} {lab : Nat → Nat} (h : Pairs W w n P s lab) (hn : n + 1 ≤ 50) (p : Pt) (s' : RS) (hp : p.Pair w1 s') (hc : Chg (fun z => lab z = 0 ∧ W.heap.size ≤ z) w w1)
    (h1 : w.heap.size ≤ p.pb) (h2 : w.heap.size ≤ p.eb) (h3 : ∀ k, rdb p.v = some k → w.heap.size ≤ k) (h4 : ∀ k, rdb p.ev = some k → w.heap.size ≤ k) :
    Pairs W w1 (n + 1) (upd2 P n p) (upd2 s n s') (fun z => if z < w.heap.size then lab z else if z = p.pb ∨ z = p.eb then n + 1 else if rdb p.v = some z ∨ rdb p.ev = some z then 100 else 0) := by
  have ht := h.turn (lab' := fun z => if z < w.heap.size then lab z else if z = p.pb ∨ z = p.eb then n + 1 else if rdb p.v = some z ∨ rdb p.ev = some z then 100 else 0) (fun k hk => by simp [hk]) hc
  refine ⟨fun j hj => ?_, fun j hj => ?_, fun j hj => ?_, ht.old, ht.ch, hn, h.tab⟩
  · by_cases e : j = n
    · subst e; rw [upd2_self, upd2_self]; exact hp
    · rw [upd2_other _ _ _ _ e, upd2_other _ _ _ _ e]; exact ht.pr j (by omega)
  · by_cases e : j = n
    · subst e; rw [upd2_self]
      have a1 : ¬ p.pb < w.heap.size := by omega
      have a2 : ¬ p.eb < w.heap.size := by omega
      exact ⟨by simp [a1], by simp [a2]⟩
    · rw [upd2_other _ _ _ _ e]; exact ht.lp j (by omega)
  · by_cases e : j = n
    · subst e; rw [upd2_self]
      refine ⟨fun k hk => ?_, fun k hk => ?_⟩
      · have a1 : ¬ k < w.heap.size := by have := h3 k hk; omega
        have a2 : k ≠ p.pb := hp.r.ne k hk
        have a3 : k ≠ p.eb := hp.rv k hk
        simp [a1, a2, a3, hk]
      · have a1 : ¬ k < w.heap.size := by have := h4 k hk; omega
        have a2 : k ≠ p.eb := hp.e.ne k hk
        have a3 : k ≠ p.pb := hp.ee k hk
        simp [a1, a2, a3, hk]
    · rw [upd2_other _ _ _ _ e]; exact ht.lr j (by omega)
/-- A new Eye. -/
theorem newEye {w w1 : World} {l : List UInt8} {v : Value} (hv : Own w 5 1 v l.length (bcells l)) (hl : l.length ≤ 1000000000) :
    IsR (w.alloc (.cells #[v, .int .i64 0, .int .i64 0] 34)) w.heap.size v 34 errO ⟨l, 0, 0⟩ :=
  ⟨Blk.new _ _ _, hv.rd.kept ((Chg.refl (fun _ => False) w).alloc _) (fun _ _ => id), fun k hk => by have := Rd.lt hv.rd hk; omega, ⟨Nat.zero_le _, Nat.zero_le _⟩, hl⟩
end Go.Proofs.YtnfmeaifbankjaaDoor
