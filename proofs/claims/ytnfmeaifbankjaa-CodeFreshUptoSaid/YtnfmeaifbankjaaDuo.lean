import Derived.Test.YtnfmeaifbankjaaWrites
import Derived.Test.YtnfmeaifbankjaaOps
set_option linter.unusedVariables false
namespace Go.Proofs.Ytnfmeaifbankjaa
open Go Go.RowKit Go.Sat

theorem opB_len (k n : Int) (b : List UInt8) (hn : 0 ≤ n ∧ n ≤ 18446744073709551615) (hb : b.length ≤ 1000000000) : (opB k n b).length ≤ b.length + 10 := by
  have h1 := varB_len n.toNat (by omega)
  have h2 := varB_len b.length (by omega)
  unfold opB
  repeat' split
  all_goals simp
  all_goals omega

/-- The blocks of a Writer, and of the list beside it. -/
def FP (pb : Nat) (v hv : Value) (k : Nat) : Prop := k = pb ∨ v.ownBlock = some k ∨ hv.ownBlock = some k
/-- A Writer and a list of the call's own that hold the same, apart. -/
structure One (w : World) (pb : Nat) (v : Value) (T : TypeId) (hv : Value) (l : List UInt8) : Prop where
  wr : IsW w pb v T l
  held : Own w 5 1 hv l.length (bcells l)
  hp : hv.ownBlock ≠ some pb
  hvv : ∀ k, hv.ownBlock = some k → v.ownBlock ≠ some k
theorem One.lt {w : World} {pb : Nat} {v : Value} {T : TypeId} {hv : Value} {l : List UInt8} (h : One w pb v T hv l) {k : Nat} (hk : FP pb v hv k) : k < w.heap.size := by
  rcases hk with rfl | hk | hk
  · exact lt_of_block h.wr.blk
  · exact h.wr.own.lt k hk
  · exact h.held.lt k hk
theorem One.kept {S : Nat → Prop} {w w' : World} {pb : Nat} {v : Value} {T : TypeId} {hv : Value} {l : List UInt8} (h : One w pb v T hv l) (hc : Chg S w w') (hn : ∀ k, FP pb v hv k → ¬ S k) : One w' pb v T hv l :=
  ⟨h.wr.kept hc (hn _ (.inl rfl)) (fun k hk => hn k (.inr (.inl hk))), h.held.kept hc (fun k hk => hn k (.inr (.inr hk))), h.hp, h.hvv⟩
theorem One.pre {w : World} {pb : Nat} {v : Value} {T : TypeId} {hv x : Value} {l b : List UInt8} (h : One w pb v T hv l) (hx : Rd w x b) (ha : ∀ k, rdb x = some k → ¬ FP pb v hv k) : WPre w pb v T hv x l b :=
  ⟨h.wr, h.held, hx, h.hp, h.hvv, fun k hk => ⟨fun e => ha k hk (.inl e), fun e => ha k hk (.inr (.inl e)), fun e => ha k hk (.inr (.inr e))⟩⟩
/-- A step, said over all. -/
theorem One.post {w w' : World} {pb : Nat} {v : Value} {T : TypeId} {hv : Value} {l l2 : List UInt8} {e : Ending} (h : WPost w pb v T hv l l2 e w') :
    ∃ v' hv', e = .returned (.tuple #[hv', .bool true]) ∧ One w' pb v' T hv' (l ++ l2) ∧ Chg (FP pb v hv) w w' ∧ ∀ k, FP pb v' hv' k → FP pb v hv k ∨ w.heap.size ≤ k := by
  obtain ⟨v', hv', he, h1, h2, h3, h4, h5, h6, h7⟩ := h
  refine ⟨v', hv', he, ⟨h1, h2, h6, h7⟩, h3, fun k hk => ?_⟩
  rcases hk with rfl | hk | hk
  · exact .inl (.inl rfl)
  · exact (h4 k hk).imp (fun h => .inr (.inl h)) id
  · exact (h5 k hk).imp (fun h => .inr (.inr h)) id

/-- Two of them, apart; what stood in W is none of theirs, nor are the blocks of F. -/
structure Duo (W w : World) (F : Nat → Prop) (T0 T1 : TypeId) (p0 p1 : Nat) (v0 v1 h0 h1 : Value) (l0 l1 : List UInt8) : Prop where
  a : One w p0 v0 T0 h0 l0
  b : One w p1 v1 T1 h1 l1
  ap : ∀ k, FP p0 v0 h0 k → ¬ FP p1 v1 h1 k
  na : ∀ k, FP p0 v0 h0 k → W.heap.size ≤ k ∧ ¬ F k
  nb : ∀ k, FP p1 v1 h1 k → W.heap.size ≤ k ∧ ¬ F k
  ch : Chg (fun _ => False) W w
  fl : ∀ k, F k → W.heap.size ≤ k ∧ k < w.heap.size
theorem Duo.swap {W w : World} {F : Nat → Prop} {T0 T1 : TypeId} {p0 p1 : Nat} {v0 v1 h0 h1 : Value} {l0 l1 : List UInt8} (h : Duo W w F T0 T1 p0 p1 v0 v1 h0 h1 l0 l1) : Duo W w F T1 T0 p1 p0 v1 v0 h1 h0 l1 l0 :=
  ⟨h.b, h.a, fun k h1 h2 => h.ap k h2 h1, h.nb, h.na, h.ch, h.fl⟩
/-- The first makes a step. -/
theorem Duo.step {W w w1 : World} {F : Nat → Prop} {T0 T1 : TypeId} {p0 p1 : Nat} {v0 v1 h0 h1 v' hv' : Value} {l0 l1 l2 : List UInt8} (h : Duo W w F T0 T1 p0 p1 v0 v1 h0 h1 l0 l1) (ho : One w1 p0 v' T0 hv' (l0 ++ l2))
    (hc : Chg (FP p0 v0 h0) w w1) (hf : ∀ k, FP p0 v' hv' k → FP p0 v0 h0 k ∨ w.heap.size ≤ k) : Duo W w1 F T0 T1 p0 p1 v' v1 hv' h1 (l0 ++ l2) l1 := by
  refine ⟨ho, h.b.kept hc (fun k hk h0 => h.ap k h0 hk), fun k hk hk1 => ?_, fun k hk => ?_, h.nb, h.ch.trans hc fun k hk hq => ?_, fun k hk => ⟨(h.fl k hk).1, Nat.lt_of_lt_of_le (h.fl k hk).2 hc.size⟩⟩
  · rcases hf k hk with h2 | h2
    · exact h.ap k h2 hk1
    · have := h.b.lt hk1; omega
  · rcases hf k hk with h2 | h2
    · exact h.na k h2
    · exact ⟨Nat.le_trans h.ch.size h2, fun hF => by have := (h.fl k hF).2; omega⟩
  · have := (h.na k hq).1; omega
/-- A block of F is written. -/
theorem Duo.write {W w : World} {F : Nat → Prop} {T0 T1 : TypeId} {p0 p1 : Nat} {v0 v1 h0 h1 : Value} {l0 l1 : List UInt8} (h : Duo W w F T0 T1 p0 p1 v0 v1 h0 h1 l0 l1) {a : Addr} (ha : F a.block) (u : Value) : Duo W (w.setCell a u) F T0 T1 p0 p1 v0 v1 h0 h1 l0 l1 := by
  have hc := setCell_chg w a u
  exact ⟨h.a.kept hc (fun k hk e => (h.na k hk).2 (e ▸ ha)), h.b.kept hc (fun k hk e => (h.nb k hk).2 (e ▸ ha)), h.ap, h.na, h.nb, h.ch.setCell (.inl (h.fl _ ha).1) u, fun k hk => ⟨(h.fl k hk).1, by simpa using (h.fl k hk).2⟩⟩
/-- New blocks, draws. -/
theorem Duo.more {W w w1 : World} {F : Nat → Prop} {T0 T1 : TypeId} {p0 p1 : Nat} {v0 v1 h0 h1 : Value} {l0 l1 : List UInt8} (h : Duo W w F T0 T1 p0 p1 v0 v1 h0 h1 l0 l1) (hc : Chg (fun _ => False) w w1) : Duo W w1 F T0 T1 p0 p1 v0 v1 h0 h1 l0 l1 :=
  ⟨h.a.kept hc (fun _ _ => id), h.b.kept hc (fun _ _ => id), h.ap, h.na, h.nb, h.ch.trans hc fun _ _ h => h, fun k hk => ⟨(h.fl k hk).1, Nat.lt_of_lt_of_le (h.fl k hk).2 hc.size⟩⟩
end Go.Proofs.Ytnfmeaifbankjaa
