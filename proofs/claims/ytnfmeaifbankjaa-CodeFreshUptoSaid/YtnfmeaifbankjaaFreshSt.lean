import Derived.Test.YtnfmeaifbankjaaFresh
import Derived.Test.YtnfmeaifbankjaaDuo
import Derived.Test.YtnfmeaifbankjaaEye4
import Derived.Great.BuildSlice
import Derived.Deep.DeepCutAuto
set_option linter.unusedVariables false
namespace Go.Proofs.Ytnfmeaifbankjaa
open Go Go.RowKit Go.Sat
theorem RS.raw_l (s : RS) (n : Int) : (s.raw n).2.l = s.l := by
  unfold RS.raw
  split
  · rfl
  · exact RS.next_l s n
theorem RS.var_l (s : RS) (most : Nat) : (s.var most).2.l = s.l := by
  unfold RS.var
  split
  · rfl
  · cases vr s.look most <;> rfl
theorem RS.text_l (s : RS) (most : Int) : (s.text most).2.l = s.l := by
  unfold RS.text
  simp only
  split
  · rfl
  · rw [RS.next_l, RS.var_l]
theorem RS.text_len (s : RS) (most : Int) : (s.text most).1.length ≤ s.l.length := by
  unfold RS.text
  simp only
  split
  · simp
  · have := RS.next_len (s.var (max 0 most).toNat).2 (s.var (max 0 most).toNat).1
    rw [RS.var_l] at this
    exact this
theorem RS.raw_len (s : RS) (n : Int) : (s.raw n).1.length ≤ s.l.length := by
  unfold RS.raw
  split
  · simp
  · exact RS.next_len s n
theorem wpl_box {P : Program} {ops : Array Oper} {rest : List Oper} {o : Oper} {a : Act} {Q : Exit → Act → World → Prop} {w : World} (hgd : o.guard = none) (ty : TypeId) (x : Operand)
    (ho : o.op = .box ty x) {cs : Array Value} (hx : a.eval x = .agg cs)
    (h : ∀ w', Blk w' w.heap.size ty cs → Chg (fun _ => False) w w' → w'.heap.size = w.heap.size + 1 → wpList P ops Q rest (a.put o.dst (.pointer (some ⟨w.heap.size, 0, none⟩))) w') : wpList P ops Q (o :: rest) a w := by
  refine wpList_plain hgd fun K hK => ?_
  unfold Oper.wp execOp
  have := hK _ _ (h _ (Blk.new w ty cs) ((Chg.refl _ w).alloc _) (by simp))
  simpa [ho, hx, Value.cells, Instr.box, Sem.run_bind, newVar, newRow, Oper.upon] using this
set_option maxRecDepth 100000 in
theorem bookZ : Try.prog.built 70 [] = some (bookC (.slice none 0 0) (.slice none 0 0) 0 0 0 0) := by kernel_rfl
theorem lateZ : Try.prog.built 73 [] = some (lateC (.slice none 0 0) (.slice none 0 0)) := by kernel_rfl
/-- What CodeFresh holds while it walks: the Book and the Late, the Writer and what is held, the Reader, the Eye, the argument's box. Each block has a label: 0 the argument's, 1 the box, 2 the Writer's, 3 the Reader's, 4 the Eye, 5 the Book's and the Late's. -/
structure St (W w : World) (box : Array Value) (bk lk pw pb eb : Nat) (T RT ET : TypeId) (rv ev v hv : Value) (l : List UInt8) (s s2 : RS) (O P : Nat → Prop) (K : Nat) (lab : Nat → Nat) : Prop where
  F : FrI W.heap.size w bk lk 70 73 O P K
  A : One w pw v T hv l
  R : IsR w pb rv RT met s
  E : IsR w eb ev ET errO s2
  B : Blk w W.heap.size 26 box
  ch : Chg (fun _ => False) W w
  old : ∀ k, k < W.heap.size → lab k = 0
  lO : ∀ k, O k → lab k = 5
  lP : ∀ k, P k → lab k = 5
  lA : ∀ k, FP pw v hv k → lab k = 2
  lR : ∀ k, k = pb ∨ rdb rv = some k → lab k = 3
  lE : lab eb = 4
  evl : ∀ k, rdb ev = some k → k < W.heap.size
  lB : lab W.heap.size = 1
section
variable {W w w' : World} {box : Array Value} {bk lk pw pb eb : Nat} {T RT ET : TypeId} {rv ev v hv : Value} {l : List UInt8} {s s2 : RS} {O P : Nat → Prop} {K : Nat} {lab : Nat → Nat}
theorem St.ge (h : St W w box bk lk pw pb eb T RT ET rv ev v hv l s s2 O P K lab) {k : Nat} (hk : lab k ≠ 0) : W.heap.size ≤ k := by
  rcases Nat.lt_or_ge k W.heap.size with e | e
  · exact absurd (h.old k e) hk
  · exact e
/-- Nothing of it is written: whatever a label other than these bears. -/
theorem St.chg {S : Nat → Prop} (h : St W w box bk lk pw pb eb T RT ET rv ev v hv l s s2 O P K lab) (c : Chg S w w') (hS : ∀ k, S k → 6 ≤ lab k) (lab' : Nat → Nat) (hl : ∀ k, k < w.heap.size → lab' k = lab k) :
    St W w' box bk lk pw pb eb T RT ET rv ev v hv l s s2 O P K lab' := by
  have hn : ∀ {k n}, lab k = n → n < 6 → ¬ S k := fun h1 h2 h3 => by have := hS _ h3; omega
  refine ⟨h.F.calm c fun b hb => ⟨fun e => hn (h.lO b e) (by omega) hb, fun e => hn (h.lP b e) (by omega) hb⟩, h.A.kept c fun k hk => hn (h.lA k hk) (by omega), h.R.kept c (hn (h.lR pb (.inl rfl)) (by omega)) fun k hk => hn (h.lR k (.inr hk)) (by omega),
    h.E.kept c (hn h.lE (by omega)) fun k hk => hn (h.old k (h.evl k hk)) (by omega), h.B.kept c (hn h.lB (by omega)), h.ch.trans c fun k hk e => hn (h.old k hk) (by omega) e, ?_, ?_, ?_, ?_, ?_, ?_, h.evl, ?_⟩
  · intro k hk
    rw [hl k (by have := h.ch.size; omega)]; exact h.old k hk
  · intro k hk
    rw [hl k (h.F.ob k hk).2]; exact h.lO k hk
  · intro k hk
    rw [hl k (h.F.pb k hk).2]; exact h.lP k hk
  · intro k hk
    rw [hl k (h.A.lt hk)]; exact h.lA k hk
  · intro k hk
    have : k < w.heap.size := by
      rcases hk with e | e
      · rw [e]; exact h.R.blk.lt
      · exact Rd.lt h.R.rd e
    rw [hl k this]; exact h.lR k hk
  · rw [hl eb h.E.blk.lt]; exact h.lE
  · rw [hl _ h.B.lt]; exact h.lB
theorem St.calm (h : St W w box bk lk pw pb eb T RT ET rv ev v hv l s s2 O P K lab) (c : Chg (fun _ => False) w w') : St W w' box bk lk pw pb eb T RT ET rv ev v hv l s s2 O P K lab := h.chg c (fun _ e => e.elim) lab fun _ _ => rfl
theorem St.more {K' : Nat} (h : St W w box bk lk pw pb eb T RT ET rv ev v hv l s s2 O P K lab) (hK : K ≤ K') : St W w box bk lk pw pb eb T RT ET rv ev v hv l s s2 O P K' lab :=
  ⟨h.F.more hK, h.A, h.R, h.E, h.B, h.ch, h.old, h.lO, h.lP, h.lA, h.lR, h.lE, h.evl, h.lB⟩
/-- A call that makes memory: it bears the label n. -/
theorem St.fresh (h : St W w box bk lk pw pb eb T RT ET rv ev v hv l s s2 O P K lab) (c : Chg (fun _ => False) w w') (n : Nat) :
    ∃ lab', St W w' box bk lk pw pb eb T RT ET rv ev v hv l s s2 O P K lab' ∧ (∀ k, k < w.heap.size → lab' k = lab k) ∧ ∀ k, w.heap.size ≤ k → lab' k = n :=
  ⟨fun k => if k < w.heap.size then lab k else n, h.chg c (fun _ e => e.elim) _ fun k hk => if_pos hk, fun k hk => if_pos hk, fun k hk => if_neg (by omega)⟩
/-- A step of the Writer and of what is held. -/
theorem St.wrote {v' hv' : Value} {l' : List UInt8} (h : St W w box bk lk pw pb eb T RT ET rv ev v hv l s s2 O P K lab) (A' : One w' pw v' T hv' l') (c : Chg (FP pw v hv) w w') (hf : ∀ k, FP pw v' hv' k → FP pw v hv k ∨ w.heap.size ≤ k) :
    ∃ lab', St W w' box bk lk pw pb eb T RT ET rv ev v' hv' l' s s2 O P K lab' ∧ ∀ k, k < w.heap.size → lab' k = lab k := by
  have hn : ∀ {k n}, lab k = n → n ≠ 2 → ¬ FP pw v hv k := fun h1 h2 h3 => by have := h.lA _ h3; omega
  have hg : ∀ {k n}, lab k = n → n ≠ 0 → W.heap.size ≤ k := fun h1 h2 => h.ge (by omega)
  refine ⟨fun k => if k < w.heap.size then lab k else 2, ⟨h.F.calm c fun b hb => ⟨fun e => hn (h.lO b e) (by omega) hb, fun e => hn (h.lP b e) (by omega) hb⟩, A', h.R.kept c (hn (h.lR pb (.inl rfl)) (by omega)) fun k hk => hn (h.lR k (.inr hk)) (by omega),
    h.E.kept c (hn h.lE (by omega)) fun k hk => hn (h.old k (h.evl k hk)) (by omega), h.B.kept c (hn h.lB (by omega)), h.ch.trans c fun k hk e => hn (h.old k hk) (by omega) e, ?_, ?_, ?_, ?_, ?_, ?_, h.evl, ?_⟩, fun k hk => if_pos hk⟩
  · intro k hk
    have := h.ch.size
    simp only [if_pos (show k < w.heap.size by omega)]; exact h.old k hk
  · intro k hk
    simp only [if_pos (h.F.ob k hk).2]; exact h.lO k hk
  · intro k hk
    simp only [if_pos (h.F.pb k hk).2]; exact h.lP k hk
  · intro k hk
    rcases hf k hk with e | e
    · simp only [if_pos (h.A.lt e)]; exact h.lA k e
    · simp only [if_neg (show ¬ k < w.heap.size by omega)]
  · intro k hk
    have : k < w.heap.size := by
      rcases hk with e | e
      · rw [e]; exact h.R.blk.lt
      · exact Rd.lt h.R.rd e
    simp only [if_pos this]; exact h.lR k hk
  · simp only [if_pos h.E.blk.lt]; exact h.lE
  · simp only [if_pos h.B.lt]; exact h.lB
/-- A step of the Reader. -/
theorem St.read {s' : RS} (h : St W w box bk lk pw pb eb T RT ET rv ev v hv l s s2 O P K lab) (R' : IsR w' pb rv RT met s') (c : Chg (fun k => k = pb) w w') (n : Nat) :
    ∃ lab', St W w' box bk lk pw pb eb T RT ET rv ev v hv l s' s2 O P K lab' ∧ (∀ k, k < w.heap.size → lab' k = lab k) ∧ ∀ k, w.heap.size ≤ k → lab' k = n := by
  have hn : ∀ {k n}, lab k = n → n ≠ 3 → ¬ k = pb := fun h1 h2 h3 => by have := h.lR _ (.inl h3); omega
  refine ⟨fun k => if k < w.heap.size then lab k else n, ⟨h.F.calm c fun b hb => ⟨fun e => hn (h.lO b e) (by omega) hb, fun e => hn (h.lP b e) (by omega) hb⟩, h.A.kept c fun k hk => hn (h.lA k hk) (by omega), R',
    h.E.kept c (hn h.lE (by omega)) fun k hk => hn (h.old k (h.evl k hk)) (by omega), h.B.kept c (hn h.lB (by omega)), h.ch.trans c fun k hk e => hn (h.old k hk) (by omega) e, ?_, ?_, ?_, ?_, ?_, ?_, h.evl, ?_⟩, fun k hk => if_pos hk, fun k hk => if_neg (by omega)⟩
  · intro k hk
    have := h.ch.size
    simp only [if_pos (show k < w.heap.size by omega)]; exact h.old k hk
  · intro k hk
    simp only [if_pos (h.F.ob k hk).2]; exact h.lO k hk
  · intro k hk
    simp only [if_pos (h.F.pb k hk).2]; exact h.lP k hk
  · intro k hk
    simp only [if_pos (h.A.lt hk)]; exact h.lA k hk
  · intro k hk
    have : k < w.heap.size := by
      rcases hk with e | e
      · rw [e]; exact h.R.blk.lt
      · exact Rd.lt h.R.rd e
    simp only [if_pos this]; exact h.lR k hk
  · simp only [if_pos h.E.blk.lt]; exact h.lE
  · simp only [if_pos h.B.lt]; exact h.lB
/-- A step of the Eye. -/
theorem St.eye {s' : RS} (h : St W w box bk lk pw pb eb T RT ET rv ev v hv l s s2 O P K lab) (E' : IsR w' eb ev ET errO s') (c : Chg (fun k => k = eb) w w') (n : Nat) :
    ∃ lab', St W w' box bk lk pw pb eb T RT ET rv ev v hv l s s' O P K lab' ∧ (∀ k, k < w.heap.size → lab' k = lab k) ∧ ∀ k, w.heap.size ≤ k → lab' k = n := by
  have hn : ∀ {k n}, lab k = n → n ≠ 4 → ¬ k = eb := fun h1 h2 h3 => by subst h3; have := h.lE; omega
  refine ⟨fun k => if k < w.heap.size then lab k else n, ⟨h.F.calm c fun b hb => ⟨fun e => hn (h.lO b e) (by omega) hb, fun e => hn (h.lP b e) (by omega) hb⟩, h.A.kept c fun k hk => hn (h.lA k hk) (by omega), h.R.kept c (hn (h.lR pb (.inl rfl)) (by omega)) fun k hk => hn (h.lR k (.inr hk)) (by omega),
    E', h.B.kept c (hn h.lB (by omega)), h.ch.trans c fun k hk e => hn (h.old k hk) (by omega) e, ?_, ?_, ?_, ?_, ?_, ?_, h.evl, ?_⟩, fun k hk => if_pos hk, fun k hk => if_neg (by omega)⟩
  · intro k hk
    have := h.ch.size
    simp only [if_pos (show k < w.heap.size by omega)]; exact h.old k hk
  · intro k hk
    simp only [if_pos (h.F.ob k hk).2]; exact h.lO k hk
  · intro k hk
    simp only [if_pos (h.F.pb k hk).2]; exact h.lP k hk
  · intro k hk
    simp only [if_pos (h.A.lt hk)]; exact h.lA k hk
  · intro k hk
    have : k < w.heap.size := by
      rcases hk with e | e
      · rw [e]; exact h.R.blk.lt
      · exact Rd.lt h.R.rd e
    simp only [if_pos this]; exact h.lR k hk
  · simp only [if_pos h.E.blk.lt]; exact h.lE
  · simp only [if_pos h.B.lt]; exact h.lB
/-- A step of the Book and the Late: they may take the blocks of d. -/
theorem St.book {O' P' : Nat → Prop} {K' : Nat} (d : Option Nat) (h : St W w box bk lk pw pb eb T RT ET rv ev v hv l s s2 O P K lab) (F' : FrI W.heap.size w' bk lk 70 73 O' P' K') (c : Chg (fun b => O b ∨ P b) w w')
    (hd : ∀ k, d = some k → 6 ≤ lab k) (hO' : ∀ b, O' b → O b ∨ P b ∨ d = some b ∨ w.heap.size ≤ b) (hP' : ∀ b, P' b → O b ∨ P b ∨ d = some b ∨ w.heap.size ≤ b) :
    ∃ lab', St W w' box bk lk pw pb eb T RT ET rv ev v hv l s s2 O' P' K' lab' ∧ ∀ k, k < w.heap.size → d ≠ some k → lab' k = lab k := by
  have hn : ∀ {k n}, lab k = n → n ≠ 5 → ¬ (O k ∨ P k) := fun h1 h2 h3 => by
    rcases h3 with e | e
    · have := h.lO _ e; omega
    · have := h.lP _ e; omega
  have hx : ∀ k, lab k < 6 → k < w.heap.size → (if d = some k ∨ w.heap.size ≤ k then 5 else lab k) = lab k := fun k h1 h2 => if_neg fun e => by
    rcases e with e | e
    · have := hd k e; omega
    · omega
  have h5 : ∀ k, O k ∨ P k ∨ d = some k ∨ w.heap.size ≤ k → (if d = some k ∨ w.heap.size ≤ k then 5 else lab k) = 5 := fun k hk => by
    split
    · rfl
    · rename_i hne
      rcases hk with e | e | e | e
      · exact h.lO k e
      · exact h.lP k e
      · exact absurd (.inl e) hne
      · exact absurd (.inr e) hne
  refine ⟨fun k => if d = some k ∨ w.heap.size ≤ k then 5 else lab k, ⟨F', h.A.kept c fun k hk => hn (h.lA k hk) (by omega), h.R.kept c (hn (h.lR pb (.inl rfl)) (by omega)) fun k hk => hn (h.lR k (.inr hk)) (by omega),
    h.E.kept c (hn h.lE (by omega)) fun k hk => hn (h.old k (h.evl k hk)) (by omega), h.B.kept c (hn h.lB (by omega)), h.ch.trans c fun k hk e => hn (h.old k hk) (by omega) e, ?_, fun k hk => h5 k (hO' k hk), fun k hk => h5 k (hP' k hk), ?_, ?_, ?_, h.evl, ?_⟩, fun k hk hk2 => if_neg fun e => ?_⟩
  · intro k hk
    have h0 := h.old k hk
    have := h.ch.size
    exact (hx k (by omega) (by omega)).trans h0
  · intro k hk
    have h0 := h.lA k hk
    exact (hx k (by omega) (h.A.lt hk)).trans h0
  · intro k hk
    have : k < w.heap.size := by
      rcases hk with e | e
      · rw [e]; exact h.R.blk.lt
      · exact Rd.lt h.R.rd e
    have h0 := h.lR k hk
    exact (hx k (by omega) this).trans h0
  · have h0 := h.lE
    exact (hx eb (by omega) h.E.blk.lt).trans h0
  · have h0 := h.lB
    exact (hx _ (by omega) h.B.lt).trans h0
  · rcases e with e | e
    · exact hk2 e
    · omega
end
end Go.Proofs.Ytnfmeaifbankjaa
