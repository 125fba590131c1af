import Derived.Test.YtnfmeaifbankjaaRefs
set_option linter.unusedVariables false
namespace Go.Proofs.Ytnfmeaifbankjaa
open Go Go.RowKit Go.Sat

/-- The bytes that a step lays. -/
def opB (k n : Int) (b : List UInt8) : List UInt8 :=
  if k = 1 then be (n % 256) 1 1 else if k = 2 then be (n % 4294967296) 4 4 else if k = 3 then be n 8 8 else if k = 4 then varB n.toNat else if k = 5 then varB b.length ++ b else if k = 6 then b else []

/-- What stands ahead of a step: a Writer and a list of the call's own that hold the same, the step's bytes; all apart. -/
structure WPre (w : World) (pb : Nat) (v : Value) (T : TypeId) (hv : Value) (x : Value) (l b : List UInt8) : Prop where
  wr : IsW w pb v T l
  held : Own w 5 1 hv l.length (bcells l)
  rd : Rd w x b
  hp : hv.ownBlock ≠ some pb
  hvv : ∀ k, hv.ownBlock = some k → v.ownBlock ≠ some k
  xp : ∀ k, rdb x = some k → k ≠ pb ∧ v.ownBlock ≠ some k ∧ hv.ownBlock ≠ some k
/-- What stands behind it. -/
def WPost (w : World) (pb : Nat) (v : Value) (T : TypeId) (hv : Value) (l l2 : List UInt8) (e : Ending) (w' : World) : Prop :=
  ∃ v' hv', e = .returned (.tuple #[hv', .bool true]) ∧ IsW w' pb v' T (l ++ l2) ∧ Own w' 5 1 hv' (l ++ l2).length (bcells (l ++ l2)) ∧
    Chg (fun k => k = pb ∨ v.ownBlock = some k ∨ hv.ownBlock = some k) w w' ∧ (∀ k, v'.ownBlock = some k → v.ownBlock = some k ∨ w.heap.size ≤ k) ∧ (∀ k, hv'.ownBlock = some k → hv.ownBlock = some k ∨ w.heap.size ≤ k) ∧
    hv'.ownBlock ≠ some pb ∧ ∀ k, hv'.ownBlock = some k → v'.ownBlock ≠ some k

theorem box_cell {w : World} {g : Nat} {cs : Array Value} {T : TypeId} (h : w.heap[g]? = some (.cells cs T (0, 0))) (j : Nat) (u : Value) (hj : cs[j]? = some u) : w.cell? ⟨g, j, none⟩ = some u := by
  rw [cell_of_row w g j cs T (0, 0) h]; exact hj

theorem writes_end {w w3 w4 wr : World} {pb g n cap4 : Nat} {v v2 hv x : Value} {T : TypeId} {ao : Option Addr} {l l2 b : List UInt8} (hw : WPre w pb v T hv x l b)
    (C3 : Chg (fun k => k = pb ∨ v.ownBlock = some k) w w3) (W3 : IsW w3 pb v2 T (l ++ l2)) (hb2 : ∀ k, v2.ownBlock = some k → v.ownBlock = some k ∨ (w.heap.size ≤ k ∧ k ≠ g)) (hg : w.heap.size ≤ g) (hg3 : g < w3.heap.size)
    (hgr4 : w3.grownBy w4 hv.ownBlock) (hown4 : Own w4 5 1 (.slice ao n cap4) n (bcells l ++ bcells l2)) (hn : n = l.length + l2.length)
    (hblk4 : (Value.slice ao n cap4).ownBlock = hv.ownBlock ∨ (Value.slice ao n cap4).ownBlock = some w3.heap.size) (hcr : Chg (fun j => j = g) w4 wr) :
    WPost w pb v T hv l l2 (.returned (.tuple #[.slice ao n cap4, .bool true])) wr := by
  have hd4 : Chg (fun k => hv.ownBlock = some k) w3 w4 := Chg.of_grown hgr4 (fun k hk _ => hk)
  have hp := lt_of_block hw.wr.blk
  have hvlt := hw.wr.own.lt
  have hhlt := hw.held.lt
  have v2lt := W3.own.lt
  have hs3 := C3.size
  have hne : ∀ k, v2.ownBlock = some k → hv.ownBlock ≠ some k := fun k hk h => by
    rcases hb2 k hk with h2 | h2
    · exact hw.hvv k h h2
    · have := hhlt k h; omega
  have W4 := W3.kept hd4 (fun h => hw.hp h) (fun k hk h => hne k hk h)
  have hv2g : ∀ k, v2.ownBlock = some k → k ≠ g := fun k hk => by
    rcases hb2 k hk with h2 | h2
    · have := hvlt k h2; omega
    · exact h2.2
  have hv4 : ∀ k, (Value.slice ao n cap4).ownBlock = some k → hv.ownBlock = some k ∨ k = w3.heap.size := fun k hk => by
    rcases hblk4 with h | h
    · rw [h] at hk; exact .inl hk
    · rw [h] at hk; simp at hk; exact .inr hk.symm
  refine ⟨v2, .slice ao n cap4, rfl, W4.kept hcr (by omega) (fun k hk h => hv2g k hk h), ?_, ?_, fun k hk => ?_, fun k hk => ?_, fun h => ?_, fun k hk h => ?_⟩
  · refine (hown4.kept hcr (fun k hk h => ?_)).cast (by simp [hn]) (by simp)
    rcases hv4 k hk with h' | h'
    · have := hhlt k h'; omega
    · omega
  · refine ((C3.mono (fun _ _ h => ?_)).trans hd4 (fun _ _ h => .inr (.inr h))).trans hcr (fun q hq h => by omega)
    rcases h with h | h
    · exact .inl h
    · exact .inr (.inl h)
  · rcases hb2 k hk with h2 | h2
    · exact .inl h2
    · exact .inr h2.1
  · rcases hv4 k hk with h' | h'
    · exact .inl h'
    · exact .inr (by omega)
  · rcases hv4 _ h with h' | h'
    · exact hw.hp h'
    · omega
  · rcases hv4 k hk with h' | h'
    · exact hne k h h'
    · have := v2lt k h; omega

theorem rvar_any' (n : Int) (w : World) (hn0 : 0 ≤ n) (hn1 : n ≤ 18446744073709551615) : Calls Try.prog 33 #[.int .u64 n] w (NewB 5 w (varB n.toNat)) := by
  obtain ⟨m, rfl⟩ := Int.eq_ofNat_of_zero_le hn0
  rw [Int.toNat_natCast]
  exact rvar_any m w (by omega)

set_option maxRecDepth 100000 in
set_option maxHeartbeats 1600000 in
theorem writes_u8 (pb : Nat) (v hv x : Value) (T : TypeId) (wh m n : Int) (l b : List UInt8) (w : World) (hw : WPre w pb v T hv x l b) (hn0 : 0 ≤ n) (hn1 : n ≤ 18446744073709551615) (hl : l.length ≤ 900000000) (hb : b.length ≤ 900000000) :
    Calls Try.prog 8 #[.pointer (some ⟨pb, 0, none⟩), hv, .agg #[.int .i64 1, .int .i64 wh, .int .i64 m, .int .u64 n, x]] w (WPost w pb v T hv l (be (n % 256) 1 1)) := by
  have hp0 := lt_of_block hw.wr.blk
  go_enter Try.func8, Try.ntmps8
  go_wp2_with fail
  refine (lend_any x b _ (hw.rd.kept ((Chg.refl (fun _ => False) w).alloc _) (fun _ _ => id)) (by omega)).mono ?_
  rintro e w1 ⟨g, cap, rfl, L1, hc1, hg1⟩
  have B1 := hc1.keep (heap_alloc_new w _) id
  have c1 := box_cell B1 3 (.int .u64 n) rfl
  have c1k := box_cell B1 0 (.int .i64 1) rfl
  simp only [World.size_alloc] at hg1
  have C1 : Chg (fun _ => False) w w1 := ((Chg.refl _ w).alloc _).trans hc1 (fun _ _ h => h)
  have W1 := hw.wr.kept C1 id (fun _ _ => id)
  clear hc1
  go_wp2_with fail
  refine (u8_any pb v T (n % 256) l _ W1 (by omega) (by omega) (by omega)).mono ?_
  rintro e w2 ⟨rfl, v2, W2, hc2, hb2⟩
  have hg2 : g ≠ pb := by omega
  have hgv : ∀ k, v.ownBlock = some k → k < w.heap.size := hw.wr.own.lt
  have L2 : Lent w2 g cap b := ⟨L1.own.kept hc2 (fun k hk h => by simp [Value.ownBlock] at hk; subst hk; rcases h with h | h; exact hg2 h; have := hgv _ h; omega)⟩
  have B2 := hc2.keep B1 (fun h => by rcases h with h | h; omega; have := hgv _ h; omega)
  have c2 := box_cell B2 3 (.int .u64 n) rfl
  have c2x := box_cell B2 4 x rfl
  have C2 : Chg (fun k => k = pb ∨ v.ownBlock = some k) w w2 := (C1.mono (fun _ _ h => h.elim)).trans hc2 (fun _ _ h => h)
  have R2 := hw.rd.kept C2 (fun k hk h => by rcases h with h | h; exact (hw.xp k hk).1 h; exact (hw.xp k hk).2.1 h)
  have H2 := hw.held.kept C2 (fun k hk h => by rcases h with h | h; subst h; exact hw.hp hk; exact hw.hvv k hk h)
  have hhb := hw.held.lt
  have hgl : g < w1.heap.size := L1.own.lt g rfl
  have hb3v : ∀ k, v2.ownBlock = some k → v.ownBlock = some k ∨ (w.heap.size ≤ k ∧ k ≠ g) := fun k hk => by
    rcases hb2 k hk with h | h
    · exact .inl h
    · have := C1.size; exact .inr ⟨by omega, by omega⟩
  have hs2 := hc2.size
  clear c1 c1k B1 L1 W1 hc2
  go_wp2_with fail
  refine (ru8_any (n % 256) _ (by omega) (by omega)).mono ?_
  rintro e w3 ⟨r3, rfl, O3, hc3, hb3⟩
  have L3 : Lent w3 g cap b := ⟨L2.own.kept hc3 (fun _ _ => id)⟩
  have B3 := hc3.keep B2 id
  have C3 : Chg (fun k => k = pb ∨ v.ownBlock = some k) w w3 := C2.trans hc3 (fun _ _ h => h.elim)
  have R3 := R2.kept hc3 (fun _ _ => id)
  have H3 := H2.kept hc3 (fun _ _ => id)
  have W3 := W2.kept hc3 id (fun _ _ => id)
  have hs3 := hc3.size
  clear c2 c2x B2 L2 W2 H2 R2 hc3
  have hg3 : g < w3.heap.size := by omega
  go_wp2_with ((with_reducible show wpList _ _ _ (⟨some 28, _, _, _, _, _⟩ :: _) _ _); refine wpl_append (o := ⟨some 28, _, _, _, _, _⟩) rfl (.tmp 23) (.tmp 27) 22 rfl tyBytes H3 O3.rd rfl rfl (by simp only [maxLen, be_length]; omega) (by simp only [be_length]; omega) ?_; intro ao cap4 w4 hown4 hgr4 hblk4; simp only [be_length] at hown4 hblk4; have hd4 : Chg (fun k => hv.ownBlock = some k) _ w4 := Chg.of_grown hgr4 (fun k hk _ => hk); have B4 := hd4.keep B3 (fun h => by have := hhb _ h; omega); have c4 := box_cell B4 4 x rfl; have hs4 := hd4.size)
  have L4 : Lent w4 g cap b := ⟨L3.own.kept hd4 (fun k hk h => by simp [Value.ownBlock] at hk; subst hk; have := hhb _ h; omega)⟩
  have R4 := R3.kept hd4 (fun k hk h => (hw.xp k hk).2.2 h)
  refine (intact_any g cap _ b _ L4 R4 (by omega)).mono ?_
  rintro e w5 ⟨rfl, rfl⟩
  clear c4
  go_wp2_with fail
  go_loopw [10] (fun i wr => ∃ (k : Nat) (xs : List Value), k ≤ b.length ∧ i = .int .i64 k ∧ Own wr 5 1 (.slice (some ⟨g, 0, none⟩) (b.length + 3) cap) (b.length + 3) xs ∧ Chg (fun j => j = g) w4 wr) (fun i _ => b.length - (intOf i).toNat)
  case atStart => exact ⟨0, _, Nat.zero_le _, rfl, L4.own, Chg.refl _ _⟩
  case round =>
    obtain ⟨k, xs, hk, rfl, ho, hcr⟩ := hrel
    by_cases hlt : k < b.length
    · obtain ⟨ho1, hf, hcell⟩ := ho.store (i := k) (by omega) (.int .u8 238)
      have hxl := ho.1
      rw [List.getElem?_eq_getElem (by omega)] at hcell
      go_wp2_with fail
      go_roundw
      case rel => exact ⟨k + 1, _, by omega, by go_num, ho1, hcr.setCell (.inr rfl) _⟩
      case measure => simp [intOf]; omega
    · go_wp2_with fail
      go_ret2
      exact writes_end hw C3 W3 hb3v (by omega) hg3 hgr4 hown4 (by simp) hblk4 hcr

set_option maxRecDepth 100000 in
set_option maxHeartbeats 1600000 in
theorem writes_u32 (pb : Nat) (v hv x : Value) (T : TypeId) (wh m n : Int) (l b : List UInt8) (w : World) (hw : WPre w pb v T hv x l b) (hn0 : 0 ≤ n) (hn1 : n ≤ 18446744073709551615) (hl : l.length ≤ 900000000) (hb : b.length ≤ 900000000) :
    Calls Try.prog 8 #[.pointer (some ⟨pb, 0, none⟩), hv, .agg #[.int .i64 2, .int .i64 wh, .int .i64 m, .int .u64 n, x]] w (WPost w pb v T hv l (be (n % 4294967296) 4 4)) := by
  have hp0 := lt_of_block hw.wr.blk
  go_enter Try.func8, Try.ntmps8
  go_wp2_with fail
  refine (lend_any x b _ (hw.rd.kept ((Chg.refl (fun _ => False) w).alloc _) (fun _ _ => id)) (by omega)).mono ?_
  rintro e w1 ⟨g, cap, rfl, L1, hc1, hg1⟩
  have B1 := hc1.keep (heap_alloc_new w _) id
  have c1 := box_cell B1 3 (.int .u64 n) rfl
  have c1k := box_cell B1 0 (.int .i64 2) rfl
  simp only [World.size_alloc] at hg1
  have C1 : Chg (fun _ => False) w w1 := ((Chg.refl _ w).alloc _).trans hc1 (fun _ _ h => h)
  have W1 := hw.wr.kept C1 id (fun _ _ => id)
  clear hc1
  go_wp2_with fail
  refine (u32_any pb v T (n % 4294967296) l _ W1 (by omega) (by omega) (by omega)).mono ?_
  rintro e w2 ⟨rfl, v2, W2, hc2, hb2⟩
  have hg2 : g ≠ pb := by omega
  have hgv : ∀ k, v.ownBlock = some k → k < w.heap.size := hw.wr.own.lt
  have L2 : Lent w2 g cap b := ⟨L1.own.kept hc2 (fun k hk h => by simp [Value.ownBlock] at hk; subst hk; rcases h with h | h; exact hg2 h; have := hgv _ h; omega)⟩
  have B2 := hc2.keep B1 (fun h => by rcases h with h | h; omega; have := hgv _ h; omega)
  have c2 := box_cell B2 3 (.int .u64 n) rfl
  have c2x := box_cell B2 4 x rfl
  have C2 : Chg (fun k => k = pb ∨ v.ownBlock = some k) w w2 := (C1.mono (fun _ _ h => h.elim)).trans hc2 (fun _ _ h => h)
  have R2 := hw.rd.kept C2 (fun k hk h => by rcases h with h | h; exact (hw.xp k hk).1 h; exact (hw.xp k hk).2.1 h)
  have H2 := hw.held.kept C2 (fun k hk h => by rcases h with h | h; subst h; exact hw.hp hk; exact hw.hvv k hk h)
  have hhb := hw.held.lt
  have hgl : g < w1.heap.size := L1.own.lt g rfl
  have hb3v : ∀ k, v2.ownBlock = some k → v.ownBlock = some k ∨ (w.heap.size ≤ k ∧ k ≠ g) := fun k hk => by
    rcases hb2 k hk with h | h
    · exact .inl h
    · have := C1.size; exact .inr ⟨by omega, by omega⟩
  have hs2 := hc2.size
  clear c1 c1k B1 L1 W1 hc2
  go_wp2_with fail
  refine (ru32_any (n % 4294967296) _ (by omega) (by omega)).mono ?_
  rintro e w3 ⟨r3, rfl, O3, hc3, hb3⟩
  have L3 : Lent w3 g cap b := ⟨L2.own.kept hc3 (fun _ _ => id)⟩
  have B3 := hc3.keep B2 id
  have C3 : Chg (fun k => k = pb ∨ v.ownBlock = some k) w w3 := C2.trans hc3 (fun _ _ h => h.elim)
  have R3 := R2.kept hc3 (fun _ _ => id)
  have H3 := H2.kept hc3 (fun _ _ => id)
  have W3 := W2.kept hc3 id (fun _ _ => id)
  have hs3 := hc3.size
  clear c2 c2x B2 L2 W2 H2 R2 hc3
  have hg3 : g < w3.heap.size := by omega
  go_wp2_with ((with_reducible show wpList _ _ _ (⟨some 41, _, _, _, _, _⟩ :: _) _ _); refine wpl_append (o := ⟨some 41, _, _, _, _, _⟩) rfl (.tmp 36) (.tmp 40) 22 rfl tyBytes H3 O3.rd rfl rfl (by simp only [maxLen, be_length]; omega) (by simp only [be_length]; omega) ?_; intro ao cap4 w4 hown4 hgr4 hblk4; simp only [be_length] at hown4 hblk4; have hd4 : Chg (fun k => hv.ownBlock = some k) _ w4 := Chg.of_grown hgr4 (fun k hk _ => hk); have B4 := hd4.keep B3 (fun h => by have := hhb _ h; omega); have c4 := box_cell B4 4 x rfl; have hs4 := hd4.size)
  have L4 : Lent w4 g cap b := ⟨L3.own.kept hd4 (fun k hk h => by simp [Value.ownBlock] at hk; subst hk; have := hhb _ h; omega)⟩
  have R4 := R3.kept hd4 (fun k hk h => (hw.xp k hk).2.2 h)
  refine (intact_any g cap _ b _ L4 R4 (by omega)).mono ?_
  rintro e w5 ⟨rfl, rfl⟩
  clear c4
  go_wp2_with fail
  go_loopw [10] (fun i wr => ∃ (k : Nat) (xs : List Value), k ≤ b.length ∧ i = .int .i64 k ∧ Own wr 5 1 (.slice (some ⟨g, 0, none⟩) (b.length + 3) cap) (b.length + 3) xs ∧ Chg (fun j => j = g) w4 wr) (fun i _ => b.length - (intOf i).toNat)
  case atStart => exact ⟨0, _, Nat.zero_le _, rfl, L4.own, Chg.refl _ _⟩
  case round =>
    obtain ⟨k, xs, hk, rfl, ho, hcr⟩ := hrel
    by_cases hlt : k < b.length
    · obtain ⟨ho1, hf, hcell⟩ := ho.store (i := k) (by omega) (.int .u8 238)
      have hxl := ho.1
      rw [List.getElem?_eq_getElem (by omega)] at hcell
      go_wp2_with fail
      go_roundw
      case rel => exact ⟨k + 1, _, by omega, by go_num, ho1, hcr.setCell (.inr rfl) _⟩
      case measure => simp [intOf]; omega
    · go_wp2_with fail
      go_ret2
      exact writes_end hw C3 W3 hb3v (by omega) hg3 hgr4 hown4 (by simp) hblk4 hcr

set_option maxRecDepth 100000 in
set_option maxHeartbeats 1600000 in
theorem writes_u64 (pb : Nat) (v hv x : Value) (T : TypeId) (wh m n : Int) (l b : List UInt8) (w : World) (hw : WPre w pb v T hv x l b) (hn0 : 0 ≤ n) (hn1 : n ≤ 18446744073709551615) (hl : l.length ≤ 900000000) (hb : b.length ≤ 900000000) :
    Calls Try.prog 8 #[.pointer (some ⟨pb, 0, none⟩), hv, .agg #[.int .i64 3, .int .i64 wh, .int .i64 m, .int .u64 n, x]] w (WPost w pb v T hv l (be n 8 8)) := by
  have hp0 := lt_of_block hw.wr.blk
  go_enter Try.func8, Try.ntmps8
  go_wp2_with fail
  refine (lend_any x b _ (hw.rd.kept ((Chg.refl (fun _ => False) w).alloc _) (fun _ _ => id)) (by omega)).mono ?_
  rintro e w1 ⟨g, cap, rfl, L1, hc1, hg1⟩
  have B1 := hc1.keep (heap_alloc_new w _) id
  have c1 := box_cell B1 3 (.int .u64 n) rfl
  have c1k := box_cell B1 0 (.int .i64 3) rfl
  simp only [World.size_alloc] at hg1
  have C1 : Chg (fun _ => False) w w1 := ((Chg.refl _ w).alloc _).trans hc1 (fun _ _ h => h)
  have W1 := hw.wr.kept C1 id (fun _ _ => id)
  clear hc1
  go_wp2_with fail
  refine (u64_any pb v T n l _ W1 hn0 hn1 (by omega)).mono ?_
  rintro e w2 ⟨rfl, v2, W2, hc2, hb2⟩
  have hg2 : g ≠ pb := by omega
  have hgv : ∀ k, v.ownBlock = some k → k < w.heap.size := hw.wr.own.lt
  have L2 : Lent w2 g cap b := ⟨L1.own.kept hc2 (fun k hk h => by simp [Value.ownBlock] at hk; subst hk; rcases h with h | h; exact hg2 h; have := hgv _ h; omega)⟩
  have B2 := hc2.keep B1 (fun h => by rcases h with h | h; omega; have := hgv _ h; omega)
  have c2 := box_cell B2 3 (.int .u64 n) rfl
  have c2x := box_cell B2 4 x rfl
  have C2 : Chg (fun k => k = pb ∨ v.ownBlock = some k) w w2 := (C1.mono (fun _ _ h => h.elim)).trans hc2 (fun _ _ h => h)
  have R2 := hw.rd.kept C2 (fun k hk h => by rcases h with h | h; exact (hw.xp k hk).1 h; exact (hw.xp k hk).2.1 h)
  have H2 := hw.held.kept C2 (fun k hk h => by rcases h with h | h; subst h; exact hw.hp hk; exact hw.hvv k hk h)
  have hhb := hw.held.lt
  have hgl : g < w1.heap.size := L1.own.lt g rfl
  have hb3v : ∀ k, v2.ownBlock = some k → v.ownBlock = some k ∨ (w.heap.size ≤ k ∧ k ≠ g) := fun k hk => by
    rcases hb2 k hk with h | h
    · exact .inl h
    · have := C1.size; exact .inr ⟨by omega, by omega⟩
  have hs2 := hc2.size
  clear c1 c1k B1 L1 W1 hc2
  go_wp2_with fail
  refine (ru64_any n _ hn0 hn1).mono ?_
  rintro e w3 ⟨r3, rfl, O3, hc3, hb3⟩
  have L3 : Lent w3 g cap b := ⟨L2.own.kept hc3 (fun _ _ => id)⟩
  have B3 := hc3.keep B2 id
  have C3 : Chg (fun k => k = pb ∨ v.ownBlock = some k) w w3 := C2.trans hc3 (fun _ _ h => h.elim)
  have R3 := R2.kept hc3 (fun _ _ => id)
  have H3 := H2.kept hc3 (fun _ _ => id)
  have W3 := W2.kept hc3 id (fun _ _ => id)
  have hs3 := hc3.size
  clear c2 c2x B2 L2 W2 H2 R2 hc3
  have hg3 : g < w3.heap.size := by omega
  go_wp2_with ((with_reducible show wpList _ _ _ (⟨some 52, _, _, _, _, _⟩ :: _) _ _); refine wpl_append (o := ⟨some 52, _, _, _, _, _⟩) rfl (.tmp 48) (.tmp 51) 22 rfl tyBytes H3 O3.rd rfl rfl (by simp only [maxLen, be_length]; omega) (by simp only [be_length]; omega) ?_; intro ao cap4 w4 hown4 hgr4 hblk4; simp only [be_length] at hown4 hblk4; have hd4 : Chg (fun k => hv.ownBlock = some k) _ w4 := Chg.of_grown hgr4 (fun k hk _ => hk); have B4 := hd4.keep B3 (fun h => by have := hhb _ h; omega); have c4 := box_cell B4 4 x rfl; have hs4 := hd4.size)
  have L4 : Lent w4 g cap b := ⟨L3.own.kept hd4 (fun k hk h => by simp [Value.ownBlock] at hk; subst hk; have := hhb _ h; omega)⟩
  have R4 := R3.kept hd4 (fun k hk h => (hw.xp k hk).2.2 h)
  refine (intact_any g cap _ b _ L4 R4 (by omega)).mono ?_
  rintro e w5 ⟨rfl, rfl⟩
  clear c4
  go_wp2_with fail
  go_loopw [10] (fun i wr => ∃ (k : Nat) (xs : List Value), k ≤ b.length ∧ i = .int .i64 k ∧ Own wr 5 1 (.slice (some ⟨g, 0, none⟩) (b.length + 3) cap) (b.length + 3) xs ∧ Chg (fun j => j = g) w4 wr) (fun i _ => b.length - (intOf i).toNat)
  case atStart => exact ⟨0, _, Nat.zero_le _, rfl, L4.own, Chg.refl _ _⟩
  case round =>
    obtain ⟨k, xs, hk, rfl, ho, hcr⟩ := hrel
    by_cases hlt : k < b.length
    · obtain ⟨ho1, hf, hcell⟩ := ho.store (i := k) (by omega) (.int .u8 238)
      have hxl := ho.1
      rw [List.getElem?_eq_getElem (by omega)] at hcell
      go_wp2_with fail
      go_roundw
      case rel => exact ⟨k + 1, _, by omega, by go_num, ho1, hcr.setCell (.inr rfl) _⟩
      case measure => simp [intOf]; omega
    · go_wp2_with fail
      go_ret2
      exact writes_end hw C3 W3 hb3v (by omega) hg3 hgr4 hown4 (by simp) hblk4 hcr

set_option maxRecDepth 100000 in
set_option maxHeartbeats 1600000 in
theorem writes_var (pb : Nat) (v hv x : Value) (T : TypeId) (wh m n : Int) (l b : List UInt8) (w : World) (hw : WPre w pb v T hv x l b) (hn0 : 0 ≤ n) (hn1 : n ≤ 18446744073709551615) (hl : l.length ≤ 900000000) (hb : b.length ≤ 900000000) :
    Calls Try.prog 8 #[.pointer (some ⟨pb, 0, none⟩), hv, .agg #[.int .i64 4, .int .i64 wh, .int .i64 m, .int .u64 n, x]] w (WPost w pb v T hv l (varB n.toNat)) := by
  have hp0 := lt_of_block hw.wr.blk
  go_enter Try.func8, Try.ntmps8
  go_wp2_with fail
  refine (lend_any x b _ (hw.rd.kept ((Chg.refl (fun _ => False) w).alloc _) (fun _ _ => id)) (by omega)).mono ?_
  rintro e w1 ⟨g, cap, rfl, L1, hc1, hg1⟩
  have B1 := hc1.keep (heap_alloc_new w _) id
  have c1 := box_cell B1 3 (.int .u64 n) rfl
  have c1k := box_cell B1 0 (.int .i64 4) rfl
  simp only [World.size_alloc] at hg1
  have C1 : Chg (fun _ => False) w w1 := ((Chg.refl _ w).alloc _).trans hc1 (fun _ _ h => h)
  have W1 := hw.wr.kept C1 id (fun _ _ => id)
  clear hc1
  go_wp2_with fail
  refine (var_any pb v T n l _ W1 hn0 hn1 (by omega)).mono ?_
  rintro e w2 ⟨rfl, v2, W2, hc2, hb2⟩
  have hg2 : g ≠ pb := by omega
  have hgv : ∀ k, v.ownBlock = some k → k < w.heap.size := hw.wr.own.lt
  have L2 : Lent w2 g cap b := ⟨L1.own.kept hc2 (fun k hk h => by simp [Value.ownBlock] at hk; subst hk; rcases h with h | h; exact hg2 h; have := hgv _ h; omega)⟩
  have B2 := hc2.keep B1 (fun h => by rcases h with h | h; omega; have := hgv _ h; omega)
  have c2 := box_cell B2 3 (.int .u64 n) rfl
  have c2x := box_cell B2 4 x rfl
  have C2 : Chg (fun k => k = pb ∨ v.ownBlock = some k) w w2 := (C1.mono (fun _ _ h => h.elim)).trans hc2 (fun _ _ h => h)
  have R2 := hw.rd.kept C2 (fun k hk h => by rcases h with h | h; exact (hw.xp k hk).1 h; exact (hw.xp k hk).2.1 h)
  have H2 := hw.held.kept C2 (fun k hk h => by rcases h with h | h; subst h; exact hw.hp hk; exact hw.hvv k hk h)
  have hhb := hw.held.lt
  have hgl : g < w1.heap.size := L1.own.lt g rfl
  have hb3v : ∀ k, v2.ownBlock = some k → v.ownBlock = some k ∨ (w.heap.size ≤ k ∧ k ≠ g) := fun k hk => by
    rcases hb2 k hk with h | h
    · exact .inl h
    · have := C1.size; exact .inr ⟨by omega, by omega⟩
  have hs2 := hc2.size
  clear c1 c1k B1 L1 W1 hc2
  go_wp2_with fail
  refine (rvar_any' n _ hn0 hn1).mono ?_
  rintro e w3 ⟨r3, rfl, O3, hc3, hb3⟩
  have L3 : Lent w3 g cap b := ⟨L2.own.kept hc3 (fun _ _ => id)⟩
  have B3 := hc3.keep B2 id
  have C3 : Chg (fun k => k = pb ∨ v.ownBlock = some k) w w3 := C2.trans hc3 (fun _ _ h => h.elim)
  have R3 := R2.kept hc3 (fun _ _ => id)
  have H3 := H2.kept hc3 (fun _ _ => id)
  have W3 := W2.kept hc3 id (fun _ _ => id)
  have hs3 := hc3.size
  clear c2 c2x B2 L2 W2 H2 R2 hc3
  have hvl := varB_len n.toNat (by omega)
  have hg3 : g < w3.heap.size := by omega
  go_wp2_with ((with_reducible show wpList _ _ _ (⟨some 63, _, _, _, _, _⟩ :: _) _ _); refine wpl_append (o := ⟨some 63, _, _, _, _, _⟩) rfl (.tmp 59) (.tmp 62) 22 rfl tyBytes H3 O3.rd rfl rfl (by simp only [maxLen]; omega) (by omega) ?_; intro ao cap4 w4 hown4 hgr4 hblk4; have hd4 : Chg (fun k => hv.ownBlock = some k) _ w4 := Chg.of_grown hgr4 (fun k hk _ => hk); have B4 := hd4.keep B3 (fun h => by have := hhb _ h; omega); have c4 := box_cell B4 4 x rfl; have hs4 := hd4.size)
  have L4 : Lent w4 g cap b := ⟨L3.own.kept hd4 (fun k hk h => by simp [Value.ownBlock] at hk; subst hk; have := hhb _ h; omega)⟩
  have R4 := R3.kept hd4 (fun k hk h => (hw.xp k hk).2.2 h)
  refine (intact_any g cap _ b _ L4 R4 (by omega)).mono ?_
  rintro e w5 ⟨rfl, rfl⟩
  clear c4
  go_wp2_with fail
  go_loopw [10] (fun i wr => ∃ (k : Nat) (xs : List Value), k ≤ b.length ∧ i = .int .i64 k ∧ Own wr 5 1 (.slice (some ⟨g, 0, none⟩) (b.length + 3) cap) (b.length + 3) xs ∧ Chg (fun j => j = g) w4 wr) (fun i _ => b.length - (intOf i).toNat)
  case atStart => exact ⟨0, _, Nat.zero_le _, rfl, L4.own, Chg.refl _ _⟩
  case round =>
    obtain ⟨k, xs, hk, rfl, ho, hcr⟩ := hrel
    by_cases hlt : k < b.length
    · obtain ⟨ho1, hf, hcell⟩ := ho.store (i := k) (by omega) (.int .u8 238)
      have hxl := ho.1
      rw [List.getElem?_eq_getElem (by omega)] at hcell
      go_wp2_with fail
      go_roundw
      case rel => exact ⟨k + 1, _, by omega, by go_num, ho1, hcr.setCell (.inr rfl) _⟩
      case measure => simp [intOf]; omega
    · go_wp2_with fail
      go_ret2
      exact writes_end hw C3 W3 hb3v (by omega) hg3 hgr4 hown4 (by simp) hblk4 hcr

set_option maxRecDepth 100000 in
set_option maxHeartbeats 1600000 in
theorem writes_bytes (pb : Nat) (v hv x : Value) (T : TypeId) (wh m n : Int) (l b : List UInt8) (w : World) (hw : WPre w pb v T hv x l b) (hn0 : 0 ≤ n) (hn1 : n ≤ 18446744073709551615) (hl : l.length ≤ 900000000) (hb : b.length ≤ 900000000) :
    Calls Try.prog 8 #[.pointer (some ⟨pb, 0, none⟩), hv, .agg #[.int .i64 5, .int .i64 wh, .int .i64 m, .int .u64 n, x]] w (WPost w pb v T hv l (varB b.length ++ b)) := by
  have hp0 := lt_of_block hw.wr.blk
  go_enter Try.func8, Try.ntmps8
  go_wp2_with fail
  refine (lend_any x b _ (hw.rd.kept ((Chg.refl (fun _ => False) w).alloc _) (fun _ _ => id)) (by omega)).mono ?_
  rintro e w1 ⟨g, cap, rfl, L1, hc1, hg1⟩
  have B1 := hc1.keep (heap_alloc_new w _) id
  have c1 := box_cell B1 3 (.int .u64 n) rfl
  have c1k := box_cell B1 0 (.int .i64 5) rfl
  simp only [World.size_alloc] at hg1
  have C1 : Chg (fun _ => False) w w1 := ((Chg.refl _ w).alloc _).trans hc1 (fun _ _ h => h)
  have W1 := hw.wr.kept C1 id (fun _ _ => id)
  clear hc1
  go_wp2_with fail
  refine (wbytes_any pb v _ T l b _ W1 L1.rd (fun k hk => by replace hk := rdb_own hk; simp [Value.ownBlock] at hk; subst hk; exact ⟨by omega, fun h => by have := hw.wr.own.lt _ h; omega⟩) (by omega) (by omega)).mono ?_
  rintro e w2 ⟨rfl, v2, W2, hc2, hb2⟩
  have hg2 : g ≠ pb := by omega
  have hgv : ∀ k, v.ownBlock = some k → k < w.heap.size := hw.wr.own.lt
  have L2 : Lent w2 g cap b := ⟨L1.own.kept hc2 (fun k hk h => by simp [Value.ownBlock] at hk; subst hk; rcases h with h | h; exact hg2 h; have := hgv _ h; omega)⟩
  have B2 := hc2.keep B1 (fun h => by rcases h with h | h; omega; have := hgv _ h; omega)
  have c2 := box_cell B2 3 (.int .u64 n) rfl
  have c2x := box_cell B2 4 x rfl
  have C2 : Chg (fun k => k = pb ∨ v.ownBlock = some k) w w2 := (C1.mono (fun _ _ h => h.elim)).trans hc2 (fun _ _ h => h)
  have R2 := hw.rd.kept C2 (fun k hk h => by rcases h with h | h; exact (hw.xp k hk).1 h; exact (hw.xp k hk).2.1 h)
  have H2 := hw.held.kept C2 (fun k hk h => by rcases h with h | h; subst h; exact hw.hp hk; exact hw.hvv k hk h)
  have hhb := hw.held.lt
  have hgl : g < w1.heap.size := L1.own.lt g rfl
  have hb3v : ∀ k, v2.ownBlock = some k → v.ownBlock = some k ∨ (w.heap.size ≤ k ∧ k ≠ g) := fun k hk => by
    rcases hb2 k hk with h | h
    · exact .inl h
    · have := C1.size; exact .inr ⟨by omega, by omega⟩
  have hs2 := hc2.size
  clear c1 c1k B1 L1 W1 hc2
  go_wp2_with fail
  refine (rtext_any _ b _ R2 (by omega)).mono ?_
  rintro e w3 ⟨r3, rfl, O3, hc3, hb3⟩
  have L3 : Lent w3 g cap b := ⟨L2.own.kept hc3 (fun _ _ => id)⟩
  have B3 := hc3.keep B2 id
  have C3 : Chg (fun k => k = pb ∨ v.ownBlock = some k) w w3 := C2.trans hc3 (fun _ _ h => h.elim)
  have R3 := R2.kept hc3 (fun _ _ => id)
  have H3 := H2.kept hc3 (fun _ _ => id)
  have W3 := W2.kept hc3 id (fun _ _ => id)
  have hs3 := hc3.size
  clear c2 c2x B2 L2 W2 H2 R2 hc3
  have hvl := varB_len b.length (by omega)
  have hg3 : g < w3.heap.size := by omega
  go_wp2_with ((with_reducible show wpList _ _ _ (⟨some 73, _, _, _, _, _⟩ :: _) _ _); refine wpl_append (o := ⟨some 73, _, _, _, _, _⟩) rfl (.tmp 69) (.tmp 72) 22 rfl tyBytes H3 O3.rd rfl rfl (by simp only [maxLen, List.length_append]; omega) (by simp only [List.length_append]; omega) ?_; intro ao cap4 w4 hown4 hgr4 hblk4; simp only [List.length_append] at hown4 hblk4; have hd4 : Chg (fun k => hv.ownBlock = some k) _ w4 := Chg.of_grown hgr4 (fun k hk _ => hk); have B4 := hd4.keep B3 (fun h => by have := hhb _ h; omega); have c4 := box_cell B4 4 x rfl; have hs4 := hd4.size)
  have L4 : Lent w4 g cap b := ⟨L3.own.kept hd4 (fun k hk h => by simp [Value.ownBlock] at hk; subst hk; have := hhb _ h; omega)⟩
  have R4 := R3.kept hd4 (fun k hk h => (hw.xp k hk).2.2 h)
  refine (intact_any g cap _ b _ L4 R4 (by omega)).mono ?_
  rintro e w5 ⟨rfl, rfl⟩
  clear c4
  go_wp2_with fail
  go_loopw [10] (fun i wr => ∃ (k : Nat) (xs : List Value), k ≤ b.length ∧ i = .int .i64 k ∧ Own wr 5 1 (.slice (some ⟨g, 0, none⟩) (b.length + 3) cap) (b.length + 3) xs ∧ Chg (fun j => j = g) w4 wr) (fun i _ => b.length - (intOf i).toNat)
  case atStart => exact ⟨0, _, Nat.zero_le _, rfl, L4.own, Chg.refl _ _⟩
  case round =>
    obtain ⟨k, xs, hk, rfl, ho, hcr⟩ := hrel
    by_cases hlt : k < b.length
    · obtain ⟨ho1, hf, hcell⟩ := ho.store (i := k) (by omega) (.int .u8 238)
      have hxl := ho.1
      rw [List.getElem?_eq_getElem (by omega)] at hcell
      go_wp2_with fail
      go_roundw
      case rel => exact ⟨k + 1, _, by omega, by go_num, ho1, hcr.setCell (.inr rfl) _⟩
      case measure => simp [intOf]; omega
    · go_wp2_with fail
      go_ret2
      exact writes_end hw C3 W3 hb3v (by omega) hg3 hgr4 hown4 (by simp) hblk4 hcr

set_option maxRecDepth 100000 in
set_option maxHeartbeats 1600000 in
theorem writes_raw (pb : Nat) (v hv x : Value) (T : TypeId) (wh m n : Int) (l b : List UInt8) (w : World) (hw : WPre w pb v T hv x l b) (hn0 : 0 ≤ n) (hn1 : n ≤ 18446744073709551615) (hl : l.length ≤ 900000000) (hb : b.length ≤ 900000000) :
    Calls Try.prog 8 #[.pointer (some ⟨pb, 0, none⟩), hv, .agg #[.int .i64 6, .int .i64 wh, .int .i64 m, .int .u64 n, x]] w (WPost w pb v T hv l (b)) := by
  have hp0 := lt_of_block hw.wr.blk
  go_enter Try.func8, Try.ntmps8
  go_wp2_with fail
  refine (lend_any x b _ (hw.rd.kept ((Chg.refl (fun _ => False) w).alloc _) (fun _ _ => id)) (by omega)).mono ?_
  rintro e w1 ⟨g, cap, rfl, L1, hc1, hg1⟩
  have B1 := hc1.keep (heap_alloc_new w _) id
  have c1 := box_cell B1 3 (.int .u64 n) rfl
  have c1k := box_cell B1 0 (.int .i64 6) rfl
  simp only [World.size_alloc] at hg1
  have C1 : Chg (fun _ => False) w w1 := ((Chg.refl _ w).alloc _).trans hc1 (fun _ _ h => h)
  have W1 := hw.wr.kept C1 id (fun _ _ => id)
  clear hc1
  go_wp2_with fail
  refine (raw_any pb v _ T l b _ W1 L1.rd (by omega) (by omega)).mono ?_
  rintro e w2 ⟨rfl, v2, W2, hc2, hb2⟩
  have hg2 : g ≠ pb := by omega
  have hgv : ∀ k, v.ownBlock = some k → k < w.heap.size := hw.wr.own.lt
  have L2 : Lent w2 g cap b := ⟨L1.own.kept hc2 (fun k hk h => by simp [Value.ownBlock] at hk; subst hk; rcases h with h | h; exact hg2 h; have := hgv _ h; omega)⟩
  have B2 := hc2.keep B1 (fun h => by rcases h with h | h; omega; have := hgv _ h; omega)
  have c2 := box_cell B2 3 (.int .u64 n) rfl
  have c2x := box_cell B2 4 x rfl
  have C2 : Chg (fun k => k = pb ∨ v.ownBlock = some k) w w2 := (C1.mono (fun _ _ h => h.elim)).trans hc2 (fun _ _ h => h)
  have R2 := hw.rd.kept C2 (fun k hk h => by rcases h with h | h; exact (hw.xp k hk).1 h; exact (hw.xp k hk).2.1 h)
  have H2 := hw.held.kept C2 (fun k hk h => by rcases h with h | h; subst h; exact hw.hp hk; exact hw.hvv k hk h)
  have hhb := hw.held.lt
  have hgl : g < w1.heap.size := L1.own.lt g rfl
  have hb3v : ∀ k, v2.ownBlock = some k → v.ownBlock = some k ∨ (w.heap.size ≤ k ∧ k ≠ g) := fun k hk => by
    rcases hb2 k hk with h | h
    · exact .inl h
    · have := C1.size; exact .inr ⟨by omega, by omega⟩
  have hs2 := hc2.size
  clear c1 c1k B1 L1 W1 hc2
  obtain ⟨w3, rfl⟩ : ∃ w3 : World, w3 = w2 := ⟨_, rfl⟩
  have L3 := L2
  have B3 := B2
  have C3 := C2
  have R3 := R2
  have H3 := H2
  have W3 := W2
  have hs3 := Nat.le_refl w3.heap.size
  have hg3 : g < w3.heap.size := by omega
  go_wp2_with ((with_reducible show wpList _ _ _ (⟨some 82, _, _, _, _, _⟩ :: _) _ _); refine wpl_append (o := ⟨some 82, _, _, _, _, _⟩) rfl (.tmp 79) (.tmp 81) 22 rfl tyBytes H3 R3 rfl rfl (by simp only [maxLen]; omega) (by omega) ?_; intro ao cap4 w4 hown4 hgr4 hblk4; have hd4 : Chg (fun k => hv.ownBlock = some k) _ w4 := Chg.of_grown hgr4 (fun k hk _ => hk); have B4 := hd4.keep B3 (fun h => by have := hhb _ h; omega); have c4 := box_cell B4 4 x rfl; have hs4 := hd4.size)
  have L4 : Lent w4 g cap b := ⟨L3.own.kept hd4 (fun k hk h => by simp [Value.ownBlock] at hk; subst hk; have := hhb _ h; omega)⟩
  have R4 := R3.kept hd4 (fun k hk h => (hw.xp k hk).2.2 h)
  refine (intact_any g cap _ b _ L4 R4 (by omega)).mono ?_
  rintro e w5 ⟨rfl, rfl⟩
  clear c4
  go_wp2_with fail
  go_loopw [10] (fun i wr => ∃ (k : Nat) (xs : List Value), k ≤ b.length ∧ i = .int .i64 k ∧ Own wr 5 1 (.slice (some ⟨g, 0, none⟩) (b.length + 3) cap) (b.length + 3) xs ∧ Chg (fun j => j = g) w4 wr) (fun i _ => b.length - (intOf i).toNat)
  case atStart => exact ⟨0, _, Nat.zero_le _, rfl, L4.own, Chg.refl _ _⟩
  case round =>
    obtain ⟨k, xs, hk, rfl, ho, hcr⟩ := hrel
    by_cases hlt : k < b.length
    · obtain ⟨ho1, hf, hcell⟩ := ho.store (i := k) (by omega) (.int .u8 238)
      have hxl := ho.1
      rw [List.getElem?_eq_getElem (by omega)] at hcell
      go_wp2_with fail
      go_roundw
      case rel => exact ⟨k + 1, _, by omega, by go_num, ho1, hcr.setCell (.inr rfl) _⟩
      case measure => simp [intOf]; omega
    · go_wp2_with fail
      go_ret2
      exact writes_end hw C3 W3 hb3v (by omega) hg3 hgr4 hown4 (by simp) hblk4 hcr

theorem writes_same {w wr : World} {pb : Nat} {v hv x : Value} {T : TypeId} {l b : List UInt8} (hw : WPre w pb v T hv x l b) (hc : Chg (fun k => w.heap.size ≤ k) w wr) :
    WPost w pb v T hv l [] (.returned (.tuple #[hv, .bool true])) wr := by
  have hp := lt_of_block hw.wr.blk
  have hvlt := hw.wr.own.lt
  have hhlt := hw.held.lt
  exact ⟨v, hv, rfl, by rw [List.append_nil]; exact hw.wr.kept hc (by omega) (fun k hk h => by have := hvlt k hk; omega), by rw [List.append_nil]; exact hw.held.kept hc (fun k hk h => by have := hhlt k hk; omega),
    hc.mono (fun q hq h => by omega), fun k hk => .inl hk, fun k hk => .inl hk, hw.hp, hw.hvv⟩

set_option maxRecDepth 100000 in
set_option maxHeartbeats 1600000 in
theorem writes_len (pb : Nat) (v hv x : Value) (T : TypeId) (wh m n : Int) (l b : List UInt8) (w : World) (hw : WPre w pb v T hv x l b) (hl : l.length ≤ 900000000) (hb : b.length ≤ 900000000) :
    Calls Try.prog 8 #[.pointer (some ⟨pb, 0, none⟩), hv, .agg #[.int .i64 7, .int .i64 wh, .int .i64 m, .int .u64 n, x]] w (WPost w pb v T hv l []) := by
  have hp0 := lt_of_block hw.wr.blk
  go_enter Try.func8, Try.ntmps8
  go_wp2_with fail
  refine (lend_any x b _ (hw.rd.kept ((Chg.refl (fun _ => False) w).alloc _) (fun _ _ => id)) (by omega)).mono ?_
  rintro e w1 ⟨g, cap, rfl, L1, hc1, hg1⟩
  have B1 := hc1.keep (heap_alloc_new w _) id
  have c1x := box_cell B1 4 x rfl
  have c1k := box_cell B1 0 (.int .i64 7) rfl
  simp only [World.size_alloc] at hg1
  have C1 : Chg (fun _ => False) w w1 := ((Chg.refl _ w).alloc _).trans hc1 (fun _ _ h => h)
  have W1 := hw.wr.kept C1 id (fun _ _ => id)
  have H1 := hw.held.kept C1 (fun _ _ => id)
  have R1 := hw.rd.kept C1 (fun _ _ => id)
  clear hc1
  obtain ⟨ao, c, hhv, _⟩ := hw.held.form
  go_wp2_with fail
  refine (wlen_any pb v T l _ W1).mono ?_
  rintro e w2 ⟨rfl, rfl⟩
  subst hhv
  go_wp2_with fail
  go_ret2
  exact writes_same hw (C1.mono fun _ _ h => h.elim)

set_option maxRecDepth 100000 in
set_option maxHeartbeats 1600000 in
theorem writes_out (pb : Nat) (v hv x : Value) (T : TypeId) (wh m n : Int) (l b : List UInt8) (w : World) (hw : WPre w pb v T hv x l b) (hl : l.length ≤ 900000000) (hb : b.length ≤ 900000000) :
    Calls Try.prog 8 #[.pointer (some ⟨pb, 0, none⟩), hv, .agg #[.int .i64 8, .int .i64 wh, .int .i64 m, .int .u64 n, x]] w (WPost w pb v T hv l []) := by
  have hp0 := lt_of_block hw.wr.blk
  go_enter Try.func8, Try.ntmps8
  go_wp2_with fail
  refine (lend_any x b _ (hw.rd.kept ((Chg.refl (fun _ => False) w).alloc _) (fun _ _ => id)) (by omega)).mono ?_
  rintro e w1 ⟨g, cap, rfl, L1, hc1, hg1⟩
  have B1 := hc1.keep (heap_alloc_new w _) id
  have c1x := box_cell B1 4 x rfl
  have c1k := box_cell B1 0 (.int .i64 8) rfl
  simp only [World.size_alloc] at hg1
  have C1 : Chg (fun _ => False) w w1 := ((Chg.refl _ w).alloc _).trans hc1 (fun _ _ h => h)
  have W1 := hw.wr.kept C1 id (fun _ _ => id)
  have H1 := hw.held.kept C1 (fun _ _ => id)
  have R1 := hw.rd.kept C1 (fun _ _ => id)
  clear hc1
  go_wp2_with fail
  refine (out_any pb v T l _ W1 (by omega)).mono ?_
  rintro e w2 ⟨rfl, hown2, hc2, hs2⟩
  have H2 := H1.kept hc2 (fun _ _ => id)
  have hq := eqB_self l
  go_wp2_with fail
  refine (eq_any _ _ l l _ hown2.rd H2.rd (by omega) (by omega)).mono ?_
  rintro e w3 ⟨rfl, hw3⟩
  go_wp2_with fail
  go_ret2
  exact writes_same hw (((C1.trans hc2 fun _ _ h => h).trans (hw3.chg (fun _ => False)) fun _ _ h => h).mono fun _ _ h => h.elim)

set_option maxRecDepth 100000 in
set_option maxHeartbeats 1600000 in
theorem writes_none (pb : Nat) (v hv x : Value) (T : TypeId) (k0 wh m n : Int) (l b : List UInt8) (w : World) (hw : WPre w pb v T hv x l b) (hk0 : k0 < 1 ∨ 8 < k0) (hl : l.length ≤ 900000000) (hb : b.length ≤ 900000000) :
    Calls Try.prog 8 #[.pointer (some ⟨pb, 0, none⟩), hv, .agg #[.int .i64 k0, .int .i64 wh, .int .i64 m, .int .u64 n, x]] w (WPost w pb v T hv l []) := by
  have hp0 := lt_of_block hw.wr.blk
  go_enter Try.func8, Try.ntmps8
  go_wp2_with fail
  refine (lend_any x b _ (hw.rd.kept ((Chg.refl (fun _ => False) w).alloc _) (fun _ _ => id)) (by omega)).mono ?_
  rintro e w1 ⟨g, cap, rfl, L1, hc1, hg1⟩
  have B1 := hc1.keep (heap_alloc_new w _) id
  have c1x := box_cell B1 4 x rfl
  have c1k := box_cell B1 0 (.int .i64 k0) rfl
  simp only [World.size_alloc] at hg1
  have C1 : Chg (fun _ => False) w w1 := ((Chg.refl _ w).alloc _).trans hc1 (fun _ _ h => h)
  have W1 := hw.wr.kept C1 id (fun _ _ => id)
  have H1 := hw.held.kept C1 (fun _ _ => id)
  have R1 := hw.rd.kept C1 (fun _ _ => id)
  clear hc1
  have t1 : (k0 == 1) = false := by simp; omega
  have t2 : (k0 == 2) = false := by simp; omega
  have t3 : (k0 == 3) = false := by simp; omega
  have t4 : (k0 == 4) = false := by simp; omega
  have t5 : (k0 == 5) = false := by simp; omega
  have t6 : (k0 == 6) = false := by simp; omega
  have t7 : (k0 == 7) = false := by simp; omega
  have t8 : (k0 == 8) = false := by simp; omega
  go_wp2_with fail
  refine (intact_any g cap _ b _ L1 R1 (by omega)).mono ?_
  rintro e w5 ⟨rfl, rfl⟩
  clear t1 t2 t3 t4 t5 t6 t7 t8 c1k c1x
  go_wp2_with fail
  go_loopw [10] (fun i wr => ∃ (k : Nat) (xs : List Value), k ≤ b.length ∧ i = .int .i64 k ∧ Own wr 5 1 (.slice (some ⟨g, 0, none⟩) (b.length + 3) cap) (b.length + 3) xs ∧ Chg (fun j => j = g) w1 wr) (fun i _ => b.length - (intOf i).toNat)
  case atStart => exact ⟨0, _, Nat.zero_le _, rfl, L1.own, Chg.refl _ _⟩
  case round =>
    obtain ⟨k, xs, hk, rfl, ho, hcr⟩ := hrel
    by_cases hlt : k < b.length
    · obtain ⟨ho1, hf, hcell⟩ := ho.store (i := k) (by omega) (.int .u8 238)
      have hxl := ho.1
      rw [List.getElem?_eq_getElem (by omega)] at hcell
      go_wp2_with fail
      go_roundw
      case rel => exact ⟨k + 1, _, by omega, by go_num, ho1, hcr.setCell (.inr rfl) _⟩
      case measure => simp [intOf]; omega
    · go_wp2_with fail
      go_ret2
      exact writes_same hw ((C1.mono (T := fun k => w.heap.size ≤ k) fun _ _ h => h.elim).trans hcr fun q hq h => by omega)

/-- ONE STEP, WHATEVER ITS KIND. -/
theorem writes_any (pb : Nat) (v hv x : Value) (T : TypeId) (k0 wh m n : Int) (l b : List UInt8) (w : World) (hw : WPre w pb v T hv x l b) (hn0 : 0 ≤ n) (hn1 : n ≤ 18446744073709551615) (hl : l.length ≤ 900000000) (hb : b.length ≤ 900000000) :
    Calls Try.prog 8 #[.pointer (some ⟨pb, 0, none⟩), hv, .agg #[.int .i64 k0, .int .i64 wh, .int .i64 m, .int .u64 n, x]] w (WPost w pb v T hv l (opB k0 n b)) := by
  by_cases h1 : k0 = 1
  · subst h1; exact writes_u8 pb v hv x T wh m n l b w hw hn0 hn1 hl hb
  by_cases h2 : k0 = 2
  · subst h2; exact writes_u32 pb v hv x T wh m n l b w hw hn0 hn1 hl hb
  by_cases h3 : k0 = 3
  · subst h3; exact writes_u64 pb v hv x T wh m n l b w hw hn0 hn1 hl hb
  by_cases h4 : k0 = 4
  · subst h4; exact writes_var pb v hv x T wh m n l b w hw hn0 hn1 hl hb
  by_cases h5 : k0 = 5
  · subst h5; exact writes_bytes pb v hv x T wh m n l b w hw hn0 hn1 hl hb
  by_cases h6 : k0 = 6
  · subst h6; exact writes_raw pb v hv x T wh m n l b w hw hn0 hn1 hl hb
  have e : opB k0 n b = [] := by simp [opB, h1, h2, h3, h4, h5, h6]
  rw [e]
  by_cases h7 : k0 = 7
  · subst h7; exact writes_len pb v hv x T wh m n l b w hw hl hb
  by_cases h8 : k0 = 8
  · subst h8; exact writes_out pb v hv x T wh m n l b w hw hl hb
  exact writes_none pb v hv x T k0 wh m n l b w hw (by omega) hl hb
end Go.Proofs.Ytnfmeaifbankjaa
