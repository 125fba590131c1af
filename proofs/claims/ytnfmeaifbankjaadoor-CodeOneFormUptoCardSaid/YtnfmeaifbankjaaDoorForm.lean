import Derived.Test.YtnfmeaifbankjaaDoorFormLaw
import Derived.Test.YtnfmeaifbankjaaDoorPairs
set_option linter.unusedVariables false
namespace Go.Sat
open Go Go.RowKit
/-- The first part of a slice of bytes that reads. -/
theorem wpl_upto {P : Program} {ops : Array Oper} {rest : List Oper} {o : Oper} {a : Act} {Q : Exit → Act → World → Prop} {w : World} (hw : Region.wanted o (yielded ops a.tmps) = true) (t : TypeId) (x hi : Operand)
    (ho : o.op = .slice t x none (some hi) none) {e : TypeId} (ht : P.underlying t = some (.slice e)) (hsz : ∀ w, (sizeOf e).run P w = .ok 1 w) {ao : Option Addr} {n c : Nat} {l : List UInt8} (hx : a.eval x = .slice ao n c) (hr : Rd w (.slice ao n c) l)
    {j : Int} (h0 : Nat) (hhi : a.eval hi = .int .i64 j) (hj0 : j = h0) (h2 : h0 ≤ l.length)
    (h : ∀ y, Rd w y (l.take h0) → wpList P ops Q rest (a.put o.dst y) w) : wpList P ops Q (o :: rest) a w := by
  subst hj0
  have hp := hr.part (Nat.zero_le h0) h2
  have hc : l.length ≤ c ∧ n = l.length := by
    obtain ⟨ao', c', e1, e2⟩ := hr.form
    injection e1 with e3 e4 e5
    omega
  have he : P.elem t = e := by simp [Program.elem, ht]
  have hrun : (Instr.slice t (.slice ao n c) none (some (.int .i64 (h0 : Int))) none).run P w = .ok (.slice (ao.map fun a => if c = 0 then a else a.add 0) (h0 - 0) (c - 0)) w := by
    rw [run_slice_h w t ao n c (by rw [he]; exact ht) .i64 h0 (by omega) (by omega), he, hsz]
    simp [sliced]
    split
    · cases ao <;> rfl
    · rfl
  have hrun2 : (Instr.sliceAt t (.slice ao n c) none (some (.int .i64 (h0 : Int))) none).run P w = .ok (.slice (ao.map fun a => if c = 0 then a else a.add 0) (h0 - 0) (c - 0)) w := by
    rw [run_sliceAt_slice _ _ _ _ _ _ (by rw [he]; exact ht)]; exact hrun
  refine BigFrame.wpList_want hw fun K hK => ?_
  unfold Oper.wp execOp
  have := hK _ _ (h _ (by simpa using hp))
  simpa [ho, hhi, hx, hrun2, Oper.upon] using this
end Go.Sat
namespace Go.Proofs.YtnfmeaifbankjaaDoor
open Go Go.RowKit Go.Sat
/-- A Reader and a Writer, apart. -/
structure RW (w : World) (pr : Nat) (vr : Value) (Tr : TypeId) (s : RS) (pw : Nat) (vw : Value) (T : TypeId) (l : List UInt8) : Prop where
  r : IsR w pr vr Tr met s
  wr : IsW w pw vw T l
  ne : pr ≠ pw
  rw : ∀ k, rdb vr = some k → k ≠ pw ∧ vw.ownBlock ≠ some k
  wp : vw.ownBlock ≠ some pr
section
variable {w w1 w2 : World} {pr : Nat} {vr : Value} {Tr : TypeId} {s s' : RS} {pw : Nat} {vw : Value} {T : TypeId} {l l2 : List UInt8}
theorem RW.calm (h : RW w pr vr Tr s pw vw T l) (hc : Chg (fun _ => False) w w1) : RW w1 pr vr Tr s pw vw T l := ⟨h.r.calm hc, h.wr.kept hc id fun _ _ => id, h.ne, h.rw, h.wp⟩
/-- The Writer, behind the Reader's step. -/
theorem RW.wrr (h : RW w pr vr Tr s pw vw T l) (hc : Chg (fun k => k = pr) w w1) : IsW w1 pw vw T l := h.wr.kept hc (fun e => h.ne e.symm) fun k hk e => h.wp (by rw [hk]; exact congrArg some e)
theorem RW.step (h : RW w pr vr Tr s pw vw T l) (R1 : IsR w1 pr vr Tr met s') (C1 : Chg (fun k => k = pr) w w1) (st : WStep w1 pw vw T l l2 w2) :
    ∃ vw', RW w2 pr vr Tr s' pw vw' T (l ++ l2) ∧ Chg (fun k => k = pr ∨ k = pw ∨ vw.ownBlock = some k) w w2 ∧ ∀ k, vw'.ownBlock = some k → vw.ownBlock = some k ∨ w.heap.size ≤ k := by
  obtain ⟨vw', iw, c2, hb⟩ := st
  have hlt := h.r.blk.lt
  have hs := C1.size
  refine ⟨vw', ⟨R1.kept c2 (fun e => ?_) (fun k hk e => ?_), iw, h.ne, fun k hk => ⟨(h.rw k hk).1, fun e => ?_⟩, fun e => ?_⟩, (C1.mono fun _ _ h => .inl h).trans c2 fun _ _ h => .inr h, fun k hk => (hb k hk).imp id fun h => Nat.le_trans hs h⟩
  · rcases e with e | e
    · exact h.ne e
    · exact h.wp e
  · rcases e with e | e
    · exact (h.rw k hk).1 e
    · exact (h.rw k hk).2 e
  · rcases hb k e with e | e
    · exact (h.rw k hk).2 e
    · have := Rd.lt h.r.rd hk; omega
  · rcases hb _ e with e | e
    · exact h.wp e
    · omega
end
/-- What again does. -/
def AgPost (w : World) (pr : Nat) (vr : Value) (Tr : TypeId) (pw : Nat) (vw : Value) (T : TypeId) (s' : RS) (l l2 : List UInt8) (e : Ending) (w' : World) : Prop :=
  e = .returned (.tuple #[]) ∧ ∃ vw', RW w' pr vr Tr s' pw vw' T (l ++ l2) ∧ Chg (fun k => k = pr ∨ k = pw ∨ vw.ownBlock = some k) w w' ∧ ∀ k, vw'.ownBlock = some k → vw.ownBlock = some k ∨ w.heap.size ≤ k
theorem AgPost.after {w w0 w' : World} {pr : Nat} {vr : Value} {Tr : TypeId} {s' : RS} {pw : Nat} {vw : Value} {T : TypeId} {l l2 : List UInt8} {e : Ending} (hc : Chg (fun _ => False) w w0) (h : AgPost w0 pr vr Tr pw vw T s' l l2 e w') : AgPost w pr vr Tr pw vw T s' l l2 e w' := by
  obtain ⟨h1, vw', h2, h3, h4⟩ := h
  exact ⟨h1, vw', h2, (hc.mono fun _ _ h => h.elim).trans h3 fun _ _ h => h, fun k hk => (h4 k hk).imp id fun h => Nat.le_trans hc.size h⟩
set_option maxRecDepth 100000 in
set_option maxHeartbeats 800000 in
theorem again_1 (pr pw : Nat) (vr vw x : Value) (Tr T : TypeId) (s : RS) (l : List UInt8) (wh m n : Int) (w : World) (hp : RW w pr vr Tr s pw vw T l) (hsl : s.l.length ≤ 2000000) (hl : l.length ≤ 2000000) (hm : -9223372036854775808 ≤ m ∧ m ≤ 9223372036854775807) (hn : 0 ≤ n ∧ n ≤ 18446744073709551615) :
    Calls Tryd.prog 37 #[.pointer (some ⟨pr, 0, none⟩), .pointer (some ⟨pw, 0, none⟩), .agg #[.int .i64 1, .int .i64 wh, .int .i64 m, .int .u64 n, x]] w (AgPost w pr vr Tr pw vw T (s.agS 1 m n) l (s.agW 1 m n)) := by
  obtain ⟨N, rfl⟩ := Int.eq_ofNat_of_zero_le hn.1
  have cbox := (Chg.refl (fun _ => False) w).alloc (.cells #[.int .i64 1, .int .i64 wh, .int .i64 m, .int .u64 N, x] 39)
  have hp0 := hp.calm cbox
  have hok := hp.r.ok
  have HP := Lib.hid hp0
  have hf1 := RS.fixed_lt s 1
  have hf4 := RS.fixed_lt s 4
  have hf8 := RS.fixed_lt s 8
  have hvv := (RS.var_ok hok N).2.1
  have htl := RS.text_len s m
  have hrl := RS.raw_len s (m % 20)
  clear hp hp0
  go_enter Tryd.func37, Tryd.ntmps37
  go_wp2_with fail
  refine (rdu8_any pr vr Tr s _ HP.out.r).mono ?_
  rintro e w1 ⟨rfl, R1, C1⟩
  go_wp2_with fail
  refine (u8_any pw vw T ((s.fixed 1).1 : Int) l _ (HP.out.wrr C1) (by omega) (by omega) (by omega)).mono ?_
  rintro e w2 ⟨rfl, st⟩
  go_wp2_with fail
  go_end0
  refine AgPost.after cbox ⟨rfl, ?_⟩
  have q := HP.out.step R1 C1 st
  simpa [RS.agS, RS.agW] using q
set_option maxRecDepth 100000 in
set_option maxHeartbeats 800000 in
theorem again_2 (pr pw : Nat) (vr vw x : Value) (Tr T : TypeId) (s : RS) (l : List UInt8) (wh m n : Int) (w : World) (hp : RW w pr vr Tr s pw vw T l) (hsl : s.l.length ≤ 2000000) (hl : l.length ≤ 2000000) (hm : -9223372036854775808 ≤ m ∧ m ≤ 9223372036854775807) (hn : 0 ≤ n ∧ n ≤ 18446744073709551615) :
    Calls Tryd.prog 37 #[.pointer (some ⟨pr, 0, none⟩), .pointer (some ⟨pw, 0, none⟩), .agg #[.int .i64 2, .int .i64 wh, .int .i64 m, .int .u64 n, x]] w (AgPost w pr vr Tr pw vw T (s.agS 2 m n) l (s.agW 2 m n)) := by
  obtain ⟨N, rfl⟩ := Int.eq_ofNat_of_zero_le hn.1
  have cbox := (Chg.refl (fun _ => False) w).alloc (.cells #[.int .i64 2, .int .i64 wh, .int .i64 m, .int .u64 N, x] 39)
  have hp0 := hp.calm cbox
  have hok := hp.r.ok
  have HP := Lib.hid hp0
  have hf1 := RS.fixed_lt s 1
  have hf4 := RS.fixed_lt s 4
  have hf8 := RS.fixed_lt s 8
  have hvv := (RS.var_ok hok N).2.1
  have htl := RS.text_len s m
  have hrl := RS.raw_len s (m % 20)
  clear hp hp0
  go_enter Tryd.func37, Tryd.ntmps37
  go_wp2_with fail
  refine (rdu32_any pr vr Tr s _ HP.out.r).mono ?_
  rintro e w1 ⟨rfl, R1, C1⟩
  go_wp2_with fail
  refine (u32_any pw vw T ((s.fixed 4).1 : Int) l _ (HP.out.wrr C1) (by omega) (by omega) (by omega)).mono ?_
  rintro e w2 ⟨rfl, st⟩
  go_wp2_with fail
  go_end0
  refine AgPost.after cbox ⟨rfl, ?_⟩
  have q := HP.out.step R1 C1 st
  simpa [RS.agS, RS.agW] using q
set_option maxRecDepth 100000 in
set_option maxHeartbeats 800000 in
theorem again_3 (pr pw : Nat) (vr vw x : Value) (Tr T : TypeId) (s : RS) (l : List UInt8) (wh m n : Int) (w : World) (hp : RW w pr vr Tr s pw vw T l) (hsl : s.l.length ≤ 2000000) (hl : l.length ≤ 2000000) (hm : -9223372036854775808 ≤ m ∧ m ≤ 9223372036854775807) (hn : 0 ≤ n ∧ n ≤ 18446744073709551615) :
    Calls Tryd.prog 37 #[.pointer (some ⟨pr, 0, none⟩), .pointer (some ⟨pw, 0, none⟩), .agg #[.int .i64 3, .int .i64 wh, .int .i64 m, .int .u64 n, x]] w (AgPost w pr vr Tr pw vw T (s.agS 3 m n) l (s.agW 3 m n)) := by
  obtain ⟨N, rfl⟩ := Int.eq_ofNat_of_zero_le hn.1
  have cbox := (Chg.refl (fun _ => False) w).alloc (.cells #[.int .i64 3, .int .i64 wh, .int .i64 m, .int .u64 N, x] 39)
  have hp0 := hp.calm cbox
  have hok := hp.r.ok
  have HP := Lib.hid hp0
  have hf1 := RS.fixed_lt s 1
  have hf4 := RS.fixed_lt s 4
  have hf8 := RS.fixed_lt s 8
  have hvv := (RS.var_ok hok N).2.1
  have htl := RS.text_len s m
  have hrl := RS.raw_len s (m % 20)
  clear hp hp0
  go_enter Tryd.func37, Tryd.ntmps37
  go_wp2_with fail
  refine (rdu64_any pr vr Tr s _ HP.out.r).mono ?_
  rintro e w1 ⟨rfl, R1, C1⟩
  go_wp2_with fail
  refine (u64_any pw vw T ((s.fixed 8).1 : Int) l _ (HP.out.wrr C1) (by omega) (by omega) (by omega)).mono ?_
  rintro e w2 ⟨rfl, st⟩
  go_wp2_with fail
  go_end0
  refine AgPost.after cbox ⟨rfl, ?_⟩
  have q := HP.out.step R1 C1 st
  simpa [RS.agS, RS.agW] using q
set_option maxRecDepth 100000 in
set_option maxHeartbeats 800000 in
theorem again_4 (pr pw : Nat) (vr vw x : Value) (Tr T : TypeId) (s : RS) (l : List UInt8) (wh m n : Int) (w : World) (hp : RW w pr vr Tr s pw vw T l) (hsl : s.l.length ≤ 2000000) (hl : l.length ≤ 2000000) (hm : -9223372036854775808 ≤ m ∧ m ≤ 9223372036854775807) (hn : 0 ≤ n ∧ n ≤ 18446744073709551615) :
    Calls Tryd.prog 37 #[.pointer (some ⟨pr, 0, none⟩), .pointer (some ⟨pw, 0, none⟩), .agg #[.int .i64 4, .int .i64 wh, .int .i64 m, .int .u64 n, x]] w (AgPost w pr vr Tr pw vw T (s.agS 4 m n) l (s.agW 4 m n)) := by
  obtain ⟨N, rfl⟩ := Int.eq_ofNat_of_zero_le hn.1
  have cbox := (Chg.refl (fun _ => False) w).alloc (.cells #[.int .i64 4, .int .i64 wh, .int .i64 m, .int .u64 N, x] 39)
  have hp0 := hp.calm cbox
  have hok := hp.r.ok
  have HP := Lib.hid hp0
  have hf1 := RS.fixed_lt s 1
  have hf4 := RS.fixed_lt s 4
  have hf8 := RS.fixed_lt s 8
  have hvv := (RS.var_ok hok N).2.1
  have htl := RS.text_len s m
  have hrl := RS.raw_len s (m % 20)
  clear hp hp0
  go_enter Tryd.func37, Tryd.ntmps37
  go_wp2_with fail
  refine (rdvar_any pr vr Tr s N _ HP.out.r (by omega)).mono ?_
  rintro e w1 ⟨rfl, R1, C1⟩
  go_wp2_with fail
  refine (var_any pw vw T ((s.var N).1 : Int) l _ (HP.out.wrr C1) (by omega) (by omega) (by omega)).mono ?_
  rintro e w2 ⟨rfl, st⟩
  go_wp2_with fail
  go_end0
  refine AgPost.after cbox ⟨rfl, ?_⟩
  have q := HP.out.step R1 C1 st
  simpa [RS.agS, RS.agW] using q
set_option maxRecDepth 100000 in
set_option maxHeartbeats 800000 in
theorem again_5 (pr pw : Nat) (vr vw x : Value) (Tr T : TypeId) (s : RS) (l : List UInt8) (wh m n : Int) (w : World) (hp : RW w pr vr Tr s pw vw T l) (hsl : s.l.length ≤ 2000000) (hl : l.length ≤ 2000000) (hm : -9223372036854775808 ≤ m ∧ m ≤ 9223372036854775807) (hn : 0 ≤ n ∧ n ≤ 18446744073709551615) :
    Calls Tryd.prog 37 #[.pointer (some ⟨pr, 0, none⟩), .pointer (some ⟨pw, 0, none⟩), .agg #[.int .i64 5, .int .i64 wh, .int .i64 m, .int .u64 n, x]] w (AgPost w pr vr Tr pw vw T (s.agS 5 m n) l (s.agW 5 m n)) := by
  obtain ⟨N, rfl⟩ := Int.eq_ofNat_of_zero_le hn.1
  have cbox := (Chg.refl (fun _ => False) w).alloc (.cells #[.int .i64 5, .int .i64 wh, .int .i64 m, .int .u64 N, x] 39)
  have hp0 := hp.calm cbox
  have hok := hp.r.ok
  have HP := Lib.hid hp0
  have hf1 := RS.fixed_lt s 1
  have hf4 := RS.fixed_lt s 4
  have hf8 := RS.fixed_lt s 8
  have hvv := (RS.var_ok hok N).2.1
  have htl := RS.text_len s m
  have hrl := RS.raw_len s (m % 20)
  clear hp hp0
  go_enter Tryd.func37, Tryd.ntmps37
  go_wp2_with fail
  refine (rdbytes_any pr vr Tr s m _ HP.out.r hm).mono ?_
  rintro e w1 ⟨y, rfl, Y1, hy1, R1, C1⟩
  have hpl := (HP.out.wr).own.lt
  have hpw := (Array.getElem?_eq_some_iff.1 HP.out.wr.blk).1
  have hsep : ∀ k, rdb y = some k → k ≠ pw ∧ vw.ownBlock ≠ some k := fun k hk => by
    have h1 := hy1 k (rdb_own hk)
    exact ⟨by omega, fun e => by have := hpl k e; omega⟩
  obtain ⟨ya, yc, rfl, _⟩ := Y1.form
  go_wp2_with fail
  refine (wbytes_any pw vw _ T l _ _ (HP.out.wrr C1) (Own.rd Y1) hsep (by omega) (by omega)).mono ?_
  rintro e w2 ⟨rfl, st⟩
  go_wp2_with fail
  go_end0
  refine AgPost.after cbox ⟨rfl, ?_⟩
  have q := HP.out.step R1 C1 st
  simpa [RS.agS, RS.agW] using q
set_option maxRecDepth 100000 in
set_option maxHeartbeats 800000 in
theorem again_6 (pr pw : Nat) (vr vw x : Value) (Tr T : TypeId) (s : RS) (l : List UInt8) (wh m n : Int) (w : World) (hp : RW w pr vr Tr s pw vw T l) (hsl : s.l.length ≤ 2000000) (hl : l.length ≤ 2000000) (hm : -9223372036854775808 ≤ m ∧ m ≤ 9223372036854775807) (hn : 0 ≤ n ∧ n ≤ 18446744073709551615) :
    Calls Tryd.prog 37 #[.pointer (some ⟨pr, 0, none⟩), .pointer (some ⟨pw, 0, none⟩), .agg #[.int .i64 6, .int .i64 wh, .int .i64 m, .int .u64 n, x]] w (AgPost w pr vr Tr pw vw T (s.agS 6 m n) l (s.agW 6 m n)) := by
  obtain ⟨N, rfl⟩ := Int.eq_ofNat_of_zero_le hn.1
  have cbox := (Chg.refl (fun _ => False) w).alloc (.cells #[.int .i64 6, .int .i64 wh, .int .i64 m, .int .u64 N, x] 39)
  have hp0 := hp.calm cbox
  have hok := hp.r.ok
  have HP := Lib.hid hp0
  have hf1 := RS.fixed_lt s 1
  have hf4 := RS.fixed_lt s 4
  have hf8 := RS.fixed_lt s 8
  have hvv := (RS.var_ok hok N).2.1
  have htl := RS.text_len s m
  have hrl := RS.raw_len s (m % 20)
  clear hp hp0
  go_enter Tryd.func37, Tryd.ntmps37
  go_wp2_with fail
  refine (into_any m 20 _ (by omega) (by omega) hm).mono ?_
  rintro e w0 ⟨rfl, rfl⟩
  go_wp2_with fail
  refine (rdraw_any pr vr Tr s (m % 20) _ HP.out.r).mono ?_
  rintro e w1 ⟨y, rfl, Y1, hy1, R1, C1⟩
  have hpl := (HP.out.wr).own.lt
  have hpw := (Array.getElem?_eq_some_iff.1 HP.out.wr.blk).1
  have hsep : ∀ k, rdb y = some k → k ≠ pw ∧ vw.ownBlock ≠ some k := fun k hk => by
    have h1 := hy1 k (rdb_own hk)
    exact ⟨by omega, fun e => by have := hpl k e; omega⟩
  obtain ⟨ya, yc, rfl, _⟩ := Y1.form
  go_wp2_with fail
  refine (raw_any pw vw _ T l _ _ (HP.out.wrr C1) (Own.rd Y1) (by omega) (by omega)).mono ?_
  rintro e w2 ⟨rfl, st⟩
  go_wp2_with fail
  go_end0
  refine AgPost.after cbox ⟨rfl, ?_⟩
  have q := HP.out.step R1 C1 st
  simpa [RS.agS, RS.agW] using q
set_option maxRecDepth 100000 in
set_option maxHeartbeats 800000 in
theorem again_any (pr pw : Nat) (vr vw x : Value) (Tr T : TypeId) (s : RS) (l : List UInt8) (k wh m n : Int) (w : World) (hp : RW w pr vr Tr s pw vw T l) (hsl : s.l.length ≤ 2000000) (hl : l.length ≤ 2000000) (hm : -9223372036854775808 ≤ m ∧ m ≤ 9223372036854775807) (hn : 0 ≤ n ∧ n ≤ 18446744073709551615) :
    Calls Tryd.prog 37 #[.pointer (some ⟨pr, 0, none⟩), .pointer (some ⟨pw, 0, none⟩), .agg #[.int .i64 k, .int .i64 wh, .int .i64 m, .int .u64 n, x]] w (AgPost w pr vr Tr pw vw T (s.agS k m n) l (s.agW k m n)) := by
  rcases (by omega : k = 1 ∨ k = 2 ∨ k = 3 ∨ k = 4 ∨ k = 5 ∨ k = 6 ∨ (k < 1 ∨ 6 < k)) with rfl | rfl | rfl | rfl | rfl | rfl | h
  · exact again_1 pr pw vr vw x Tr T s l wh m n w hp hsl hl hm hn
  · exact again_2 pr pw vr vw x Tr T s l wh m n w hp hsl hl hm hn
  · exact again_3 pr pw vr vw x Tr T s l wh m n w hp hsl hl hm hn
  · exact again_4 pr pw vr vw x Tr T s l wh m n w hp hsl hl hm hn
  · exact again_5 pr pw vr vw x Tr T s l wh m n w hp hsl hl hm hn
  · exact again_6 pr pw vr vw x Tr T s l wh m n w hp hsl hl hm hn
  · have cbox := (Chg.refl (fun _ => False) w).alloc (.cells #[.int .i64 k, .int .i64 wh, .int .i64 m, .int .u64 n, x] 39)
    have hp0 := hp.calm cbox
    have z1 : (k == 1) = false := by simp; omega
    have z2 : (k == 2) = false := by simp; omega
    have z3 : (k == 3) = false := by simp; omega
    have z4 : (k == 4) = false := by simp; omega
    have z5 : (k == 5) = false := by simp; omega
    have z6 : (k == 6) = false := by simp; omega
    have e0 : s.agS k m n = s := by
      unfold RS.agS
      rw [if_neg (by omega), if_neg (by omega), if_neg (by omega), if_neg (by omega), if_neg (by omega), if_neg (by omega)]
    have e1 : s.agW k m n = [] := by
      unfold RS.agW
      rw [if_neg (by omega), if_neg (by omega), if_neg (by omega), if_neg (by omega), if_neg (by omega), if_neg (by omega)]
    rw [e0, e1]
    have HP := Lib.hid hp0
    clear hp hp0
    go_enter Tryd.func37, Tryd.ntmps37
    go_wp2_with fail
    go_end0
    exact AgPost.after cbox ⟨rfl, vw, by simpa using HP.out, Chg.refl _ _, fun k hk => .inl hk⟩
end Go.Proofs.YtnfmeaifbankjaaDoor
