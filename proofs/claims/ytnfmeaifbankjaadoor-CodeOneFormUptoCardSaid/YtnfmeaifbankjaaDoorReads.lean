import Derived.Test.YtnfmeaifbankjaaDoorEyeD
import Derived.Test.YtnfmeaifbankjaaDoorPin
set_option linter.unusedVariables false
namespace Go.Proofs.YtnfmeaifbankjaaDoor
open Go Go.RowKit Go.Sat

/-- A Reader and an Eye over the same bytes, at the same place, that have met the same. -/
structure Pair (w : World) (pb : Nat) (v : Value) (T : TypeId) (eb : Nat) (ev : Value) (ET : TypeId) (s : RS) : Prop where
  r : IsR w pb v T met s
  e : IsR w eb ev ET errO s
  ne : pb ≠ eb
  rv : ∀ k, rdb v = some k → k ≠ eb
  ee : ∀ k, rdb ev = some k → k ≠ pb
  z : pb ≠ 0 ∧ eb ≠ 0
  tab : Errnos w
section
variable {w w0 w1 w2 : World} {pb eb : Nat} {v ev : Value} {T ET : TypeId} {s s' : RS}
theorem Pair.kept {S : Nat → Prop} (h : Pair w pb v T eb ev ET s) (hc : Chg S w w1) (hS : ∀ k, (k = pb ∨ k = eb ∨ k = 0 ∨ rdb v = some k ∨ rdb ev = some k) → ¬ S k) : Pair w1 pb v T eb ev ET s :=
  ⟨h.r.kept hc (hS _ (.inl rfl)) (fun k hk => hS k (.inr (.inr (.inr (.inl hk))))), h.e.kept hc (hS _ (.inr (.inl rfl))) (fun k hk => hS k (.inr (.inr (.inr (.inr hk))))), h.ne, h.rv, h.ee, h.z, h.tab.kept hc (hS _ (.inr (.inr (.inl rfl))))⟩
theorem Pair.calm (h : Pair w pb v T eb ev ET s) (hc : Chg (fun _ => False) w w1) : Pair w1 pb v T eb ev ET s := h.kept hc fun _ _ => id
/-- The Eye, behind the Reader's step. -/
theorem Pair.eye (h : Pair w pb v T eb ev ET s) (hc : Chg (fun k => k = pb) w w1) : IsR w1 eb ev ET errO s := h.e.kept hc (fun e => h.ne e.symm) h.ee
theorem Pair.table (h : Pair w pb v T eb ev ET s) (hc : Chg (fun k => k = pb) w w1) : Errnos w1 := h.tab.kept hc (fun e => h.z.1 e.symm)
theorem Pair.next (h : Pair w pb v T eb ev ET s) (R1 : IsR w1 pb v T met s') (C1 : Chg (fun k => k = pb) w w1) (E2 : IsR w2 eb ev ET errO s') (C2 : Chg (fun k => k = eb) w1 w2) :
    Pair w2 pb v T eb ev ET s' ∧ Chg (fun k => k = pb ∨ k = eb) w w2 :=
  ⟨⟨R1.kept C2 h.ne h.rv, E2, h.ne, h.rv, h.ee, h.z, (h.table C1).kept C2 (fun e => h.z.2 e.symm)⟩, (C1.mono fun _ _ h => .inl h).trans C2 fun _ _ h => .inr h⟩
end
theorem RS.raw_l (s : RS) (n : Int) : (s.raw n).2.l = s.l := by
  unfold RS.raw
  split
  · rfl
  · exact RS.next_l s n
theorem RS.var_l (s : RS) (most : Nat) : (s.var most).2.l = s.l := by
  unfold RS.var
  split
  · rfl
  · cases vr s.look most <;> rfl
theorem RS.text_l (s : RS) (most : Int) : (s.text most).2.l = s.l := by
  unfold RS.text
  simp only
  split
  · rfl
  · rw [RS.next_l, RS.var_l]
/-- What one step of reads does. -/
def RdsPost (w : World) (pb : Nat) (v : Value) (T : TypeId) (eb : Nat) (ev : Value) (ET : TypeId) (s : RS) (e : Ending) (w' : World) : Prop :=
  e = .returned (.bool true) ∧ ∃ s', s'.l = s.l ∧ Pair w' pb v T eb ev ET s' ∧ Chg (fun k => k = pb ∨ k = eb) w w'
theorem RS.text_len (s : RS) (most : Int) : (s.text most).1.length ≤ s.l.length := by
  unfold RS.text
  simp only
  split
  · simp
  · have := RS.next_len (s.var (max 0 most).toNat).2 (s.var (max 0 most).toNat).1
    rw [RS.var_l] at this
    exact this
theorem RS.raw_len (s : RS) (n : Int) : (s.raw n).1.length ≤ s.l.length := by
  unfold RS.raw
  split
  · simp
  · exact RS.next_len s n

set_option maxRecDepth 100000 in
set_option maxHeartbeats 800000 in
theorem reads_u8 (pb eb : Nat) (v ev x : Value) (T ET : TypeId) (s : RS) (wh m n : Int) (w : World) (hp : Pair w pb v T eb ev ET s) (hm : -9223372036854775808 ≤ m ∧ m ≤ 9223372036854775807) (hn : 0 ≤ n ∧ n ≤ 18446744073709551615) :
    Calls Tryd.prog 14 #[.pointer (some ⟨pb, 0, none⟩), .pointer (some ⟨eb, 0, none⟩), .agg #[.int .i64 1, .int .i64 wh, .int .i64 m, .int .u64 n, x]] w (RdsPost w pb v T eb ev ET s) := by
  have cbox := (Chg.refl (fun _ => False) w).alloc (.cells #[.int .i64 1, .int .i64 wh, .int .i64 m, .int .u64 n, x] 39)
  have B0 := Blk.new w 39 #[.int .i64 1, .int .i64 wh, .int .i64 m, .int .u64 n, x]
  have hp0 := hp.calm cbox
  have HP0 := Lib.hid hp0
  have hpb := hp.r.blk.lt
  have heb := hp.e.blk.lt
  clear hp hp0
  go_enter Tryd.func14, Tryd.ntmps14
  go_wp2_with fail
  refine (rdu8_any pb v T s _ HP0.out.r).mono ?_
  rintro e w1 ⟨rfl, R1, C1⟩
  go_wp2_with fail
  refine (eu8_any eb ev ET s _ (HP0.out.eye C1)).mono ?_
  rintro e w2 ⟨rfl, E2, C2⟩
  go_wp2_with fail
  go_ret
  obtain ⟨q1, q2⟩ := HP0.out.next R1 C1 E2 C2
  exact ⟨rfl, _, RS.next_l s 1, q1, (cbox.mono fun _ _ h => h.elim).trans q2 fun _ _ h => h⟩

set_option maxRecDepth 100000 in
set_option maxHeartbeats 800000 in
theorem reads_u32 (pb eb : Nat) (v ev x : Value) (T ET : TypeId) (s : RS) (wh m n : Int) (w : World) (hp : Pair w pb v T eb ev ET s) (hm : -9223372036854775808 ≤ m ∧ m ≤ 9223372036854775807) (hn : 0 ≤ n ∧ n ≤ 18446744073709551615) :
    Calls Tryd.prog 14 #[.pointer (some ⟨pb, 0, none⟩), .pointer (some ⟨eb, 0, none⟩), .agg #[.int .i64 2, .int .i64 wh, .int .i64 m, .int .u64 n, x]] w (RdsPost w pb v T eb ev ET s) := by
  have cbox := (Chg.refl (fun _ => False) w).alloc (.cells #[.int .i64 2, .int .i64 wh, .int .i64 m, .int .u64 n, x] 39)
  have B0 := Blk.new w 39 #[.int .i64 2, .int .i64 wh, .int .i64 m, .int .u64 n, x]
  have hp0 := hp.calm cbox
  have HP0 := Lib.hid hp0
  have hpb := hp.r.blk.lt
  have heb := hp.e.blk.lt
  clear hp hp0
  go_enter Tryd.func14, Tryd.ntmps14
  go_wp2_with fail
  refine (rdu32_any pb v T s _ HP0.out.r).mono ?_
  rintro e w1 ⟨rfl, R1, C1⟩
  go_wp2_with fail
  refine (eu32_any eb ev ET s _ (HP0.out.eye C1)).mono ?_
  rintro e w2 ⟨rfl, E2, C2⟩
  go_wp2_with fail
  go_ret
  obtain ⟨q1, q2⟩ := HP0.out.next R1 C1 E2 C2
  exact ⟨rfl, _, RS.next_l s 4, q1, (cbox.mono fun _ _ h => h.elim).trans q2 fun _ _ h => h⟩

set_option maxRecDepth 100000 in
set_option maxHeartbeats 800000 in
theorem reads_u64 (pb eb : Nat) (v ev x : Value) (T ET : TypeId) (s : RS) (wh m n : Int) (w : World) (hp : Pair w pb v T eb ev ET s) (hm : -9223372036854775808 ≤ m ∧ m ≤ 9223372036854775807) (hn : 0 ≤ n ∧ n ≤ 18446744073709551615) :
    Calls Tryd.prog 14 #[.pointer (some ⟨pb, 0, none⟩), .pointer (some ⟨eb, 0, none⟩), .agg #[.int .i64 3, .int .i64 wh, .int .i64 m, .int .u64 n, x]] w (RdsPost w pb v T eb ev ET s) := by
  have cbox := (Chg.refl (fun _ => False) w).alloc (.cells #[.int .i64 3, .int .i64 wh, .int .i64 m, .int .u64 n, x] 39)
  have B0 := Blk.new w 39 #[.int .i64 3, .int .i64 wh, .int .i64 m, .int .u64 n, x]
  have hp0 := hp.calm cbox
  have HP0 := Lib.hid hp0
  have hpb := hp.r.blk.lt
  have heb := hp.e.blk.lt
  clear hp hp0
  go_enter Tryd.func14, Tryd.ntmps14
  go_wp2_with fail
  refine (rdu64_any pb v T s _ HP0.out.r).mono ?_
  rintro e w1 ⟨rfl, R1, C1⟩
  go_wp2_with fail
  refine (eu64_any eb ev ET s _ (HP0.out.eye C1)).mono ?_
  rintro e w2 ⟨rfl, E2, C2⟩
  go_wp2_with fail
  go_ret
  obtain ⟨q1, q2⟩ := HP0.out.next R1 C1 E2 C2
  exact ⟨rfl, _, RS.next_l s 8, q1, (cbox.mono fun _ _ h => h.elim).trans q2 fun _ _ h => h⟩

set_option maxRecDepth 100000 in
set_option maxHeartbeats 800000 in
theorem reads_var (pb eb : Nat) (v ev x : Value) (T ET : TypeId) (s : RS) (wh m n : Int) (w : World) (hp : Pair w pb v T eb ev ET s) (hm : -9223372036854775808 ≤ m ∧ m ≤ 9223372036854775807) (hn : 0 ≤ n ∧ n ≤ 18446744073709551615) :
    Calls Tryd.prog 14 #[.pointer (some ⟨pb, 0, none⟩), .pointer (some ⟨eb, 0, none⟩), .agg #[.int .i64 4, .int .i64 wh, .int .i64 m, .int .u64 n, x]] w (RdsPost w pb v T eb ev ET s) := by
  obtain ⟨N, rfl⟩ := Int.eq_ofNat_of_zero_le hn.1
  have cbox := (Chg.refl (fun _ => False) w).alloc (.cells #[.int .i64 4, .int .i64 wh, .int .i64 m, .int .u64 N, x] 39)
  have B0 := Blk.new w 39 #[.int .i64 4, .int .i64 wh, .int .i64 m, .int .u64 N, x]
  have hp0 := hp.calm cbox
  have HP0 := Lib.hid hp0
  have hpb := hp.r.blk.lt
  have heb := hp.e.blk.lt
  have hlen := hp.r.len
  clear hp hp0
  have c3 : (w.alloc (.cells #[.int .i64 4, .int .i64 wh, .int .i64 m, .int .u64 N, x] 39)).cell? ⟨w.heap.size, 3, none⟩ = some (.int .u64 N) := B0.cell 3
  have hs0 : w.heap.size < (w.alloc (.cells #[.int .i64 4, .int .i64 wh, .int .i64 m, .int .u64 N, x] 39)).heap.size := by simp
  go_enter Tryd.func14, Tryd.ntmps14
  go_wp2_with fail
  generalize w.alloc (.cells #[.int .i64 4, .int .i64 wh, .int .i64 m, .int .u64 N, x] 39) = w0 at *
  refine wp_region_pin (fun _ => false) [6] [4] (Same (fun z => z = pb) w0) mixed (by kernel_rfl) (fun _ _ h e => h.ext e) (Same.refl _ _).drew ?_
  simp only [wpSegs, List.take_succ_cons, List.take_zero, List.drop_succ_cons, List.drop_zero]
  go_wp2_with fail
  have hp1 := HP0.out.calm ((Chg.refl (fun _ => False) w0).drew)
  refine (rdvar_any pb v T s N _ hp1.r (by omega)).mono ?_
  rintro e w1 ⟨rfl, R1, C1⟩
  have C1' : Chg (fun z => z = pb) w0 w1 := ((Chg.refl _ w0).drew).trans C1 fun _ _ h => h
  have k3 : w1.cell? ⟨w.heap.size, 3, none⟩ = some (.int .u64 N) := by rw [C1'.cell (p := ⟨w.heap.size, 3, none⟩) hs0 (by show ¬ w.heap.size = pb; omega)]; exact c3
  go_wp2_with fail
  refine SegQ.normal ⟨fun z o h hz => C1'.keep h hz, ?_⟩
  go_wp2_with fail
  refine (evar_any eb ev ET s N _ (hp1.eye C1) (by omega)).mono ?_
  rintro e w2 ⟨rfl, E2, C2⟩
  go_wp2_with fail
  refine TQ.normal (by kernel_rfl) ⟨⟨PinAt.cell rfl rfl rfl c3 (by show ¬ w.heap.size = pb; omega) (fun X h => by go_simp), trivial⟩, ?_⟩
  go_wp2_with fail
  go_ret
  obtain ⟨q1, q2⟩ := hp1.next R1 C1 E2 C2
  exact ⟨rfl, _, RS.var_l s N, q1, (cbox.drew.mono fun _ _ h => h.elim).trans q2 fun _ _ h => h⟩

set_option maxRecDepth 100000 in
set_option maxHeartbeats 800000 in
theorem reads_bytes (pb eb : Nat) (v ev x : Value) (T ET : TypeId) (s : RS) (wh m n : Int) (w : World) (hp : Pair w pb v T eb ev ET s) (hm : -9223372036854775808 ≤ m ∧ m ≤ 9223372036854775807) (hn : 0 ≤ n ∧ n ≤ 18446744073709551615) :
    Calls Tryd.prog 14 #[.pointer (some ⟨pb, 0, none⟩), .pointer (some ⟨eb, 0, none⟩), .agg #[.int .i64 5, .int .i64 wh, .int .i64 m, .int .u64 n, x]] w (RdsPost w pb v T eb ev ET s) := by
  have cbox := (Chg.refl (fun _ => False) w).alloc (.cells #[.int .i64 5, .int .i64 wh, .int .i64 m, .int .u64 n, x] 39)
  have B0 := Blk.new w 39 #[.int .i64 5, .int .i64 wh, .int .i64 m, .int .u64 n, x]
  have hp0 := hp.calm cbox
  have HP0 := Lib.hid hp0
  have hpb := hp.r.blk.lt
  have heb := hp.e.blk.lt
  have hlen := hp.r.len
  clear hp hp0
  have c2 : (w.alloc (.cells #[.int .i64 5, .int .i64 wh, .int .i64 m, .int .u64 n, x] 39)).cell? ⟨w.heap.size, 2, none⟩ = some (.int .i64 m) := B0.cell 2
  have hs0 : w.heap.size < (w.alloc (.cells #[.int .i64 5, .int .i64 wh, .int .i64 m, .int .u64 n, x] 39)).heap.size := by simp
  go_enter Tryd.func14, Tryd.ntmps14
  go_wp2_with fail
  generalize w.alloc (.cells #[.int .i64 5, .int .i64 wh, .int .i64 m, .int .u64 n, x] 39) = w0 at *
  refine wp_region_pin (fun _ => false) [6] [4] (Same (fun z => z = pb) w0) mixed (by kernel_rfl) (fun _ _ h e => h.ext e) (Same.refl _ _).drew ?_
  simp only [wpSegs, List.take_succ_cons, List.take_zero, List.drop_succ_cons, List.drop_zero]
  go_wp2_with fail
  have hp1 := HP0.out.calm ((Chg.refl (fun _ => False) w0).drew)
  refine (rdbytes_any pb v T s m _ hp1.r hm).mono ?_
  rintro e w1 ⟨y1, rfl, Y1, hy1, R1, C1⟩
  have C1' : Chg (fun z => z = pb) w0 w1 := ((Chg.refl _ w0).drew).trans C1 fun _ _ h => h
  have k2 : w1.cell? ⟨w.heap.size, 2, none⟩ = some (.int .i64 m) := by rw [C1'.cell (p := ⟨w.heap.size, 2, none⟩) hs0 (by show ¬ w.heap.size = pb; omega)]; exact c2
  go_wp2_with fail
  refine SegQ.normal ⟨fun z o h hz => C1'.keep h hz, ?_⟩
  go_wp2_with fail
  refine (etext_any eb ev ET s m _ (hp1.eye C1) hm).mono ?_
  rintro e w2 ⟨y2, rfl, Y2, hy2, E2, C2⟩
  have hbl := RS.text_len s m
  have heb0 : eb < w0.heap.size := by omega
  go_wp2_with fail
  refine (eq_self_any y1 y2 _ _ ((Own.rd Y1).kept C2 (fun z hz e => by
    have h1 := hy1 z (rdb_own hz)
    have e : z = eb := e
    have : w0.heap.size ≤ z := h1
    omega)) (Own.rd Y2) (by omega)).mono ?_
  rintro e w3 ⟨rfl, hd3⟩
  go_wp2_with fail
  refine TQ.normal (by kernel_rfl) ⟨⟨PinAt.cell rfl rfl rfl c2 (by show ¬ w.heap.size = pb; omega) (fun X h => by go_simp), trivial⟩, ?_⟩
  go_wp2_with fail
  go_ret
  obtain ⟨q1, q2⟩ := hp1.next R1 C1 E2 C2
  exact ⟨rfl, _, RS.text_l s m, q1.calm (hd3.chg _), ((cbox.drew.mono fun _ _ h => h.elim).trans q2 fun _ _ h => h).trans (hd3.chg (fun _ => False)) fun _ _ h => h.elim⟩

set_option maxRecDepth 100000 in
set_option maxHeartbeats 800000 in
theorem reads_raw (pb eb : Nat) (v ev x : Value) (T ET : TypeId) (s : RS) (wh m n : Int) (w : World) (hp : Pair w pb v T eb ev ET s) (hm : -9223372036854775808 ≤ m ∧ m ≤ 9223372036854775807) (hn : 0 ≤ n ∧ n ≤ 18446744073709551615) :
    Calls Tryd.prog 14 #[.pointer (some ⟨pb, 0, none⟩), .pointer (some ⟨eb, 0, none⟩), .agg #[.int .i64 6, .int .i64 wh, .int .i64 m, .int .u64 n, x]] w (RdsPost w pb v T eb ev ET s) := by
  have cbox := (Chg.refl (fun _ => False) w).alloc (.cells #[.int .i64 6, .int .i64 wh, .int .i64 m, .int .u64 n, x] 39)
  have B0 := Blk.new w 39 #[.int .i64 6, .int .i64 wh, .int .i64 m, .int .u64 n, x]
  have hp0 := hp.calm cbox
  have HP0 := Lib.hid hp0
  have hpb := hp.r.blk.lt
  have heb := hp.e.blk.lt
  have hlen := hp.r.len
  clear hp hp0
  have c2 : (w.alloc (.cells #[.int .i64 6, .int .i64 wh, .int .i64 m, .int .u64 n, x] 39)).cell? ⟨w.heap.size, 2, none⟩ = some (.int .i64 m) := B0.cell 2
  have hs0 : w.heap.size < (w.alloc (.cells #[.int .i64 6, .int .i64 wh, .int .i64 m, .int .u64 n, x] 39)).heap.size := by simp
  go_enter Tryd.func14, Tryd.ntmps14
  go_wp2_with fail
  generalize w.alloc (.cells #[.int .i64 6, .int .i64 wh, .int .i64 m, .int .u64 n, x] 39) = w0 at *
  refine wp_region_pin (fun _ => false) [6] [4] (Same (fun z => z = pb) w0) mixed (by kernel_rfl) (fun _ _ h e => h.ext e) (Same.refl _ _).drew ?_
  simp only [wpSegs, List.take_succ_cons, List.take_zero, List.drop_succ_cons, List.drop_zero]
  go_wp2_with fail
  have hp1 := HP0.out.calm ((Chg.refl (fun _ => False) w0).drew)
  refine (rdraw_any pb v T s m _ hp1.r).mono ?_
  rintro e w1 ⟨y1, rfl, Y1, hy1, R1, C1⟩
  have C1' : Chg (fun z => z = pb) w0 w1 := ((Chg.refl _ w0).drew).trans C1 fun _ _ h => h
  have k2 : w1.cell? ⟨w.heap.size, 2, none⟩ = some (.int .i64 m) := by rw [C1'.cell (p := ⟨w.heap.size, 2, none⟩) hs0 (by show ¬ w.heap.size = pb; omega)]; exact c2
  go_wp2_with fail
  refine SegQ.normal ⟨fun z o h hz => C1'.keep h hz, ?_⟩
  go_wp2_with fail
  refine (eraw_any eb ev ET s m _ (hp1.eye C1)).mono ?_
  rintro e w2 ⟨y2, rfl, Y2, hy2, E2, C2⟩
  have hbl := RS.raw_len s m
  have heb0 : eb < w0.heap.size := by omega
  go_wp2_with fail
  refine (eq_self_any y1 y2 _ _ ((Own.rd Y1).kept C2 (fun z hz e => by
    have h1 := hy1 z (rdb_own hz)
    have e : z = eb := e
    have : w0.heap.size ≤ z := h1
    omega)) (Own.rd Y2) (by omega)).mono ?_
  rintro e w3 ⟨rfl, hd3⟩
  go_wp2_with fail
  refine TQ.normal (by kernel_rfl) ⟨⟨PinAt.cell rfl rfl rfl c2 (by show ¬ w.heap.size = pb; omega) (fun X h => by go_simp), trivial⟩, ?_⟩
  go_wp2_with fail
  go_ret
  obtain ⟨q1, q2⟩ := hp1.next R1 C1 E2 C2
  exact ⟨rfl, _, RS.raw_l s m, q1.calm (hd3.chg _), ((cbox.drew.mono fun _ _ h => h.elim).trans q2 fun _ _ h => h).trans (hd3.chg (fun _ => False)) fun _ _ h => h.elim⟩

set_option maxRecDepth 100000 in
set_option maxHeartbeats 800000 in
theorem reads_left (pb eb : Nat) (v ev x : Value) (T ET : TypeId) (s : RS) (wh m n : Int) (w : World) (hp : Pair w pb v T eb ev ET s) (hm : -9223372036854775808 ≤ m ∧ m ≤ 9223372036854775807) (hn : 0 ≤ n ∧ n ≤ 18446744073709551615) :
    Calls Tryd.prog 14 #[.pointer (some ⟨pb, 0, none⟩), .pointer (some ⟨eb, 0, none⟩), .agg #[.int .i64 7, .int .i64 wh, .int .i64 m, .int .u64 n, x]] w (RdsPost w pb v T eb ev ET s) := by
  have cbox := (Chg.refl (fun _ => False) w).alloc (.cells #[.int .i64 7, .int .i64 wh, .int .i64 m, .int .u64 n, x] 39)
  have B0 := Blk.new w 39 #[.int .i64 7, .int .i64 wh, .int .i64 m, .int .u64 n, x]
  have hp0 := hp.calm cbox
  have HP0 := Lib.hid hp0
  have hpb := hp.r.blk.lt
  have heb := hp.e.blk.lt
  have hlen := hp.r.len
  clear hp hp0
  go_enter Tryd.func14, Tryd.ntmps14
  go_wp2_with fail
  refine (rleft_any pb v T met s _ HP0.out.r).mono ?_
  rintro e w1 ⟨rfl, hd1⟩
  go_wp2_with fail
  refine (eleft_any eb ev ET errO s _ (HP0.out.e.calm (hd1.chg _))).mono ?_
  rintro e w2 ⟨rfl, hd2⟩
  go_wp2_with fail
  go_ret
  have hc := (hd1.chg (fun _ => False)).trans (hd2.chg (fun _ => False)) fun _ _ h => h
  exact ⟨rfl, s, rfl, HP0.out.calm hc, (cbox.trans hc fun _ _ h => h).mono fun _ _ h => h.elim⟩

set_option maxRecDepth 100000 in
set_option maxHeartbeats 800000 in
theorem reads_at (pb eb : Nat) (v ev x : Value) (T ET : TypeId) (s : RS) (wh m n : Int) (w : World) (hp : Pair w pb v T eb ev ET s) (hm : -9223372036854775808 ≤ m ∧ m ≤ 9223372036854775807) (hn : 0 ≤ n ∧ n ≤ 18446744073709551615) :
    Calls Tryd.prog 14 #[.pointer (some ⟨pb, 0, none⟩), .pointer (some ⟨eb, 0, none⟩), .agg #[.int .i64 8, .int .i64 wh, .int .i64 m, .int .u64 n, x]] w (RdsPost w pb v T eb ev ET s) := by
  have cbox := (Chg.refl (fun _ => False) w).alloc (.cells #[.int .i64 8, .int .i64 wh, .int .i64 m, .int .u64 n, x] 39)
  have B0 := Blk.new w 39 #[.int .i64 8, .int .i64 wh, .int .i64 m, .int .u64 n, x]
  have hp0 := hp.calm cbox
  have HP0 := Lib.hid hp0
  have hpb := hp.r.blk.lt
  have heb := hp.e.blk.lt
  have hlen := hp.r.len
  clear hp hp0
  have hs0 : eb < (w.alloc (.cells #[.int .i64 8, .int .i64 wh, .int .i64 m, .int .u64 n, x] 39)).heap.size := by simp; omega
  go_enter Tryd.func14, Tryd.ntmps14
  go_wp2_with fail
  generalize w.alloc (.cells #[.int .i64 8, .int .i64 wh, .int .i64 m, .int .u64 n, x] 39) = w0 at *
  have e1 := HP0.out.e.facts.2.1
  refine wp_region_pin (fun _ => false) [5] [2] (Same (fun _ => False) w0) mixed (by kernel_rfl) (fun _ _ h e => h.ext e) (Same.refl _ _).drew ?_
  simp only [wpSegs, List.take_succ_cons, List.take_zero, List.drop_succ_cons, List.drop_zero]
  go_wp2_with fail
  have hp1 := HP0.out.calm ((Chg.refl (fun _ => False) w0).drew)
  refine (rat_any pb v T met s _ hp1.r).mono ?_
  rintro e w1 ⟨rfl, rfl⟩
  go_wp2_with fail
  refine SegQ.normal ⟨(Same.refl _ _).drew, ?_⟩
  go_wp2_with fail
  refine TQ.normal (by kernel_rfl) ⟨⟨PinAt.cell rfl rfl rfl e1 id (fun X h => by go_simp), trivial⟩, ?_⟩
  go_wp2_with fail
  go_ret
  exact ⟨rfl, s, rfl, hp1, cbox.drew.mono fun _ _ h => h.elim⟩

set_option maxRecDepth 100000 in
set_option maxHeartbeats 800000 in
theorem reads_fault (pb eb : Nat) (v ev x : Value) (T ET : TypeId) (s : RS) (wh m n : Int) (w : World) (hp : Pair w pb v T eb ev ET s) (hm : -9223372036854775808 ≤ m ∧ m ≤ 9223372036854775807) (hn : 0 ≤ n ∧ n ≤ 18446744073709551615) :
    Calls Tryd.prog 14 #[.pointer (some ⟨pb, 0, none⟩), .pointer (some ⟨eb, 0, none⟩), .agg #[.int .i64 9, .int .i64 wh, .int .i64 m, .int .u64 n, x]] w (RdsPost w pb v T eb ev ET s) := by
  have cbox := (Chg.refl (fun _ => False) w).alloc (.cells #[.int .i64 9, .int .i64 wh, .int .i64 m, .int .u64 n, x] 39)
  have B0 := Blk.new w 39 #[.int .i64 9, .int .i64 wh, .int .i64 m, .int .u64 n, x]
  have hp0 := hp.calm cbox
  have HP0 := Lib.hid hp0
  have hpb := hp.r.blk.lt
  have heb := hp.e.blk.lt
  have hlen := hp.r.len
  clear hp hp0
  go_enter Tryd.func14, Tryd.ntmps14
  go_wp2_with fail
  generalize w.alloc (.cells #[.int .i64 9, .int .i64 wh, .int .i64 m, .int .u64 n, x] 39) = w0 at *
  have e2 := HP0.out.e.facts.2.2.1
  refine wp_region_pin (fun _ => false) [6] [2, 1] (Same (fun _ => False) w0) mixed (by kernel_rfl) (fun _ _ h e => h.ext e) (Same.refl _ _).drew ?_
  simp only [wpSegs, List.take_succ_cons, List.take_zero, List.drop_succ_cons, List.drop_zero]
  go_wp2_with fail
  have hp1 := HP0.out.calm ((Chg.refl (fun _ => False) w0).drew)
  refine (rfault_any pb v T s _ hp1.r hp1.tab).mono ?_
  rintro e w1 ⟨rfl, rfl⟩
  go_wp2_with fail
  refine SegQ.normal ⟨(Same.refl _ _).drew, ?_⟩
  go_wp2_with fail
  refine (num_any _ _).mono ?_
  rintro e w1 ⟨rfl, rfl⟩
  go_wp2_with fail
  refine SegQ.normal ⟨(Same.refl _ _).drew, ?_⟩
  go_wp2_with fail
  refine TQ.normal (by kernel_rfl) ⟨⟨PinAt.cell rfl rfl rfl e2 id (fun X h => by go_simp), trivial⟩, ?_⟩
  go_wp2_with fail
  go_ret
  exact ⟨rfl, s, rfl, hp1, cbox.drew.mono fun _ _ h => h.elim⟩

set_option maxRecDepth 100000 in
set_option maxHeartbeats 800000 in
theorem reads_end (pb eb : Nat) (v ev x : Value) (T ET : TypeId) (s : RS) (wh m n : Int) (w : World) (hp : Pair w pb v T eb ev ET s) (hm : -9223372036854775808 ≤ m ∧ m ≤ 9223372036854775807) (hn : 0 ≤ n ∧ n ≤ 18446744073709551615) :
    Calls Tryd.prog 14 #[.pointer (some ⟨pb, 0, none⟩), .pointer (some ⟨eb, 0, none⟩), .agg #[.int .i64 10, .int .i64 wh, .int .i64 m, .int .u64 n, x]] w (RdsPost w pb v T eb ev ET s) := by
  have cbox := (Chg.refl (fun _ => False) w).alloc (.cells #[.int .i64 10, .int .i64 wh, .int .i64 m, .int .u64 n, x] 39)
  have B0 := Blk.new w 39 #[.int .i64 10, .int .i64 wh, .int .i64 m, .int .u64 n, x]
  have hp0 := hp.calm cbox
  have HP0 := Lib.hid hp0
  have hpb := hp.r.blk.lt
  have heb := hp.e.blk.lt
  have hlen := hp.r.len
  clear hp hp0
  go_enter Tryd.func14, Tryd.ntmps14
  go_wp2_with fail
  refine (rend_any pb v T s _ HP0.out.r HP0.out.tab).mono ?_
  rintro e w1 ⟨rfl, hd1⟩
  go_wp2_with fail
  refine (num_any _ _).mono ?_
  rintro e w1 ⟨rfl, rfl⟩
  go_wp2_with fail
  refine (eend_any eb ev ET s _ (HP0.out.e.calm (hd1.chg _))).mono ?_
  rintro e w2 ⟨rfl, hd2⟩
  go_wp2_with fail
  go_ret
  have hc := (hd1.chg (fun _ => False)).trans (hd2.chg (fun _ => False)) fun _ _ h => h
  exact ⟨rfl, s, rfl, HP0.out.calm hc, (cbox.trans hc fun _ _ h => h).mono fun _ _ h => h.elim⟩

set_option maxRecDepth 100000 in
set_option maxHeartbeats 800000 in
theorem reads_none (pb eb : Nat) (v ev x : Value) (T ET : TypeId) (s : RS) (k0 wh m n : Int) (w : World) (hp : Pair w pb v T eb ev ET s) (hm : -9223372036854775808 ≤ m ∧ m ≤ 9223372036854775807) (hn : 0 ≤ n ∧ n ≤ 18446744073709551615) (hk0 : k0 < 1 ∨ 10 < k0) :
    Calls Tryd.prog 14 #[.pointer (some ⟨pb, 0, none⟩), .pointer (some ⟨eb, 0, none⟩), .agg #[.int .i64 k0, .int .i64 wh, .int .i64 m, .int .u64 n, x]] w (RdsPost w pb v T eb ev ET s) := by
  have cbox := (Chg.refl (fun _ => False) w).alloc (.cells #[.int .i64 k0, .int .i64 wh, .int .i64 m, .int .u64 n, x] 39)
  have B0 := Blk.new w 39 #[.int .i64 k0, .int .i64 wh, .int .i64 m, .int .u64 n, x]
  have hp0 := hp.calm cbox
  have HP0 := Lib.hid hp0
  have hpb := hp.r.blk.lt
  have heb := hp.e.blk.lt
  have hlen := hp.r.len
  clear hp hp0
  have z1 : (k0 == 1) = false := by simp; omega
  have z2 : (k0 == 2) = false := by simp; omega
  have z3 : (k0 == 3) = false := by simp; omega
  have z4 : (k0 == 4) = false := by simp; omega
  have z5 : (k0 == 5) = false := by simp; omega
  have z6 : (k0 == 6) = false := by simp; omega
  have z7 : (k0 == 7) = false := by simp; omega
  have z8 : (k0 == 8) = false := by simp; omega
  have z9 : (k0 == 9) = false := by simp; omega
  have z10 : (k0 == 10) = false := by simp; omega
  go_enter Tryd.func14, Tryd.ntmps14
  go_wp2_with fail
  go_ret
  exact ⟨rfl, s, rfl, HP0.out, cbox.mono fun _ _ h => h.elim⟩

theorem reads_any (pb eb : Nat) (v ev x : Value) (T ET : TypeId) (s : RS) (k0 wh m n : Int) (w : World) (hp : Pair w pb v T eb ev ET s) (hm : -9223372036854775808 ≤ m ∧ m ≤ 9223372036854775807) (hn : 0 ≤ n ∧ n ≤ 18446744073709551615) :
    Calls Tryd.prog 14 #[.pointer (some ⟨pb, 0, none⟩), .pointer (some ⟨eb, 0, none⟩), .agg #[.int .i64 k0, .int .i64 wh, .int .i64 m, .int .u64 n, x]] w (RdsPost w pb v T eb ev ET s) := by
  rcases (by omega : k0 = 1 ∨ k0 = 2 ∨ k0 = 3 ∨ k0 = 4 ∨ k0 = 5 ∨ k0 = 6 ∨ k0 = 7 ∨ k0 = 8 ∨ k0 = 9 ∨ k0 = 10 ∨ (k0 < 1 ∨ 10 < k0)) with rfl | rfl | rfl | rfl | rfl | rfl | rfl | rfl | rfl | rfl | h
  · exact reads_u8 pb eb v ev x T ET s wh m n w hp hm hn
  · exact reads_u32 pb eb v ev x T ET s wh m n w hp hm hn
  · exact reads_u64 pb eb v ev x T ET s wh m n w hp hm hn
  · exact reads_var pb eb v ev x T ET s wh m n w hp hm hn
  · exact reads_bytes pb eb v ev x T ET s wh m n w hp hm hn
  · exact reads_raw pb eb v ev x T ET s wh m n w hp hm hn
  · exact reads_left pb eb v ev x T ET s wh m n w hp hm hn
  · exact reads_at pb eb v ev x T ET s wh m n w hp hm hn
  · exact reads_fault pb eb v ev x T ET s wh m n w hp hm hn
  · exact reads_end pb eb v ev x T ET s wh m n w hp hm hn
  · exact reads_none pb eb v ev x T ET s k0 wh m n w hp hm hn h
end Go.Proofs.YtnfmeaifbankjaaDoor
