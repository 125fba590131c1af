import Derived.Test.YtnfmeaifbankjaaDoorTurnLaw
import Derived.Test.YtnfmeaifbankjaaDoorPairs
set_option linter.unusedVariables false
namespace Go.Proofs.YtnfmeaifbankjaaDoor
open Go Go.RowKit Go.Sat
theorem WStep.after {w w1 w2 : World} {pb : Nat} {v : Value} {T : TypeId} {l l2 : List UInt8} (hc : Chg (fun _ => False) w w1) (hs : WStep w1 pb v T l l2 w2) : WStep w pb v T l l2 w2 := by
  obtain ⟨v', iw, c, hb⟩ := hs
  exact ⟨v', iw, (hc.mono fun _ _ h => h.elim).trans c fun _ _ h => h, fun k hk => (hb k hk).imp id fun h => Nat.le_trans hc.size h⟩
theorem backS_stuck (k n : Int) (b : List UInt8) (s : RS) (h : s.met ≠ 0) : s.backS k n b = s := by
  have h0 : ∀ m, s.next m = ([], s) := fun m => by unfold RS.next; rw [if_pos h]
  have hf : ∀ m, (s.fixed m).2 = s := fun m => by unfold RS.fixed; rw [h0]
  have hv : ∀ m, s.var m = (0, s) := RS.var_bad h
  unfold RS.backS
  rw [hf, hf, hf, hv]
  have ht : (s.text b.length).2 = s := by
    unfold RS.text
    rw [hv]
    simp only
    rw [if_neg (fun h2 => h h2.1), h0]
  have hr : (s.raw b.length).2 = s := by unfold RS.raw; rw [if_neg (fun h2 => h h2.1), h0]
  rw [ht, hr]
  simp
set_option maxRecDepth 100000 in
set_option maxHeartbeats 800000 in
theorem lays_1 (pb : Nat) (v x : Value) (T : TypeId) (l b : List UInt8) (wh m n : Int) (w : World) (hw : IsW w pb v T l) (hx : Rd w x b) (hsep : ∀ k, rdb x = some k → k ≠ pb ∧ v.ownBlock ≠ some k) (hl : l.length ≤ 900000000) (hb : b.length ≤ 900000000) (hn : 0 ≤ n ∧ n ≤ 18446744073709551615) :
    Calls Tryd.prog 33 #[.pointer (some ⟨pb, 0, none⟩), .agg #[.int .i64 1, .int .i64 wh, .int .i64 m, .int .u64 n, x]] w fun e w' => e = .returned (.tuple #[]) ∧ WStep w pb v T l (opT 1 n b) w' := by
  have cbox := (Chg.refl (fun _ => False) w).alloc (.cells #[.int .i64 1, .int .i64 wh, .int .i64 m, .int .u64 n, x] 39)
  have hw0 := hw.kept cbox id fun _ _ => id
  have hx0 := hx.kept cbox fun _ _ => id
  obtain ⟨xa, xc, rfl, _⟩ := hx.form
  have HW := Lib.hid hw0
  have HX := Lib.hid hx0
  clear hw hx hw0 hx0
  go_enter Tryd.func33, Tryd.ntmps33
  go_wp2_with fail
  have hw0 := HW.out
  have hx0 := HX.out
  refine (u8_any pb v T (n % 256) l _ hw0 (by omega) (by omega) (by omega)).mono ?_
  rintro e w1 ⟨rfl, st⟩
  clear hw0 hx0
  go_wp2_with fail
  go_end0
  exact ⟨rfl, WStep.after cbox (by simpa [opT] using st)⟩
set_option maxRecDepth 100000 in
set_option maxHeartbeats 800000 in
theorem lays_2 (pb : Nat) (v x : Value) (T : TypeId) (l b : List UInt8) (wh m n : Int) (w : World) (hw : IsW w pb v T l) (hx : Rd w x b) (hsep : ∀ k, rdb x = some k → k ≠ pb ∧ v.ownBlock ≠ some k) (hl : l.length ≤ 900000000) (hb : b.length ≤ 900000000) (hn : 0 ≤ n ∧ n ≤ 18446744073709551615) :
    Calls Tryd.prog 33 #[.pointer (some ⟨pb, 0, none⟩), .agg #[.int .i64 2, .int .i64 wh, .int .i64 m, .int .u64 n, x]] w fun e w' => e = .returned (.tuple #[]) ∧ WStep w pb v T l (opT 2 n b) w' := by
  have cbox := (Chg.refl (fun _ => False) w).alloc (.cells #[.int .i64 2, .int .i64 wh, .int .i64 m, .int .u64 n, x] 39)
  have hw0 := hw.kept cbox id fun _ _ => id
  have hx0 := hx.kept cbox fun _ _ => id
  obtain ⟨xa, xc, rfl, _⟩ := hx.form
  have HW := Lib.hid hw0
  have HX := Lib.hid hx0
  clear hw hx hw0 hx0
  go_enter Tryd.func33, Tryd.ntmps33
  go_wp2_with fail
  have hw0 := HW.out
  have hx0 := HX.out
  refine (u32_any pb v T (n % 4294967296) l _ hw0 (by omega) (by omega) (by omega)).mono ?_
  rintro e w1 ⟨rfl, st⟩
  clear hw0 hx0
  go_wp2_with fail
  go_end0
  exact ⟨rfl, WStep.after cbox (by simpa [opT] using st)⟩
set_option maxRecDepth 100000 in
set_option maxHeartbeats 800000 in
theorem lays_3 (pb : Nat) (v x : Value) (T : TypeId) (l b : List UInt8) (wh m n : Int) (w : World) (hw : IsW w pb v T l) (hx : Rd w x b) (hsep : ∀ k, rdb x = some k → k ≠ pb ∧ v.ownBlock ≠ some k) (hl : l.length ≤ 900000000) (hb : b.length ≤ 900000000) (hn : 0 ≤ n ∧ n ≤ 18446744073709551615) :
    Calls Tryd.prog 33 #[.pointer (some ⟨pb, 0, none⟩), .agg #[.int .i64 3, .int .i64 wh, .int .i64 m, .int .u64 n, x]] w fun e w' => e = .returned (.tuple #[]) ∧ WStep w pb v T l (opT 3 n b) w' := by
  have cbox := (Chg.refl (fun _ => False) w).alloc (.cells #[.int .i64 3, .int .i64 wh, .int .i64 m, .int .u64 n, x] 39)
  have hw0 := hw.kept cbox id fun _ _ => id
  have hx0 := hx.kept cbox fun _ _ => id
  obtain ⟨xa, xc, rfl, _⟩ := hx.form
  have HW := Lib.hid hw0
  have HX := Lib.hid hx0
  clear hw hx hw0 hx0
  go_enter Tryd.func33, Tryd.ntmps33
  go_wp2_with fail
  have hw0 := HW.out
  have hx0 := HX.out
  refine (u64_any pb v T n l _ hw0 (by omega) (by omega) (by omega)).mono ?_
  rintro e w1 ⟨rfl, st⟩
  clear hw0 hx0
  go_wp2_with fail
  go_end0
  exact ⟨rfl, WStep.after cbox (by simpa [opT] using st)⟩
set_option maxRecDepth 100000 in
set_option maxHeartbeats 800000 in
theorem lays_4 (pb : Nat) (v x : Value) (T : TypeId) (l b : List UInt8) (wh m n : Int) (w : World) (hw : IsW w pb v T l) (hx : Rd w x b) (hsep : ∀ k, rdb x = some k → k ≠ pb ∧ v.ownBlock ≠ some k) (hl : l.length ≤ 900000000) (hb : b.length ≤ 900000000) (hn : 0 ≤ n ∧ n ≤ 18446744073709551615) :
    Calls Tryd.prog 33 #[.pointer (some ⟨pb, 0, none⟩), .agg #[.int .i64 4, .int .i64 wh, .int .i64 m, .int .u64 n, x]] w fun e w' => e = .returned (.tuple #[]) ∧ WStep w pb v T l (opT 4 n b) w' := by
  have cbox := (Chg.refl (fun _ => False) w).alloc (.cells #[.int .i64 4, .int .i64 wh, .int .i64 m, .int .u64 n, x] 39)
  have hw0 := hw.kept cbox id fun _ _ => id
  have hx0 := hx.kept cbox fun _ _ => id
  obtain ⟨xa, xc, rfl, _⟩ := hx.form
  have HW := Lib.hid hw0
  have HX := Lib.hid hx0
  clear hw hx hw0 hx0
  go_enter Tryd.func33, Tryd.ntmps33
  go_wp2_with fail
  have hw0 := HW.out
  have hx0 := HX.out
  refine (var_any pb v T n l _ hw0 (by omega) (by omega) (by omega)).mono ?_
  rintro e w1 ⟨rfl, st⟩
  clear hw0 hx0
  go_wp2_with fail
  go_end0
  exact ⟨rfl, WStep.after cbox (by simpa [opT] using st)⟩
set_option maxRecDepth 100000 in
set_option maxHeartbeats 800000 in
theorem lays_5 (pb : Nat) (v x : Value) (T : TypeId) (l b : List UInt8) (wh m n : Int) (w : World) (hw : IsW w pb v T l) (hx : Rd w x b) (hsep : ∀ k, rdb x = some k → k ≠ pb ∧ v.ownBlock ≠ some k) (hl : l.length ≤ 900000000) (hb : b.length ≤ 900000000) (hn : 0 ≤ n ∧ n ≤ 18446744073709551615) :
    Calls Tryd.prog 33 #[.pointer (some ⟨pb, 0, none⟩), .agg #[.int .i64 5, .int .i64 wh, .int .i64 m, .int .u64 n, x]] w fun e w' => e = .returned (.tuple #[]) ∧ WStep w pb v T l (opT 5 n b) w' := by
  have cbox := (Chg.refl (fun _ => False) w).alloc (.cells #[.int .i64 5, .int .i64 wh, .int .i64 m, .int .u64 n, x] 39)
  have hw0 := hw.kept cbox id fun _ _ => id
  have hx0 := hx.kept cbox fun _ _ => id
  obtain ⟨xa, xc, rfl, _⟩ := hx.form
  have HW := Lib.hid hw0
  have HX := Lib.hid hx0
  clear hw hx hw0 hx0
  go_enter Tryd.func33, Tryd.ntmps33
  go_wp2_with fail
  have hw0 := HW.out
  have hx0 := HX.out
  refine (wbytes_any pb v _ T l b _ hw0 hx0 hsep (by omega) (by omega)).mono ?_
  rintro e w1 ⟨rfl, st⟩
  clear hw0 hx0
  go_wp2_with fail
  go_end0
  exact ⟨rfl, WStep.after cbox (by simpa [opT] using st)⟩
set_option maxRecDepth 100000 in
set_option maxHeartbeats 800000 in
theorem lays_6 (pb : Nat) (v x : Value) (T : TypeId) (l b : List UInt8) (wh m n : Int) (w : World) (hw : IsW w pb v T l) (hx : Rd w x b) (hsep : ∀ k, rdb x = some k → k ≠ pb ∧ v.ownBlock ≠ some k) (hl : l.length ≤ 900000000) (hb : b.length ≤ 900000000) (hn : 0 ≤ n ∧ n ≤ 18446744073709551615) :
    Calls Tryd.prog 33 #[.pointer (some ⟨pb, 0, none⟩), .agg #[.int .i64 6, .int .i64 wh, .int .i64 m, .int .u64 n, x]] w fun e w' => e = .returned (.tuple #[]) ∧ WStep w pb v T l (opT 6 n b) w' := by
  have cbox := (Chg.refl (fun _ => False) w).alloc (.cells #[.int .i64 6, .int .i64 wh, .int .i64 m, .int .u64 n, x] 39)
  have hw0 := hw.kept cbox id fun _ _ => id
  have hx0 := hx.kept cbox fun _ _ => id
  obtain ⟨xa, xc, rfl, _⟩ := hx.form
  have HW := Lib.hid hw0
  have HX := Lib.hid hx0
  clear hw hx hw0 hx0
  go_enter Tryd.func33, Tryd.ntmps33
  go_wp2_with fail
  have hw0 := HW.out
  have hx0 := HX.out
  refine (raw_any pb v _ T l b _ hw0 hx0 (by omega) (by omega)).mono ?_
  rintro e w1 ⟨rfl, st⟩
  clear hw0 hx0
  go_wp2_with fail
  go_end0
  exact ⟨rfl, WStep.after cbox (by simpa [opT] using st)⟩
theorem eqB_beq (l r : List UInt8) : eqB l r = (l == r) := by
  rw [Bool.eq_iff_iff, eqB_true, beq_iff_eq]
/-- What back does. -/
def BackPost (w : World) (pb : Nat) (v : Value) (T : TypeId) (s : RS) (k n : Int) (b : List UInt8) (e : Ending) (w' : World) : Prop :=
  e = .returned (.bool (s.backV k n b)) ∧ IsR w' pb v T met (s.backS k n b) ∧ Chg (fun z => z = pb) w w'
set_option maxRecDepth 100000 in
set_option maxHeartbeats 800000 in
theorem back_1 (pb : Nat) (v x : Value) (T : TypeId) (b : List UInt8) (s : RS) (wh m n : Int) (w : World) (hp : IsR w pb v T met s) (hx : Rd w x b) (hsep : ∀ k, rdb x = some k → k ≠ pb) (hb : b.length ≤ 900000000) (hn : 0 ≤ n ∧ n ≤ 18446744073709551615) :
    Calls Tryd.prog 36 #[.pointer (some ⟨pb, 0, none⟩), .agg #[.int .i64 1, .int .i64 wh, .int .i64 m, .int .u64 n, x]] w (BackPost w pb v T s 1 n b) := by
  obtain ⟨N, rfl⟩ := Int.eq_ofNat_of_zero_le hn.1
  obtain ⟨xa, xc, rfl, _⟩ := hx.form
  have cbox := (Chg.refl (fun _ => False) w).alloc (.cells #[.int .i64 1, .int .i64 wh, .int .i64 m, .int .u64 N, .slice xa b.length xc] 39)
  have B0 := Blk.new w 39 #[.int .i64 1, .int .i64 wh, .int .i64 m, .int .u64 N, .slice xa b.length xc]
  have hp0 := hp.calm cbox
  have hx0 := hx.kept cbox fun _ _ => id
  have hne : ¬ w.heap.size = pb := by have := hp.blk.lt; omega
  have hlen := hp.len
  have HP := Lib.hid hp0
  have HX := Lib.hid hx0
  clear hp hx hp0 hx0
  go_enter Tryd.func36, Tryd.ntmps36
  go_wp2_with fail
  generalize w.alloc (.cells #[.int .i64 1, .int .i64 wh, .int .i64 m, .int .u64 N, .slice xa b.length xc] 39) = w0 at *
  have ek : w0.cell? ⟨w.heap.size, 3, none⟩ = some (.int .u64 (N : Int)) := B0.cell 3
  refine wp_region_pin (fun _ => false) [3] [2] (Same (fun z => z = pb) w0) mixed (by kernel_rfl) (fun _ _ h e => h.ext e) (Same.refl _ _).drew ?_
  simp only [wpSegs, List.take_succ_cons, List.take_zero, List.drop_succ_cons, List.drop_zero]
  go_wp2_with fail
  refine (rdu8_any pb v T s _ (HP.out.calm ((Chg.refl (fun _ => False) w0).drew))).mono ?_
  rintro e w1 ⟨rfl, R1, C1⟩
  have c1 : Chg (fun z => z = pb) w0 w1 := ((Chg.refl _ w0).drew).trans C1 fun _ _ h => h
  have e1 : w1.cell? ⟨w.heap.size, 3, none⟩ = some (.int .u64 (N : Int)) := (B0.kept c1 hne).cell 3
  go_wp2_with fail
  refine SegQ.normal ⟨fun z o h hz => c1.keep h hz, ?_⟩
  go_wp2_with fail
  refine TQ.normal (by kernel_rfl) ⟨⟨PinAt.cell rfl rfl rfl ek hne (fun X h => by go_simp), trivial⟩, ?_⟩
  go_wp2_with fail
  go_ret
  exact ⟨ret_bool (by simp [RS.backV]), by simpa [RS.backS] using R1, (cbox.mono fun _ _ h => h.elim).trans c1 fun _ _ h => h⟩
set_option maxRecDepth 100000 in
set_option maxHeartbeats 800000 in
theorem back_2 (pb : Nat) (v x : Value) (T : TypeId) (b : List UInt8) (s : RS) (wh m n : Int) (w : World) (hp : IsR w pb v T met s) (hx : Rd w x b) (hsep : ∀ k, rdb x = some k → k ≠ pb) (hb : b.length ≤ 900000000) (hn : 0 ≤ n ∧ n ≤ 18446744073709551615) :
    Calls Tryd.prog 36 #[.pointer (some ⟨pb, 0, none⟩), .agg #[.int .i64 2, .int .i64 wh, .int .i64 m, .int .u64 n, x]] w (BackPost w pb v T s 2 n b) := by
  obtain ⟨N, rfl⟩ := Int.eq_ofNat_of_zero_le hn.1
  obtain ⟨xa, xc, rfl, _⟩ := hx.form
  have cbox := (Chg.refl (fun _ => False) w).alloc (.cells #[.int .i64 2, .int .i64 wh, .int .i64 m, .int .u64 N, .slice xa b.length xc] 39)
  have B0 := Blk.new w 39 #[.int .i64 2, .int .i64 wh, .int .i64 m, .int .u64 N, .slice xa b.length xc]
  have hp0 := hp.calm cbox
  have hx0 := hx.kept cbox fun _ _ => id
  have hne : ¬ w.heap.size = pb := by have := hp.blk.lt; omega
  have hlen := hp.len
  have HP := Lib.hid hp0
  have HX := Lib.hid hx0
  clear hp hx hp0 hx0
  go_enter Tryd.func36, Tryd.ntmps36
  go_wp2_with fail
  generalize w.alloc (.cells #[.int .i64 2, .int .i64 wh, .int .i64 m, .int .u64 N, .slice xa b.length xc] 39) = w0 at *
  have ek : w0.cell? ⟨w.heap.size, 3, none⟩ = some (.int .u64 (N : Int)) := B0.cell 3
  refine wp_region_pin (fun _ => false) [3] [2] (Same (fun z => z = pb) w0) mixed (by kernel_rfl) (fun _ _ h e => h.ext e) (Same.refl _ _).drew ?_
  simp only [wpSegs, List.take_succ_cons, List.take_zero, List.drop_succ_cons, List.drop_zero]
  go_wp2_with fail
  refine (rdu32_any pb v T s _ (HP.out.calm ((Chg.refl (fun _ => False) w0).drew))).mono ?_
  rintro e w1 ⟨rfl, R1, C1⟩
  have c1 : Chg (fun z => z = pb) w0 w1 := ((Chg.refl _ w0).drew).trans C1 fun _ _ h => h
  have e1 : w1.cell? ⟨w.heap.size, 3, none⟩ = some (.int .u64 (N : Int)) := (B0.kept c1 hne).cell 3
  go_wp2_with fail
  refine SegQ.normal ⟨fun z o h hz => c1.keep h hz, ?_⟩
  go_wp2_with fail
  refine TQ.normal (by kernel_rfl) ⟨⟨PinAt.cell rfl rfl rfl ek hne (fun X h => by go_simp), trivial⟩, ?_⟩
  go_wp2_with fail
  go_ret
  exact ⟨ret_bool (by simp [RS.backV]), by simpa [RS.backS] using R1, (cbox.mono fun _ _ h => h.elim).trans c1 fun _ _ h => h⟩
set_option maxRecDepth 100000 in
set_option maxHeartbeats 800000 in
theorem back_3 (pb : Nat) (v x : Value) (T : TypeId) (b : List UInt8) (s : RS) (wh m n : Int) (w : World) (hp : IsR w pb v T met s) (hx : Rd w x b) (hsep : ∀ k, rdb x = some k → k ≠ pb) (hb : b.length ≤ 900000000) (hn : 0 ≤ n ∧ n ≤ 18446744073709551615) :
    Calls Tryd.prog 36 #[.pointer (some ⟨pb, 0, none⟩), .agg #[.int .i64 3, .int .i64 wh, .int .i64 m, .int .u64 n, x]] w (BackPost w pb v T s 3 n b) := by
  obtain ⟨N, rfl⟩ := Int.eq_ofNat_of_zero_le hn.1
  obtain ⟨xa, xc, rfl, _⟩ := hx.form
  have cbox := (Chg.refl (fun _ => False) w).alloc (.cells #[.int .i64 3, .int .i64 wh, .int .i64 m, .int .u64 N, .slice xa b.length xc] 39)
  have B0 := Blk.new w 39 #[.int .i64 3, .int .i64 wh, .int .i64 m, .int .u64 N, .slice xa b.length xc]
  have hp0 := hp.calm cbox
  have hx0 := hx.kept cbox fun _ _ => id
  have hne : ¬ w.heap.size = pb := by have := hp.blk.lt; omega
  have hlen := hp.len
  have HP := Lib.hid hp0
  have HX := Lib.hid hx0
  clear hp hx hp0 hx0
  go_enter Tryd.func36, Tryd.ntmps36
  go_wp2_with fail
  generalize w.alloc (.cells #[.int .i64 3, .int .i64 wh, .int .i64 m, .int .u64 N, .slice xa b.length xc] 39) = w0 at *
  have ek : w0.cell? ⟨w.heap.size, 3, none⟩ = some (.int .u64 (N : Int)) := B0.cell 3
  refine wp_region_pin (fun _ => false) [3] [2] (Same (fun z => z = pb) w0) mixed (by kernel_rfl) (fun _ _ h e => h.ext e) (Same.refl _ _).drew ?_
  simp only [wpSegs, List.take_succ_cons, List.take_zero, List.drop_succ_cons, List.drop_zero]
  go_wp2_with fail
  refine (rdu64_any pb v T s _ (HP.out.calm ((Chg.refl (fun _ => False) w0).drew))).mono ?_
  rintro e w1 ⟨rfl, R1, C1⟩
  have c1 : Chg (fun z => z = pb) w0 w1 := ((Chg.refl _ w0).drew).trans C1 fun _ _ h => h
  have e1 : w1.cell? ⟨w.heap.size, 3, none⟩ = some (.int .u64 (N : Int)) := (B0.kept c1 hne).cell 3
  go_wp2_with fail
  refine SegQ.normal ⟨fun z o h hz => c1.keep h hz, ?_⟩
  go_wp2_with fail
  refine TQ.normal (by kernel_rfl) ⟨⟨PinAt.cell rfl rfl rfl ek hne (fun X h => by go_simp), trivial⟩, ?_⟩
  go_wp2_with fail
  go_ret
  exact ⟨ret_bool (by simp [RS.backV]), by simpa [RS.backS] using R1, (cbox.mono fun _ _ h => h.elim).trans c1 fun _ _ h => h⟩
set_option maxRecDepth 100000 in
set_option maxHeartbeats 800000 in
theorem back_4 (pb : Nat) (v x : Value) (T : TypeId) (b : List UInt8) (s : RS) (wh m n : Int) (w : World) (hp : IsR w pb v T met s) (hx : Rd w x b) (hsep : ∀ k, rdb x = some k → k ≠ pb) (hb : b.length ≤ 900000000) (hn : 0 ≤ n ∧ n ≤ 18446744073709551615) :
    Calls Tryd.prog 36 #[.pointer (some ⟨pb, 0, none⟩), .agg #[.int .i64 4, .int .i64 wh, .int .i64 m, .int .u64 n, x]] w (BackPost w pb v T s 4 n b) := by
  obtain ⟨N, rfl⟩ := Int.eq_ofNat_of_zero_le hn.1
  obtain ⟨xa, xc, rfl, _⟩ := hx.form
  have cbox := (Chg.refl (fun _ => False) w).alloc (.cells #[.int .i64 4, .int .i64 wh, .int .i64 m, .int .u64 N, .slice xa b.length xc] 39)
  have B0 := Blk.new w 39 #[.int .i64 4, .int .i64 wh, .int .i64 m, .int .u64 N, .slice xa b.length xc]
  have hp0 := hp.calm cbox
  have hx0 := hx.kept cbox fun _ _ => id
  have hne : ¬ w.heap.size = pb := by have := hp.blk.lt; omega
  have hlen := hp.len
  have HP := Lib.hid hp0
  have HX := Lib.hid hx0
  clear hp hx hp0 hx0
  go_enter Tryd.func36, Tryd.ntmps36
  go_wp2_with fail
  generalize w.alloc (.cells #[.int .i64 4, .int .i64 wh, .int .i64 m, .int .u64 N, .slice xa b.length xc] 39) = w0 at *
  have ek : w0.cell? ⟨w.heap.size, 3, none⟩ = some (.int .u64 (N : Int)) := B0.cell 3
  refine wp_region_pin (fun _ => false) [5] [4] (Same (fun z => z = pb) w0) mixed (by kernel_rfl) (fun _ _ h e => h.ext e) (Same.refl _ _).drew ?_
  simp only [wpSegs, List.take_succ_cons, List.take_zero, List.drop_succ_cons, List.drop_zero]
  go_wp2_with fail
  refine (rdvar_any pb v T s N _ (HP.out.calm ((Chg.refl (fun _ => False) w0).drew)) (by omega)).mono ?_
  rintro e w1 ⟨rfl, R1, C1⟩
  have c1 : Chg (fun z => z = pb) w0 w1 := ((Chg.refl _ w0).drew).trans C1 fun _ _ h => h
  have e1 : w1.cell? ⟨w.heap.size, 3, none⟩ = some (.int .u64 (N : Int)) := (B0.kept c1 hne).cell 3
  go_wp2_with fail
  refine SegQ.normal ⟨fun z o h hz => c1.keep h hz, ?_⟩
  go_wp2_with fail
  refine TQ.normal (by kernel_rfl) ⟨⟨PinAt.cell rfl rfl rfl ek hne (fun X h => by go_simp), trivial⟩, ?_⟩
  go_wp2_with fail
  go_ret
  exact ⟨ret_bool (by simp [RS.backV]), by simpa [RS.backS] using R1, (cbox.mono fun _ _ h => h.elim).trans c1 fun _ _ h => h⟩
set_option maxRecDepth 100000 in
set_option maxHeartbeats 800000 in
theorem back_5 (pb : Nat) (v x : Value) (T : TypeId) (b : List UInt8) (s : RS) (wh m n : Int) (w : World) (hp : IsR w pb v T met s) (hx : Rd w x b) (hsep : ∀ k, rdb x = some k → k ≠ pb) (hb : b.length ≤ 900000000) (hn : 0 ≤ n ∧ n ≤ 18446744073709551615) :
    Calls Tryd.prog 36 #[.pointer (some ⟨pb, 0, none⟩), .agg #[.int .i64 5, .int .i64 wh, .int .i64 m, .int .u64 n, x]] w (BackPost w pb v T s 5 n b) := by
  obtain ⟨N, rfl⟩ := Int.eq_ofNat_of_zero_le hn.1
  obtain ⟨xa, xc, rfl, _⟩ := hx.form
  have cbox := (Chg.refl (fun _ => False) w).alloc (.cells #[.int .i64 5, .int .i64 wh, .int .i64 m, .int .u64 N, .slice xa b.length xc] 39)
  have B0 := Blk.new w 39 #[.int .i64 5, .int .i64 wh, .int .i64 m, .int .u64 N, .slice xa b.length xc]
  have hp0 := hp.calm cbox
  have hx0 := hx.kept cbox fun _ _ => id
  have hne : ¬ w.heap.size = pb := by have := hp.blk.lt; omega
  have hlen := hp.len
  have HP := Lib.hid hp0
  have HX := Lib.hid hx0
  clear hp hx hp0 hx0
  go_enter Tryd.func36, Tryd.ntmps36
  go_wp2_with fail
  generalize w.alloc (.cells #[.int .i64 5, .int .i64 wh, .int .i64 m, .int .u64 N, .slice xa b.length xc] 39) = w0 at *
  have ek : w0.cell? ⟨w.heap.size, 4, none⟩ = some (.slice xa b.length xc) := B0.cell 4
  refine wp_region_pin (fun _ => false) [6] [5] (Same (fun z => z = pb) w0) mixed (by kernel_rfl) (fun _ _ h e => h.ext e) (Same.refl _ _).drew ?_
  simp only [wpSegs, List.take_succ_cons, List.take_zero, List.drop_succ_cons, List.drop_zero]
  go_wp2_with fail
  refine (rdbytes_any pb v T s b.length _ (HP.out.calm ((Chg.refl (fun _ => False) w0).drew)) (by omega)).mono ?_
  rintro e w1 ⟨y, rfl, Y1, hy1, R1, C1⟩
  obtain ⟨ya, yc, rfl, _⟩ := Y1.form
  have c1 : Chg (fun z => z = pb) w0 w1 := ((Chg.refl _ w0).drew).trans C1 fun _ _ h => h
  have e1 : w1.cell? ⟨w.heap.size, 4, none⟩ = some (.slice xa b.length xc) := (B0.kept c1 hne).cell 4
  go_wp2_with fail
  refine SegQ.normal ⟨fun z o h hz => c1.keep h hz, ?_⟩
  go_wp2_with fail
  have hyl := RS.text_len s b.length
  refine (eq_any _ _ _ b _ (Own.rd Y1) (HX.out.kept c1 hsep) (by omega) (by omega)).mono ?_
  rintro e w2 ⟨rfl, hd2⟩
  go_wp2_with fail
  refine TQ.normal (by kernel_rfl) ⟨⟨PinAt.cell rfl rfl rfl ek hne (fun X h => by go_simp), trivial⟩, ?_⟩
  go_wp2_with fail
  go_ret
  have c2 := c1.trans (hd2.chg (fun _ => False)) fun _ _ h => h.elim
  exact ⟨ret_bool (by simp [RS.backV, eqB_beq]), by simpa [RS.backS] using R1.calm (hd2.chg _), (cbox.mono fun _ _ h => h.elim).trans c2 fun _ _ h => h⟩
set_option maxRecDepth 100000 in
set_option maxHeartbeats 800000 in
theorem back_6 (pb : Nat) (v x : Value) (T : TypeId) (b : List UInt8) (s : RS) (wh m n : Int) (w : World) (hp : IsR w pb v T met s) (hx : Rd w x b) (hsep : ∀ k, rdb x = some k → k ≠ pb) (hb : b.length ≤ 900000000) (hn : 0 ≤ n ∧ n ≤ 18446744073709551615) :
    Calls Tryd.prog 36 #[.pointer (some ⟨pb, 0, none⟩), .agg #[.int .i64 6, .int .i64 wh, .int .i64 m, .int .u64 n, x]] w (BackPost w pb v T s 6 n b) := by
  obtain ⟨N, rfl⟩ := Int.eq_ofNat_of_zero_le hn.1
  obtain ⟨xa, xc, rfl, _⟩ := hx.form
  have cbox := (Chg.refl (fun _ => False) w).alloc (.cells #[.int .i64 6, .int .i64 wh, .int .i64 m, .int .u64 N, .slice xa b.length xc] 39)
  have B0 := Blk.new w 39 #[.int .i64 6, .int .i64 wh, .int .i64 m, .int .u64 N, .slice xa b.length xc]
  have hp0 := hp.calm cbox
  have hx0 := hx.kept cbox fun _ _ => id
  have hne : ¬ w.heap.size = pb := by have := hp.blk.lt; omega
  have hlen := hp.len
  have HP := Lib.hid hp0
  have HX := Lib.hid hx0
  clear hp hx hp0 hx0
  go_enter Tryd.func36, Tryd.ntmps36
  go_wp2_with fail
  generalize w.alloc (.cells #[.int .i64 6, .int .i64 wh, .int .i64 m, .int .u64 N, .slice xa b.length xc] 39) = w0 at *
  have ek : w0.cell? ⟨w.heap.size, 4, none⟩ = some (.slice xa b.length xc) := B0.cell 4
  refine wp_region_pin (fun _ => false) [6] [5] (Same (fun z => z = pb) w0) mixed (by kernel_rfl) (fun _ _ h e => h.ext e) (Same.refl _ _).drew ?_
  simp only [wpSegs, List.take_succ_cons, List.take_zero, List.drop_succ_cons, List.drop_zero]
  go_wp2_with fail
  refine (rdraw_any pb v T s b.length _ (HP.out.calm ((Chg.refl (fun _ => False) w0).drew))).mono ?_
  rintro e w1 ⟨y, rfl, Y1, hy1, R1, C1⟩
  obtain ⟨ya, yc, rfl, _⟩ := Y1.form
  have c1 : Chg (fun z => z = pb) w0 w1 := ((Chg.refl _ w0).drew).trans C1 fun _ _ h => h
  have e1 : w1.cell? ⟨w.heap.size, 4, none⟩ = some (.slice xa b.length xc) := (B0.kept c1 hne).cell 4
  go_wp2_with fail
  refine SegQ.normal ⟨fun z o h hz => c1.keep h hz, ?_⟩
  go_wp2_with fail
  have hyl := RS.raw_len s b.length
  refine (eq_any _ _ _ b _ (Own.rd Y1) (HX.out.kept c1 hsep) (by omega) (by omega)).mono ?_
  rintro e w2 ⟨rfl, hd2⟩
  go_wp2_with fail
  refine TQ.normal (by kernel_rfl) ⟨⟨PinAt.cell rfl rfl rfl ek hne (fun X h => by go_simp), trivial⟩, ?_⟩
  go_wp2_with fail
  go_ret
  have c2 := c1.trans (hd2.chg (fun _ => False)) fun _ _ h => h.elim
  exact ⟨ret_bool (by simp [RS.backV, eqB_beq]), by simpa [RS.backS] using R1.calm (hd2.chg _), (cbox.mono fun _ _ h => h.elim).trans c2 fun _ _ h => h⟩
set_option maxRecDepth 100000 in
set_option maxHeartbeats 800000 in
theorem lays_any (pb : Nat) (v x : Value) (T : TypeId) (l b : List UInt8) (k wh m n : Int) (w : World) (hw : IsW w pb v T l) (hx : Rd w x b) (hsep : ∀ k, rdb x = some k → k ≠ pb ∧ v.ownBlock ≠ some k) (hl : l.length ≤ 900000000) (hb : b.length ≤ 900000000) (hn : 0 ≤ n ∧ n ≤ 18446744073709551615) :
    Calls Tryd.prog 33 #[.pointer (some ⟨pb, 0, none⟩), .agg #[.int .i64 k, .int .i64 wh, .int .i64 m, .int .u64 n, x]] w fun e w' => e = .returned (.tuple #[]) ∧ WStep w pb v T l (opT k n b) w' := by
  rcases (by omega : k = 1 ∨ k = 2 ∨ k = 3 ∨ k = 4 ∨ k = 5 ∨ k = 6 ∨ (k < 1 ∨ 6 < k)) with rfl | rfl | rfl | rfl | rfl | rfl | h
  · exact lays_1 pb v x T l b wh m n w hw hx hsep hl hb hn
  · exact lays_2 pb v x T l b wh m n w hw hx hsep hl hb hn
  · exact lays_3 pb v x T l b wh m n w hw hx hsep hl hb hn
  · exact lays_4 pb v x T l b wh m n w hw hx hsep hl hb hn
  · exact lays_5 pb v x T l b wh m n w hw hx hsep hl hb hn
  · exact lays_6 pb v x T l b wh m n w hw hx hsep hl hb hn
  · have cbox := (Chg.refl (fun _ => False) w).alloc (.cells #[.int .i64 k, .int .i64 wh, .int .i64 m, .int .u64 n, x] 39)
    have hw0 := hw.kept cbox id fun _ _ => id
    have z1 : (k == 1) = false := by simp; omega
    have z2 : (k == 2) = false := by simp; omega
    have z3 : (k == 3) = false := by simp; omega
    have z4 : (k == 4) = false := by simp; omega
    have z5 : (k == 5) = false := by simp; omega
    have z6 : (k == 6) = false := by simp; omega
    have e0 : opT k n b = [] := by
      unfold opT
      rw [if_neg (by omega), if_neg (by omega), if_neg (by omega), if_neg (by omega), if_neg (by omega), if_neg (by omega)]
    rw [e0]
    have HW := Lib.hid hw0
    clear hw hw0
    go_enter Tryd.func33, Tryd.ntmps33
    go_wp2_with fail
    go_end0
    exact ⟨rfl, WStep.after cbox (WStep.refl HW.out)⟩
set_option maxRecDepth 100000 in
set_option maxHeartbeats 800000 in
theorem back_any (pb : Nat) (v x : Value) (T : TypeId) (b : List UInt8) (s : RS) (k wh m n : Int) (w : World) (hp : IsR w pb v T met s) (hx : Rd w x b) (hsep : ∀ k, rdb x = some k → k ≠ pb) (hb : b.length ≤ 900000000) (hn : 0 ≤ n ∧ n ≤ 18446744073709551615) :
    Calls Tryd.prog 36 #[.pointer (some ⟨pb, 0, none⟩), .agg #[.int .i64 k, .int .i64 wh, .int .i64 m, .int .u64 n, x]] w (BackPost w pb v T s k n b) := by
  rcases (by omega : k = 1 ∨ k = 2 ∨ k = 3 ∨ k = 4 ∨ k = 5 ∨ k = 6 ∨ (k < 1 ∨ 6 < k)) with rfl | rfl | rfl | rfl | rfl | rfl | h
  · exact back_1 pb v x T b s wh m n w hp hx hsep hb hn
  · exact back_2 pb v x T b s wh m n w hp hx hsep hb hn
  · exact back_3 pb v x T b s wh m n w hp hx hsep hb hn
  · exact back_4 pb v x T b s wh m n w hp hx hsep hb hn
  · exact back_5 pb v x T b s wh m n w hp hx hsep hb hn
  · exact back_6 pb v x T b s wh m n w hp hx hsep hb hn
  · have cbox := (Chg.refl (fun _ => False) w).alloc (.cells #[.int .i64 k, .int .i64 wh, .int .i64 m, .int .u64 n, x] 39)
    have hp0 := hp.calm cbox
    have z1 : (k == 1) = false := by simp; omega
    have z2 : (k == 2) = false := by simp; omega
    have z3 : (k == 3) = false := by simp; omega
    have z4 : (k == 4) = false := by simp; omega
    have z5 : (k == 5) = false := by simp; omega
    have z6 : (k == 6) = false := by simp; omega
    have e0 : s.backS k n b = s := by
      unfold RS.backS
      rw [if_neg (by omega), if_neg (by omega), if_neg (by omega), if_neg (by omega), if_neg (by omega), if_neg (by omega)]
    have e1 : s.backV k n b = true := by
      unfold RS.backV
      rw [if_neg (by omega), if_neg (by omega), if_neg (by omega), if_neg (by omega), if_neg (by omega), if_neg (by omega)]
    unfold BackPost
    rw [e0, e1]
    have HP := Lib.hid hp0
    clear hp hp0
    go_enter Tryd.func36, Tryd.ntmps36
    go_wp2_with fail
    go_ret
    exact ⟨rfl, HP.out, cbox.mono fun _ _ h => h.elim⟩
end Go.Proofs.YtnfmeaifbankjaaDoor
