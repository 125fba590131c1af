import Derived.Test.YtnfmeaifbankjaaProg
import Derived.Test.YtnfmeaifbankjaaBase
import Derived.Test.YtnfmeaifbankjaaRegion
import Derived.Test.YtnfmeaifbankjaaPlain
import Derived.Test.YtnfmeaifbankjaaShelf
namespace Go.Proofs.Ytnfmeaifbankjaa
open Go Go.RowKit Go.Sat

theorem infoU8 : (Try.prog.info? 5).map (fun i => (i.zero, i.size, i.bytes)) = some (some (.int .u8 0), 1, 1) := by kernel_rfl
theorem tyBytes : SliceTy Try.prog 22 5 1 1 (.int .u8 0) := by
  obtain ⟨i0, hi0, hz0, hz1, hz2⟩ := info_parts infoU8
  exact ⟨Try.underlying22, ⟨i0, hi0, hz0, hz1, hz2⟩, rfl, by decide⟩
theorem mixed : Try.prog.follows .mixedOrders = true := by kernel_rfl

/-- A Writer: its one field, the bytes that it holds. -/
structure IsW (w : World) (pb : Nat) (v : Value) (T : TypeId) (l : List UInt8) : Prop where
  blk : w.heap[pb]? = some (.cells #[v] T (0,0))
  own : Own w 5 1 v l.length (bcells l)
  ne : v.ownBlock ≠ some pb

theorem IsW.kept {S : Nat → Prop} {w w' : World} {pb : Nat} {v : Value} {T : TypeId} {l : List UInt8} (h : IsW w pb v T l) (hg : Chg S w w') (h1 : ¬ S pb) (h2 : ∀ k, v.ownBlock = some k → ¬ S k) : IsW w' pb v T l :=
  ⟨hg.keep h.blk h1, h.own.kept hg h2, h.ne⟩

/-- The Writer's step: l2 is laid behind what it holds. -/
def WStep (w : World) (pb : Nat) (v : Value) (T : TypeId) (l l2 : List UInt8) (w' : World) : Prop :=
  ∃ v', IsW w' pb v' T (l ++ l2) ∧ Chg (fun k => k = pb ∨ v.ownBlock = some k) w w' ∧ ∀ k, v'.ownBlock = some k → v.ownBlock = some k ∨ w.heap.size ≤ k

theorem WStep.refl {w : World} {pb : Nat} {v : Value} {T : TypeId} {l : List UInt8} (h : IsW w pb v T l) : WStep w pb v T l [] w :=
  ⟨v, by simpa using h, Chg.refl _ _, fun k hk => .inl hk⟩
theorem WStep.trans {w w1 w2 : World} {pb : Nat} {v v1 : Value} {T : TypeId} {l l2 l3 : List UInt8} (hc : Chg (fun k => k = pb ∨ v.ownBlock = some k) w w1)
    (hb : ∀ k, v1.ownBlock = some k → v.ownBlock = some k ∨ w.heap.size ≤ k) (h : WStep w1 pb v1 T (l ++ l2) l3 w2) : WStep w pb v T l (l2 ++ l3) w2 := by
  obtain ⟨v2, i2, c2, b2⟩ := h
  refine ⟨v2, by rw [← List.append_assoc]; exact i2, hc.trans c2 fun x hx hT => ?_, fun k hk => ?_⟩
  · rcases hT with hT | hT
    · exact .inl hT
    · rcases hb x hT with h | h
      · exact .inr h
      · omega
  · rcases b2 k hk with h | h
    · exact hb k h
    · exact .inr (Nat.le_trans hc.size h)
/-- Behind the append, at the store. -/
theorem IsW.grow {w w2 w1 : World} {pb : Nat} {v : Value} {T : TypeId} {l l2 : List UInt8} (h : IsW w pb v T l) (hc : Chg (fun _ => False) w w2) (hgr : w2.grownBy w1 v.ownBlock) {ao : Option Addr} {n cap : Nat}
    (hown : Own w1 5 1 (.slice ao n cap) n (bcells l ++ bcells l2)) (hn : n = l.length + l2.length)
    (hblk : (Value.slice ao n cap).ownBlock = v.ownBlock ∨ (Value.slice ao n cap).ownBlock = some w2.heap.size) :
    w1.heap[pb]? = some (.cells #[v] T (0,0)) ∧ WStep w pb v T l l2 (w1.setCell ⟨pb, 0, none⟩ (.slice ao n cap)) := by
  have hp := lt_of_block h.blk
  have hp2 : pb < w2.heap.size := Nat.lt_of_lt_of_le hp hc.size
  have b1 : w1.heap[pb]? = some (.cells #[v] T (0,0)) := (hgr.block pb hp2 (Ne.symm h.ne)).trans (hc.keep h.blk id)
  have hne : (Value.slice ao n cap).ownBlock ≠ some pb := by
    rcases hblk with e | e
    · rw [e]; exact h.ne
    · rw [e]; intro e; simp at e; omega
  refine ⟨b1, .slice ao n cap, ⟨one_setCell b1, ?_, hne⟩, ?_, fun k hk => ?_⟩
  · rw [bcells_append, List.length_append, ← hn]
    exact ownsRow_setCell_other hown hne _
  · refine Chg.setCell (Chg.grown (hc.mono fun _ _ h => h.elim) hgr fun k hk => .inr (.inr hk)) (.inr (.inl rfl)) _
  · rcases hblk with e | e
    · rw [e] at hk; exact .inl hk
    · rw [e] at hk; simp at hk; subst hk; exact .inr hc.size

set_option maxRecDepth 100000 in
set_option maxHeartbeats 800000 in
theorem fixed_any (pb : Nat) (v : Value) (T : TypeId) (n size : Int) (l : List UInt8) (w : World)
    (hw : IsW w pb v T l) (hs0 : 0 ≤ size) (hs1 : size ≤ 8) (hn0 : 0 ≤ n) (_hn1 : n ≤ 18446744073709551615) (hl : l.length ≤ 1000000000) :
    Calls Try.prog 38 #[.pointer (some ⟨pb, 0, none⟩), .int .u64 n, .int .i64 size] w fun e w' => e = .returned (.tuple #[]) ∧ WStep w pb v T l (be n size.toNat size.toNat) w' := by
  obtain ⟨s, rfl⟩ := Int.eq_ofNat_of_zero_le hs0
  rw [Int.toNat_natCast]
  go_enter Try.func38, Try.ntmps38
  go_wp2_with fail
  go_loopw [8] (fun i wr => ∃ k : Nat, k ≤ s ∧ i = .int .i64 k ∧ WStep w pb v T l (be n s k) wr) (fun i wr => (s - (intOf i).toNat))
  case atStart => exact ⟨0, Nat.zero_le _, rfl, WStep.refl hw⟩
  case round =>
    obtain ⟨k, hk, rfl, v', hW, hc, hb⟩ := hrel
    by_cases hlt : k < s
    · have c0 := cell_of_one hW.blk
      have f0 := free_of_one hW.blk
      have hown := hW.own
      have HW := Lib.hid hW
      clear hW
      have hsb : n / 2 ^ (8 * (s - 1 - k)) % 256 = ((UInt8.ofNat (n.toNat / 256 ^ (s - 1 - k))).toNat : Int) := shr_byte n hn0 _
      have HS := Lib.hid hsb
      clear hsb
      have hll : (l ++ be n s k).length ≤ 1000000008 := by simp; omega
      go_wp2_with fail
      refine wp_region_text mixed (by kernel_rfl) ?_
      go_wp2_with (at_builtin; refine wpl_append rfl (.tmp 15) (.tmp 24) 22 rfl tyBytes (hown.alloc _).drew (Sl.built1 _ _ _ rfl).drew rfl rfl (by unfold maxLen; omega) (by omega) ?_; intro ao cap w1 hown1 hgr hblk; rw [HS.out] at hown1 hgr hblk; obtain ⟨b1, st⟩ := HW.out.grow (l2 := [UInt8.ofNat (n.toNat / 256 ^ (s - 1 - k))]) (((Chg.refl _ _).alloc _).drew) hgr hown1 (by simp) hblk; have c1 := cell_of_one b1; have f1 := free_of_one b1; clear c0 f0 hown hown1 hgr hblk b1)
      refine TQ.normal (by kernel_rfl) ?_
      go_wp2_with fail
      go_roundw
      case rel => exact ⟨k + 1, by omega, by go_num, by rw [be_succ]; exact WStep.trans hc hb (by rw [List.length_append, be_length] at st; exact st)⟩
      case measure => simp [intOf]; omega
    · obtain rfl : k = s := by omega
      go_wp2_with fail
      go_end0
      exact ⟨rfl, v', hW, hc, hb⟩

/-! ### The other calls of a Writer -/
set_option maxRecDepth 100000 in
theorem u8_any (pb : Nat) (v : Value) (T : TypeId) (n : Int) (l : List UInt8) (w : World) (hw : IsW w pb v T l) (hn0 : 0 ≤ n) (hn1 : n ≤ 255) (hl : l.length ≤ 1000000000) :
    Calls Try.prog 28 #[.pointer (some ⟨pb, 0, none⟩), .int .u8 n] w fun e w' => e = .returned (.tuple #[]) ∧ WStep w pb v T l (be n 1 1) w' := by
  go_enter Try.func28, Try.ntmps28
  go_wp2_with (go_at_call 38; refine (fixed_any pb v T n 1 l _ hw (by omega) (by omega) (by omega) (by omega) hl).mono ?_; rintro e w' ⟨rfl, hw'⟩)
  go_end0
  exact ⟨rfl, hw'⟩
set_option maxRecDepth 100000 in
theorem u32_any (pb : Nat) (v : Value) (T : TypeId) (n : Int) (l : List UInt8) (w : World) (hw : IsW w pb v T l) (hn0 : 0 ≤ n) (hn1 : n ≤ 4294967295) (hl : l.length ≤ 1000000000) :
    Calls Try.prog 12 #[.pointer (some ⟨pb, 0, none⟩), .int .u32 n] w fun e w' => e = .returned (.tuple #[]) ∧ WStep w pb v T l (be n 4 4) w' := by
  go_enter Try.func12, Try.ntmps12
  go_wp2_with (go_at_call 38; refine (fixed_any pb v T n 4 l _ hw (by omega) (by omega) (by omega) (by omega) hl).mono ?_; rintro e w' ⟨rfl, hw'⟩)
  go_end0
  exact ⟨rfl, hw'⟩
set_option maxRecDepth 100000 in
theorem u64_any (pb : Nat) (v : Value) (T : TypeId) (n : Int) (l : List UInt8) (w : World) (hw : IsW w pb v T l) (hn0 : 0 ≤ n) (hn1 : n ≤ 18446744073709551615) (hl : l.length ≤ 1000000000) :
    Calls Try.prog 30 #[.pointer (some ⟨pb, 0, none⟩), .int .u64 n] w fun e w' => e = .returned (.tuple #[]) ∧ WStep w pb v T l (be n 8 8) w' := by
  go_enter Try.func30, Try.ntmps30
  go_wp2_with (go_at_call 38; refine (fixed_any pb v T n 8 l _ hw (by omega) (by omega) (by omega) (by omega) hl).mono ?_; rintro e w' ⟨rfl, hw'⟩)
  go_end0
  exact ⟨rfl, hw'⟩

theorem len64_any (x : Int) (w : World) (h0 : 0 ≤ x) (h1 : x ≤ 18446744073709551615) :
    Calls Try.prog 51 #[.int .u64 x] w fun e w' => e = .returned (.int .i64 (Lib.bitLen x.toNat)) ∧ w = w' :=
  (Try.bits_Len64 x w h0 h1).mono fun _ _ h => ⟨h.1, h.2.symm⟩
theorem or128_all : ∀ b : Fin 256, bits BinOp.or IntKind.u8 (b.val : Int) 128 = ((128 + b.val % 128 : Nat) : Int) := by decide +kernel
theorem or128 (x : Nat) : bits BinOp.or IntKind.u8 ((x : Int) % 256) 128 = ((UInt8.ofNat (128 + x % 128)).toNat : Int) := by
  have h := or128_all ⟨x % 256, Nat.mod_lt _ (by decide)⟩
  simp only at h
  have e : ((x % 256 : Nat) : Int) = (x : Int) % 256 := by omega
  rw [← e, h]
  have : x % 256 % 128 = x % 128 := Nat.mod_mod_of_dvd x (by decide)
  rw [this]
  simp
  omega

set_option maxRecDepth 100000 in
set_option maxHeartbeats 800000 in
theorem var_any (pb : Nat) (v : Value) (T : TypeId) (n : Int) (l : List UInt8) (w : World) (hw : IsW w pb v T l) (hn0 : 0 ≤ n) (hn1 : n ≤ 18446744073709551615) (hl : l.length ≤ 1000000000) :
    Calls Try.prog 32 #[.pointer (some ⟨pb, 0, none⟩), .int .u64 n] w fun e w' => e = .returned (.tuple #[]) ∧ WStep w pb v T l (varB n.toNat) w' := by
  obtain ⟨m, rfl⟩ := Int.eq_ofNat_of_zero_le hn0
  rw [Int.toNat_natCast]
  have hm : m < 2 ^ 64 := by omega
  have hb := Lib.bitLen_le m 64 (Nat.le_refl _) hm
  go_enter Try.func32, Try.ntmps32
  go_wp2_with (go_at_call 51; refine (len64_any _ _ hn0 hn1).mono ?_; rintro e w' ⟨rfl, rfl⟩)
  have hr : (max 1 (Lib.bitLen m : Int) - 1) / 7 = (rounds m : Int) := by unfold rounds; omega
  rw [hr]
  clear hr
  have hr9 := rounds_le hm
  go_loopw [1, 9] (fun n i wr => ∃ k : Nat, k ≤ rounds m ∧ i = .int .i64 k ∧ n = .int .u64 (m / 128 ^ k : Nat) ∧ WStep w pb v T l (varHead m k) wr) (fun _ i wr => (rounds m - (intOf i).toNat))
  case atStart => exact ⟨0, Nat.zero_le _, rfl, by simp, WStep.refl hw⟩
  case round =>
    obtain ⟨k, hk, rfl, rfl, v', hW, hc, hb⟩ := hrel
    have hq := rounds_ge hm k
    have hlo : m / 128 ^ k ≤ m := Nat.div_le_self _ _
    have hdiv : m / 128 ^ (k + 1) = m / 128 ^ k / 128 := by rw [Nat.div_div_eq_div_mul, Nat.pow_succ]
    have HD := Lib.hid hdiv
    clear hdiv
    have hsx := or128 (m / 128 ^ k)
    have HS := Lib.hid hsx
    clear hsx
    generalize hx : m / 128 ^ k = x at *
    have HX := Lib.hid hx
    clear hx
    have c0 := cell_of_one hW.blk
    have f0 := free_of_one hW.blk
    have hown := hW.own
    have HW := Lib.hid hW
    clear hW
    have hll : (l ++ varHead m k).length ≤ 1000000009 := by simp; omega
    by_cases hlt : k < rounds m
    · have hq' := hq hlt
      clear hq
      go_wp2_with (at_builtin; refine wpl_append rfl (.tmp 15) (.tmp 19) 22 rfl tyBytes (hown.alloc _) (Sl.built1 _ _ _ rfl) rfl rfl (by unfold maxLen; omega) (by omega) ?_; intro ao cap w1 hown1 hgr hblk; rw [HS.out] at hown1 hgr hblk; obtain ⟨b1, st⟩ := HW.out.grow (l2 := [UInt8.ofNat (128 + x % 128)]) ((Chg.refl _ _).alloc _) hgr hown1 (by simp) hblk; have c1 := cell_of_one b1; have f1 := free_of_one b1; clear c0 f0 hown hown1 hgr hblk b1)
      go_roundw
      case rel => exact ⟨k + 1, by omega, by go_num, by rw [HD.out]; go_num, by rw [varHead, HX.out]; exact WStep.trans hc hb (by rw [List.length_append, varHead_length] at st; exact st)⟩
      case measure => simp [intOf]; omega
    · obtain rfl : k = rounds m := by omega
      have hx8 : x < 128 := by rw [← HX.out]; exact rounds_lt hm
      have hsb : (x : Int) = ((UInt8.ofNat x).toNat : Int) := by simp; omega
      have HB := Lib.hid hsb
      clear hsb hq
      go_wp2_with (at_builtin; refine wpl_append rfl (.tmp 30) (.tmp 33) 22 rfl tyBytes (hown.alloc _) (Sl.built1 _ _ _ rfl) rfl rfl (by unfold maxLen; omega) (by omega) ?_; intro ao cap w1 hown1 hgr hblk; rw [HB.out] at hown1 hgr hblk; obtain ⟨b1, st⟩ := HW.out.grow (l2 := [UInt8.ofNat x]) ((Chg.refl _ _).alloc _) hgr hown1 (by simp) hblk; have c1 := cell_of_one b1; have f1 := free_of_one b1; clear c0 f0 hown hown1 hgr hblk b1)
      go_end0
      exact ⟨rfl, by rw [varB_rounds hm, HX.out]; exact WStep.trans hc hb (by rw [List.length_append, varHead_length] at st; exact st)⟩

/-! ### Raw, Bytes, Len, Out -/
set_option maxRecDepth 100000 in
theorem raw_any (pb : Nat) (v x : Value) (T : TypeId) (l b : List UInt8) (w : World) (hw : IsW w pb v T l) (hx : Rd w x b) (hl : l.length ≤ 1000000000) (hb : b.length ≤ 1000000000) :
    Calls Try.prog 34 #[.pointer (some ⟨pb, 0, none⟩), x] w fun e w' => e = .returned (.tuple #[]) ∧ WStep w pb v T l b w' := by
  have c0 := cell_of_one hw.blk
  have f0 := free_of_one hw.blk
  have hown := hw.own
  have HW := Lib.hid hw
  clear hw
  go_enter Try.func34, Try.ntmps34
  go_wp2_with (at_builtin; refine wpl_append rfl (.tmp 8) (.tmp 9) 22 rfl tyBytes hown hx rfl rfl (by unfold maxLen; omega) (by omega) ?_; intro ao cap w1 hown1 hgr hblk; obtain ⟨b1, st⟩ := HW.out.grow (Chg.refl _ _) hgr hown1 rfl hblk; have c1 := cell_of_one b1; have f1 := free_of_one b1; clear c0 f0 hown hown1 hgr hblk b1)
  go_end0
  exact ⟨rfl, st⟩

set_option maxRecDepth 100000 in
theorem wbytes_any (pb : Nat) (v x : Value) (T : TypeId) (l b : List UInt8) (w : World) (hw : IsW w pb v T l) (hx : Rd w x b) (hsep : ∀ k, rdb x = some k → k ≠ pb ∧ v.ownBlock ≠ some k) (hl : l.length ≤ 900000000) (hb : b.length ≤ 900000000) :
    Calls Try.prog 14 #[.pointer (some ⟨pb, 0, none⟩), x] w fun e w' => e = .returned (.tuple #[]) ∧ WStep w pb v T l (varB b.length ++ b) w' := by
  obtain ⟨ao, c, hxv, _⟩ := hx.form
  have hv := varB_len b.length (by omega)
  go_enter Try.func14, Try.ntmps14
  rw [hxv]
  go_wp2_with fail
  refine (var_any pb v T _ l _ hw (by omega) (by omega) (by omega)).mono ?_
  rintro e w1 ⟨rfl, v1, hw1, hc1, hb1⟩
  rw [Int.toNat_natCast] at hw1
  go_wp2_with fail
  have hx1 := hx.kept hc1 (fun k hk h => by
    rcases h with h | h
    · exact (hsep k hk).1 h
    · exact (hsep k hk).2 h)
  rw [hxv] at hx1
  refine (raw_any pb v1 _ T _ b _ hw1 hx1 (by simp; omega) (by omega)).mono ?_
  rintro e w2 ⟨rfl, st⟩
  go_wp2_with fail
  go_end0
  exact ⟨rfl, WStep.trans hc1 hb1 st⟩

set_option maxRecDepth 100000 in
theorem wlen_any (pb : Nat) (v : Value) (T : TypeId) (l : List UInt8) (w : World) (hw : IsW w pb v T l) :
    Calls Try.prog 11 #[.pointer (some ⟨pb, 0, none⟩)] w fun e w' => e = .returned (.int .i64 l.length) ∧ w = w' := by
  have c0 := cell_of_one hw.blk
  obtain ⟨ao, cap, rfl, _⟩ := hw.own.form
  clear hw
  go_enter Try.func11, Try.ntmps11
  go_wp2_with fail
  go_ret
  exact ⟨rfl, rfl⟩

/-- code.taken: the bytes in new memory. -/
def Taken (w : World) (l : List UInt8) (e : Ending) (w' : World) : Prop :=
  e = .returned (.slice (some ⟨w.heap.size, 0, none⟩) l.length l.length) ∧ Own w' 5 1 (.slice (some ⟨w.heap.size, 0, none⟩) l.length l.length) l.length (bcells l) ∧ Chg (fun _ => False) w w' ∧ w.heap.size < w'.heap.size

set_option maxRecDepth 100000 in
theorem taken_any (x : Value) (l : List UInt8) (w : World) (hx : Rd w x l) (hl : l.length ≤ 1000000000) :
    Calls Try.prog 37 #[x] w (Taken w l) := by
  obtain ⟨ao, c, hxv, _⟩ := hx.form
  subst hxv
  go_enter Try.func37, Try.ntmps37
  go_wp2_with (first | ((with_reducible show wpList _ _ _ (⟨some 6, _, _, _, _, _⟩ :: _) _ _); refine wpl_make (o := ⟨some 6, _, _, _, _, _⟩) rfl (.tmp 5) (.tmp 5) 22 rfl tyBytes rfl (l.length) rfl rfl (by unfold maxLen; omega) (by omega) ?_; intro w1 hown1 hc1 hs1) | ((with_reducible show wpList _ _ _ (⟨some 9, _, _, _, _, _⟩ :: _) _ _); refine wpl_copy (o := ⟨some 9, _, _, _, _, _⟩) rfl (.tmp 7) (.tmp 8) 22 rfl tyBytes (hown1) (hx.kept hc1 (fun _ _ => id)) rfl rfl ?_; intro w2 hown2 hc2))
  go_ret
  exact ⟨rfl, hown2, hc1.trans hc2 (fun k hk h => by simp [Value.ownBlock] at h; omega), Nat.lt_of_lt_of_le hs1 hc2.size⟩

set_option maxRecDepth 100000 in
theorem out_any (pb : Nat) (v : Value) (T : TypeId) (l : List UInt8) (w : World) (hw : IsW w pb v T l) (hl : l.length ≤ 1000000000) :
    Calls Try.prog 10 #[.pointer (some ⟨pb, 0, none⟩)] w (Taken w l) := by
  have c0 := cell_of_one hw.blk
  have hr : Rd w v l := hw.own.sl (bcells_one l)
  clear hw
  go_enter Try.func10, Try.ntmps10
  go_wp2_with (go_at_call 37; refine (taken_any _ l _ hr hl).mono ?_; rintro e w' ⟨rfl, ht⟩)
  go_ret
  exact ⟨rfl, ht⟩

/-- A new Writer. -/
def NewW (w : World) (e : Ending) (w' : World) : Prop := ∃ T, e = .returned (.pointer (some ⟨w.heap.size, 0, none⟩)) ∧ IsW w' w.heap.size (.slice none 0 0) T [] ∧ Chg (fun _ => False) w w' ∧ w.heap.size < w'.heap.size
set_option maxRecDepth 100000 in
theorem new_any (w : World) : Calls Try.prog 6 #[] w (NewW w) := by
  go_enter Try.func6, Try.ntmps6
  go_wp2_with fail
  go_ret
  exact ⟨_, rfl, ⟨heap_alloc_new _ _, World.ownsRow_nil _ _ _ _, by simp [Value.ownBlock]⟩, (Chg.refl _ _).alloc _, by simp⟩
end Go.Proofs.Ytnfmeaifbankjaa
