import Derived.Test.YtnfmeaifbankjaaReader
set_option linter.unusedVariables false
namespace Go.Proofs.Ytnfmeaifbankjaa
open Go Go.RowKit Go.Sat

/-- A new Reader. -/
def NewR (w : World) (l : List UInt8) (e : Ending) (w' : World) : Prop :=
  ∃ pb v T, e = .returned (.pointer (some ⟨pb, 0, none⟩)) ∧ IsR w' pb v T met ⟨l, 0, 0⟩ ∧ Chg (fun _ => False) w w' ∧ w.heap.size ≤ pb ∧ ∀ k, rdb v = some k → w.heap.size ≤ k
set_option maxRecDepth 100000 in
theorem read_any (x : Value) (l : List UInt8) (w : World) (hx : Rd w x l) (hl : l.length ≤ 1000000000) :
    Calls Try.prog 16 #[x] w (NewR w l) := by
  go_enter Try.func16, Try.ntmps16
  go_wp2_with fail
  refine (taken_any _ l _ hx hl).mono ?_
  rintro e w1 ⟨rfl, ho, hc, hs⟩
  go_wp2_with fail
  go_ret
  have hc2 := hc.alloc (.cells #[.slice (some ⟨w.heap.size, 0, none⟩) l.length l.length, .int .i64 0, .int .i64 0] 88)
  refine ⟨w1.heap.size, _, _, rfl, ⟨Blk.new w1 _ _, (Own.rd ho).kept ((Chg.refl (fun _ => False) w1).alloc _) (fun _ _ => id), fun k hk => ?_, ⟨Nat.zero_le _, Nat.zero_le _⟩, hl⟩, hc2, hc.size, fun k hk => ?_⟩
  · simp [rdb] at hk; omega
  · simp [rdb] at hk; omega

set_option maxRecDepth 100000 in
set_option maxHeartbeats 800000 in
theorem rdfixed_any (pb : Nat) (v : Value) (T : TypeId) (s : RS) (n : Nat) (w : World) (h : IsR w pb v T met s) (hn : n ≤ 8) :
    Calls Try.prog 40 #[.pointer (some ⟨pb, 0, none⟩), .int .i64 n] w fun e w' => e = .returned (.int .u64 (s.fixed n).1) ∧ RStep w pb v T met (s.fixed n).2 w' := by
  unfold RS.fixed
  have hbl : (s.next n).1.length ≤ n := by unfold RS.next; split; · simp
                                           split
                                           · simp
                                           · simp; omega
  have hnx := rnext_any pb v T s n w h (fun _ => by omega)
  generalize (s.next n).1 = b at *
  generalize (s.next n).2 = s' at *
  have HX := Lib.hid hnx
  clear h hnx
  go_enter Try.func40, Try.ntmps40
  go_wp2_with fail
  refine HX.out.mono ?_
  rintro e w1 ⟨y, rfl, hy, hyb, hR, hC⟩
  obtain ⟨ao, c, rfl, hc⟩ := hy.form
  have HY := Lib.hid hy
  clear hy hyb
  go_wp2_with fail
  go_loop [5, 12] (fun q i => ∃ k : Nat, k ≤ b.length ∧ i = .int .i64 k ∧ q = .int .u64 (RS.num (b.take k))) (fun _ i => b.length - (intOf i).toNat)
  case atStart => exact ⟨0, Nat.zero_le _, rfl, rfl⟩
  case round =>
    obtain ⟨k, hk, rfl, rfl⟩ := hrel
    by_cases hlt : k < b.length
    · obtain ⟨g, off, c', e1, _, _⟩ := HY.out.addr (by omega)
      cases e1
      have c1 := HY.out.cell hlt
      have hlim := RS.num_lt (b.take k)
      have hlim2 : RS.num (b.take k) < 72057594037927936 := by
        refine Nat.lt_of_lt_of_le hlim ?_
        have : (b.take k).length ≤ 7 := by simp; omega
        exact Nat.pow_le_pow_right (by decide) this
      have hnext := RS.num_take_succ b k hlt
      generalize b[k] = x at c1 hnext
      have hx := x.toNat_lt
      generalize RS.num (b.take k) = q at hlim2 hnext
      have hor : bits BinOp.or IntKind.u64 ((q : Int) * 256) (x.toNat : Int) = ((q * 256 + x.toNat : Nat) : Int) := by
        have := u64_or_nat (q * 256) x.toNat (by omega) (by omega)
        rw [or_low q x.toNat hx] at this
        rw [← this]; rfl
      have HN := Lib.hid hnext
      have HO := Lib.hid hor
      clear hnext hor hlim
      go_wp2_with fail
      go_round
      case rel => exact ⟨k + 1, by omega, by go_num, by rw [HN.out]; rw [HO.out]⟩
      case measure => simp [intOf]; omega
    · obtain rfl : k = b.length := by omega
      rw [List.take_length]
      go_wp2_with fail
      go_ret
      exact ⟨rfl, hR, hC⟩

theorem RS.fixed_lt (s : RS) (n : Nat) : (s.fixed n).1 < 256 ^ n := by
  have h := RS.num_lt (s.next n).1
  refine Nat.lt_of_lt_of_le h (Nat.pow_le_pow_right (by decide) ?_)
  unfold RS.next
  split
  · simp
  · split
    · simp
    · simp; omega
set_option maxRecDepth 100000 in
theorem rdu32_any (pb : Nat) (v : Value) (T : TypeId) (s : RS) (w : World) (h : IsR w pb v T met s) :
    Calls Try.prog 18 #[.pointer (some ⟨pb, 0, none⟩)] w fun e w' => e = .returned (.int .u32 (s.fixed 4).1) ∧ RStep w pb v T met (s.fixed 4).2 w' := by
  have hlt := RS.fixed_lt s 4
  go_enter Try.func18, Try.ntmps18
  go_wp2_with (go_at_call 40; refine (rdfixed_any pb v T s 4 _ h (by omega)).mono ?_; rintro e w1 ⟨rfl, hR⟩)
  go_ret
  exact ⟨rfl, hR⟩
theorem Rd.lt {w : World} {x : Value} {l : List UInt8} (h : Rd w x l) {k : Nat} (hk : rdb x = some k) : k < w.heap.size := by
  by_cases h0 : 0 < l.length
  · obtain ⟨b, off, c, rfl, _, hb⟩ := h.addr h0
    simp only [rdb] at hk
    split at hk
    · cases hk
    · cases hk; exact hb
  · obtain ⟨ao, c, rfl, _⟩ := h.form
    have : l.length = 0 := by omega
    rw [this] at hk
    cases ao <;> simp [rdb] at hk
theorem eq_self_any (x y : Value) (l : List UInt8) (w : World) (hx : Rd w x l) (hy : Rd w y l) (hl : l.length ≤ 1000000000) :
    Calls Try.prog 9 #[x, y] w fun e w' => e = .returned (.bool true) ∧ Drawn w w' := by
  have h := eq_any x y l l w hx hy hl hl
  rwa [eqB_self] at h
end Go.Proofs.Ytnfmeaifbankjaa
