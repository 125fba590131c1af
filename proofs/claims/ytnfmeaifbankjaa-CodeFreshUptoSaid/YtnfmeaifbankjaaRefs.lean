import Derived.Test.YtnfmeaifbankjaaRefs0
namespace Go.Proofs.Ytnfmeaifbankjaa
open Go Go.RowKit Go.Sat

/-- The bytes that ref1.fixed has behind k rounds: the last k are laid. -/
def tailB (n : Int) (size k : Nat) : List Value := List.replicate (size - k) (.int .u8 0) ++ (bcells (be n size size)).drop (size - k)
theorem tailB_step (n : Int) (size k : Nat) (h : k < size) : (tailB n size k).set (size - 1 - k) (.int .u8 ((UInt8.ofNat (n.toNat / 256 ^ k)).toNat : Int)) = tailB n size (k + 1) := by
  refine List.ext_getElem? fun j => ?_
  simp only [tailB, List.getElem?_set, List.getElem?_append, List.length_replicate, List.getElem?_replicate, List.getElem?_drop, List.length_append, List.length_drop, bcells_length, be_length]
  have hb : ∀ q, q < size → (bcells (be n size size))[q]? = some (.int .u8 ((UInt8.ofNat (n.toNat / 256 ^ (size - 1 - q))).toNat : Int)) := fun q hq => by rw [bcells_get, be_get _ _ _ _ hq]; rfl
  by_cases h1 : size - 1 - k = j
  · subst h1
    rw [if_pos rfl, if_pos (by omega), if_neg (by omega), hb _ (by omega), show size - 1 - (size - (k + 1) + (size - 1 - k - (size - (k + 1)))) = k by omega]
  · rw [if_neg h1]
    by_cases h2 : j < size - (k + 1)
    · rw [if_pos (by omega), if_pos (by omega), if_pos h2, if_pos h2]
    · rw [if_neg (by omega), if_neg h2]
      congr 1
      omega
theorem tailB_zero (n : Int) (size : Nat) : tailB n size 0 = List.replicate size (.int .u8 0) := by
  simp [tailB, List.drop_of_length_le]
theorem tailB_all (n : Int) (size : Nat) : tailB n size size = bcells (be n size size) := by simp [tailB]

set_option maxRecDepth 100000 in
set_option maxHeartbeats 800000 in
theorem rfixed_any (n size : Int) (w : World) (hs0 : 0 ≤ size) (hs1 : size ≤ 8) (hn0 : 0 ≤ n) (hn1 : n ≤ 18446744073709551615) :
    Calls Try.prog 39 #[.int .u64 n, .int .i64 size] w (NewB 5 w (be n size.toNat size.toNat)) := by
  obtain ⟨s, rfl⟩ := Int.eq_ofNat_of_zero_le hs0
  rw [Int.toNat_natCast]
  go_enter Try.func39, Try.ntmps39
  go_wp2_with (refine wpl_make (o := ⟨some 8, _, _, _, _, _⟩) rfl (.tmp 7) (.tmp 7) 22 rfl tyBytes rfl s rfl rfl (by unfold maxLen; omega) (by omega) ?_; intro w1 hown1 hc1 hlt1)
  go_loopw [0, 6] (fun x i wr => ∃ k : Nat, k ≤ s ∧ i = .int .i64 ((s : Int) - 1 - k) ∧ x = .int .u64 (n / (256 ^ k : Nat)) ∧ Own wr 5 1 (.slice (some ⟨w.heap.size, 0, none⟩) s s) s (tailB n s k) ∧ Chg (fun _ => False) w wr) (fun _ i _ => (intOf i + 1).toNat)
  case atStart => exact ⟨0, Nat.zero_le _, by simp, by simp, by rw [tailB_zero]; exact hown1, hc1⟩
  case round =>
    obtain ⟨k, hk, rfl, rfl, hown, hc⟩ := hrel
    have hdb := div_byte n hn0 k
    have hq0 : 0 ≤ n / (256 ^ k : Nat) := Int.ediv_nonneg hn0 (Int.natCast_nonneg _)
    have hq1 : n / (256 ^ k : Nat) ≤ n := Int.ediv_le_self _ hn0
    have hdd : n / (256 ^ (k + 1) : Nat) = n / (256 ^ k : Nat) / 256 := by rw [Int.ediv_ediv_of_nonneg (Int.natCast_nonneg _), Nat.pow_succ]; simp
    have HD := Lib.hid hdb
    have HQ := Lib.hid hdd
    clear hdb hdd
    generalize hx : n / (256 ^ k : Nat) = x at *
    clear hx
    by_cases hlt : k < s
    · have hst := hown.store (i := s - 1 - k) (by omega) (.int .u8 ((UInt8.ofNat (n.toNat / 256 ^ k)).toNat : Int))
      obtain ⟨hst1, hf, hcell⟩ := hst
      rw [tailB_step n s k hlt] at hst1
      have hcell' : wr.cell? ⟨w.heap.size, s - 1 - k, none⟩ = some (.int .u8 0) := by
        rw [hcell, tailB, List.getElem?_append_left (by simp; omega), List.getElem?_replicate, if_pos (by omega)]
      clear hcell
      go_wp2_with fail
      go_roundw
      case rel =>
        rw [HD.out]
        exact ⟨k + 1, by omega, by go_num, by rw [HQ.out], hst1, hc.setCell (.inl (Nat.le_refl _)) _⟩
      case measure => simp [intOf]; omega
    · obtain rfl : k = s := by omega
      rw [tailB_all] at hown
      go_wp2_with fail
      go_ret
      exact ⟨_, rfl, by rw [be_length]; exact hown, hc, fun j hj => by simp [Value.ownBlock] at hj; omega⟩

set_option maxRecDepth 100000 in
theorem ru8_any (n : Int) (w : World) (hn0 : 0 ≤ n) (hn1 : n ≤ 255) :
    Calls Try.prog 29 #[.int .u8 n] w (NewB 5 w (be n 1 1)) := by
  go_enter Try.func29, Try.ntmps29
  go_wp2_with (go_at_call 39; refine (rfixed_any n 1 _ (by omega) (by omega) (by omega) (by omega)).mono ?_; rintro e w' ⟨v, rfl, ho, hc, hb⟩)
  go_ret
  exact ⟨_, rfl, ho, hc, hb⟩
set_option maxRecDepth 100000 in
theorem ru32_any (n : Int) (w : World) (hn0 : 0 ≤ n) (hn1 : n ≤ 4294967295) :
    Calls Try.prog 13 #[.int .u32 n] w (NewB 5 w (be n 4 4)) := by
  go_enter Try.func13, Try.ntmps13
  go_wp2_with (go_at_call 39; refine (rfixed_any n 4 _ (by omega) (by omega) (by omega) (by omega)).mono ?_; rintro e w' ⟨v, rfl, ho, hc, hb⟩)
  go_ret
  exact ⟨_, rfl, ho, hc, hb⟩
set_option maxRecDepth 100000 in
theorem ru64_any (n : Int) (w : World) (hn0 : 0 ≤ n) (hn1 : n ≤ 18446744073709551615) :
    Calls Try.prog 31 #[.int .u64 n] w (NewB 5 w (be n 8 8)) := by
  go_enter Try.func31, Try.ntmps31
  go_wp2_with (go_at_call 39; refine (rfixed_any n 8 _ (by omega) (by omega) (by omega) (by omega)).mono ?_; rintro e w' ⟨v, rfl, ho, hc, hb⟩)
  go_ret
  exact ⟨_, rfl, ho, hc, hb⟩
end Go.Proofs.Ytnfmeaifbankjaa
