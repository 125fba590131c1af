import Derived.Test.YtnfmeaifbankjaaReader3
set_option linter.unusedVariables false
namespace Go.Proofs.Ytnfmeaifbankjaa
open Go Go.RowKit Go.Sat

theorem vr_bad {l : List UInt8} {most : Nat} {m : Nat} (h : vr l most = .bad m) : 1 ≤ m ∧ m ≤ 3 := by
  unfold vr at h
  split at h
  · split at h <;> (cases h; omega)
  · split at h
    · cases h; omega
    · split at h
      · cases h; omega
      · cases h
theorem vr_ok {l : List UInt8} {most n k : Nat} (h : vr l most = .ok n k) : k ≤ l.length ∧ n ≤ most ∧ 0 < k ∧ n = val (l.take k) := by
  unfold vr at h
  split at h
  · split at h <;> cases h
  · rename_i j hj
    split at h
    · cases h
    · split at h
      · cases h
      · cases h
        have := endAt_lt l j hj
        exact ⟨by omega, by omega, by omega, rfl⟩
theorem RS.var_ok {s : RS} (h : s.Ok) (most : Nat) : (s.var most).2.Ok ∧ (s.var most).1 ≤ most ∧ (s.var most).2.l = s.l := by
  unfold RS.var
  split
  · exact ⟨h, Nat.zero_le _, rfl⟩
  · cases hv : vr s.look most with
    | bad m => exact ⟨RS.fall_ok h (by have := vr_bad hv; omega), Nat.zero_le _, rfl⟩
    | ok n k =>
      have h1 := vr_ok hv
      have h2 := RS.look_len_eq h
      have h3 := h.le
      exact ⟨⟨by simp only [RS.aft]; unfold RS.left at h2; omega, h.met⟩, h1.2.1, rfl⟩

set_option maxRecDepth 100000 in
set_option maxHeartbeats 800000 in
theorem rdbytes_any (pb : Nat) (v : Value) (T : TypeId) (s : RS) (most : Int) (w : World) (h : IsR w pb v T met s) (hmost : -9223372036854775808 ≤ most ∧ most ≤ 9223372036854775807) :
    Calls Try.prog 20 #[.pointer (some ⟨pb, 0, none⟩), .int .i64 most] w (RTake w pb v T met (s.text most).1 (s.text most).2) := by
  have hlen := h.len
  obtain ⟨c0', c1, c2, -, -⟩ := h.facts
  obtain ⟨m, hm⟩ : ∃ m : Nat, max 0 most = (m : Int) := ⟨(max 0 most).toNat, by omega⟩
  have hm63 : m ≤ 9223372036854775807 := by omega
  have htext : s.text most = if (s.var m).2.met = 0 ∧ (s.var m).2.left < (s.var m).1 then ([], s.fall 1) else (s.var m).2.next (s.var m).1 := by
    unfold RS.text
    rw [hm, Int.toNat_natCast]
  rw [htext]
  obtain ⟨ho1, ho2, ho3⟩ := RS.var_ok h.ok m
  have hvc := rdvar_any pb v T s m w h (by omega)
  have hp := h.ok
  generalize (s.var m).1 = n at *
  generalize (s.var m).2 = s1 at *
  have HVC := Lib.hid hvc
  have HMX := Lib.hid hm
  have HO3 := Lib.hid ho3
  have HPK := Lib.hid hp
  have hl1 : s1.l.length ≤ 1000000000 := by rw [ho3]; exact hlen
  have hleft := RS.left_eq ho1
  have hle1 := ho1.le
  have hlf : s1.left ≤ 1000000000 := by omega
  have HLF := Lib.hid hleft
  have HS := Lib.hid h
  clear h htext hvc hm ho3 hp hleft
  by_cases hc : s1.met = 0 ∧ s1.left < n
  · rw [if_pos hc]
    obtain ⟨hc1, hc2⟩ := hc
    have hb : ((met s1.met) == 0) = true := by simp [met, hc1]
    have HC1 := Lib.hid hc1
    clear hc1
    go_enter Try.func20, Try.ntmps20
    go_wp2_with fail
    rw [HMX.out]
    refine HVC.out.mono ?_
    rintro e w1 ⟨rfl, R1, hC1⟩
    obtain ⟨k0, k1, k2, -, -⟩ := R1.facts
    go_wp2_with fail
    refine (rleft_any pb v T met s1 _ R1).mono ?_
    rintro e w2 ⟨rfl, hd⟩
    have R2 := R1.calm (hd.chg _)
    go_wp2_with fail
    refine (rstop_any pb v _ _ T s.p 1 _ R2.blk).mono ?_
    rintro e w3 ⟨rfl, hb3, hc3⟩
    have hc13 := (hC1.trans (hd.chg (fun k => k = pb)) fun _ _ h => h).trans hc3 fun _ _ h => h
    have R3 : IsR w3 pb v T met (s.fall 1) := HS.out.put rfl (RS.fall_ok HPK.out (by omega)) hb3 hc13
    go_wp2_with fail
    refine (rnext_any pb v T (s.fall 1) _ _ R3 (fun e => by simp [RS.fall] at e)).mono ?_
    rintro e w4 ⟨y, rfl, hy, hyb, hR, hC⟩
    rw [show ∀ z : Int, (s.fall 1).next z = ([], s.fall 1) from fun z => by simp [RS.next, RS.fall]] at hy hR
    go_wp2_with fail
    refine (taken_any y _ _ hy (by simp)).mono ?_
    rintro e w5 ⟨rfl, ho, hc5, hs5⟩
    have hc14 := hc13.trans hC fun _ _ h => h
    go_wp2_with fail
    go_ret
    exact ⟨_, rfl, ho, fun k hk => by simp [Value.ownBlock] at hk; have := hc14.size; omega, hR.calm hc5, hc14.trans hc5 fun _ _ h => h.elim⟩
  · rw [if_neg hc]
    by_cases hc1 : s1.met = 0
    · have hc2 : ¬ s1.left < n := fun h => hc ⟨hc1, h⟩
      have hb : ((met s1.met) == 0) = true := by simp [met, hc1]
      have hn63 : n ≤ 9223372036854775807 := by omega
      clear hc hc1
      go_enter Try.func20, Try.ntmps20
      go_wp2_with fail
      rw [HMX.out]
      refine HVC.out.mono ?_
      rintro e w1 ⟨rfl, R1, hC1⟩
      obtain ⟨k0, k1, k2, -, -⟩ := R1.facts
      go_wp2_with fail
      refine (rleft_any pb v T met s1 _ R1).mono ?_
      rintro e w2 ⟨rfl, hd⟩
      have R2 := R1.calm (hd.chg _)
      go_wp2_with fail
      refine (rnext_any pb v T s1 n _ R2 (fun _ => by omega)).mono ?_
      rintro e w4 ⟨y, rfl, hy, hyb, hR, hC⟩
      have hnl := RS.next_len s1 n
      go_wp2_with fail
      refine (taken_any y _ _ hy (by omega)).mono ?_
      rintro e w5 ⟨rfl, ho, hc5, hs5⟩
      have hc14 := (hC1.trans (hd.chg (fun k => k = pb)) fun _ _ h => h).trans hC fun _ _ h => h
      go_wp2_with fail
      go_ret
      exact ⟨_, rfl, ho, fun k hk => by simp [Value.ownBlock] at hk; have := hc14.size; omega, hR.calm hc5, hc14.trans hc5 fun _ _ h => h.elim⟩
    · have hb : ((met s1.met) == 0) = false := by simp [met]; omega
      have hn63 : n ≤ 9223372036854775807 := by omega
      have HC1 := Lib.hid hc1
      clear hc hc1
      go_enter Try.func20, Try.ntmps20
      go_wp2_with fail
      rw [HMX.out]
      refine HVC.out.mono ?_
      rintro e w1 ⟨rfl, R1, hC1⟩
      obtain ⟨k0, k1, k2, -, -⟩ := R1.facts
      go_wp2_with fail
      refine (rnext_any pb v T s1 n _ R1 (fun _ => by omega)).mono ?_
      rintro e w4 ⟨y, rfl, hy, hyb, hR, hC⟩
      have hnl := RS.next_len s1 n
      go_wp2_with fail
      refine (taken_any y _ _ hy (by omega)).mono ?_
      rintro e w5 ⟨rfl, ho, hc5, hs5⟩
      have hc14 := hC1.trans hC fun _ _ h => h
      go_wp2_with fail
      go_ret
      exact ⟨_, rfl, ho, fun k hk => by simp [Value.ownBlock] at hk; have := hc14.size; omega, hR.calm hc5, hc14.trans hc5 fun _ _ h => h.elim⟩
end Go.Proofs.Ytnfmeaifbankjaa
