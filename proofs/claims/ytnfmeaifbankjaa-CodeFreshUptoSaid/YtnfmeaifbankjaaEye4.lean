import Derived.Test.YtnfmeaifbankjaaEye3
set_option linter.unusedVariables false
namespace Go.Proofs.Ytnfmeaifbankjaa
open Go Go.RowKit Go.Sat

theorem RS.var_p {s : RS} (h : s.met = 0) (most : Nat) (hb : (s.var most).2.met ≠ 0) : (s.var most).2.p = s.p := by
  unfold RS.var at hb ⊢
  rw [if_neg (by simp [h])] at hb ⊢
  cases hv : vr s.look most with
  | bad m => rfl
  | ok n k => rw [hv] at hb; exact (hb h).elim
theorem RS.var_bad {s : RS} (h : s.met ≠ 0) (most : Nat) : s.var most = (0, s) := by unfold RS.var; rw [if_pos h]

set_option maxRecDepth 100000 in
set_option maxHeartbeats 800000 in
theorem etext_any (pb : Nat) (v : Value) (T : TypeId) (s : RS) (most : Int) (w : World) (h : IsR w pb v T errO s) (hmost : -9223372036854775808 ≤ most ∧ most ≤ 9223372036854775807) :
    Calls Try.prog 22 #[.pointer (some ⟨pb, 0, none⟩), .int .i64 most] w (RTake w pb v T errO (s.text most).1 (s.text most).2) := by
  have hlen := h.len
  obtain ⟨c0', c1, c2, -, -⟩ := h.facts
  obtain ⟨m, hm⟩ : ∃ m : Nat, max 0 most = (m : Int) := ⟨(max 0 most).toNat, by omega⟩
  have hm63 : m ≤ 9223372036854775807 := by omega
  have htext : s.text most = if (s.var m).2.met = 0 ∧ (s.var m).2.left < (s.var m).1 then ([], s.fall 1) else (s.var m).2.next (s.var m).1 := by
    unfold RS.text
    rw [hm, Int.toNat_natCast]
  rw [htext]
  obtain ⟨ho1, ho2, ho3⟩ := RS.var_ok h.ok m
  have hvc := evar_any pb v T s m w h (by omega)
  have hp := h.ok
  have hvp : (s.var m).2.met ≠ 0 → (s.var m).2.p = s.p := fun hb => by
    by_cases h0 : s.met = 0
    · exact RS.var_p h0 m hb
    · rw [RS.var_bad h0]
  generalize (s.var m).1 = n at *
  generalize (s.var m).2 = s1 at *
  have HVC := Lib.hid hvc
  have HO3 := Lib.hid ho3
  have HPK := Lib.hid hp
  have HVP := Lib.hid hvp
  have hl1 : s1.l.length ≤ 1000000000 := by rw [ho3]; exact hlen
  have HS := Lib.hid h
  have hn63 : n ≤ 9223372036854775807 := by omega
  have hmm : (most < 0 ∧ m = 0) ∨ (¬ most < 0 ∧ most = m) := by omega
  have HMM := Lib.hid hmm
  have hmet1 := ho1.met
  clear h htext hvc hm ho3 hp hmm hvp
  have hraw : s1.raw n = s1.next n := by simp [RS.raw]; omega
  have key : ∀ w1, IsR w1 pb v T errO s1 → Calls Try.prog 24 #[.pointer (some ⟨pb, 0, none⟩), .int .i64 n] w1 (RTake w1 pb v T errO (s1.next n).1 (s1.next n).2) := fun w1 h1 => by
    have := eraw_any pb v T s1 n w1 h1
    rwa [hraw] at this
  have KEY := Lib.hid key
  clear key hraw
  by_cases hok : s1.met = 0 ∧ ¬ s1.left < n
  · obtain ⟨hok1, hok2⟩ := hok
    rw [if_neg (fun h => hok2 h.2)]
    have hnx : (s1.next n).2.met = 0 := by unfold RS.next; rw [if_neg (by simp [hok1]), if_neg (by omega)]; exact hok1
    have hb : ((errO (s1.next n).2.met) != 0) = false := by rw [hnx]; rfl
    generalize (s1.next n).1 = b at *
    generalize (s1.next n).2 = s2 at *
    have HNX := Lib.hid hnx
    have HOK := Lib.hid hok1
    clear hnx hok1
    rcases HMM.out with ⟨hneg, rfl⟩ | ⟨hneg, rfl⟩
    all_goals
      clear HMM
      go_enter Try.func22, Try.ntmps22
      go_wp2_with fail
      refine HVC.out.mono ?_
      rintro e w1 ⟨rfl, R1, hC1⟩
      go_wp2_with fail
      refine (KEY.out _ R1).mono ?_
      rintro e w2 ⟨y, rfl, hy, hyb, R2, hC2⟩
      obtain ⟨k0, k1, k2, g1, g2⟩ := R2.facts
      have hsz := hC1.size
      go_wp2_with fail
      go_ret
      exact ⟨_, rfl, hy, fun k hk => by have := hyb k hk; omega, R2, hC1.trans hC2 fun _ _ h => h⟩
  · have hnx : s1.next n = if s1.met = 0 then ([], s1.fall 1) else ([], s1) := by
      unfold RS.next
      by_cases h : s1.met = 0
      · rw [if_neg (by simp [h]), if_pos (by omega), if_pos h]
      · rw [if_pos h, if_neg h]
    have hres : (if s1.met = 0 ∧ s1.left < n then ([], s.fall 1) else s1.next n) = (([], { s1 with p := s.p, met := (s1.next n).2.met }) : List UInt8 × RS) := by
      rw [hnx]
      by_cases h : s1.met = 0
      · rw [if_pos ⟨h, by omega⟩, if_pos h]
        have h3 := HO3.out
        simp only [RS.fall, h3]
      · rw [if_neg (fun h2 => h h2.1), if_neg h]
        have h4 := HVP.out h
        simp only
        rw [← h4]
    rw [hres]
    have hbd : (s1.next n).2.met ≠ 0 ∧ (s1.next n).2.met ≤ 4 := by
      rw [hnx]
      split
      · simp [RS.fall]
      · rename_i h; exact ⟨h, hmet1⟩
    have hl2 : (s1.next n).2.l = s1.l := RS.next_l s1 n
    generalize (s1.next n).1 = b at *
    generalize (s1.next n).2 = s2 at *
    have hb : ((errO s2.met) != 0) = true := by rw [errO_zero]; simp [hbd.1]
    have HBD := Lib.hid hbd
    have HL2 := Lib.hid hl2
    clear hnx hres hok hbd hl2
    rcases HMM.out with ⟨hneg, rfl⟩ | ⟨hneg, rfl⟩
    all_goals
      clear HMM
      go_enter Try.func22, Try.ntmps22
      go_wp2_with fail
      refine HVC.out.mono ?_
      rintro e w1 ⟨rfl, R1, hC1⟩
      go_wp2_with fail
      refine (KEY.out _ R1).mono ?_
      rintro e w2 ⟨y, rfl, hy, hyb, R2, hC2⟩
      obtain ⟨k0, k1, k2, g1, g2⟩ := R2.facts
      go_wp2_with fail
      go_ret
      have hc3 := setCell_chg w2 ⟨pb, 1, none⟩ (.int .i64 s.p)
      have hp1 : s.p ≤ s1.l.length := by rw [HO3.out]; exact HPK.out.le
      exact ⟨_, rfl, World.ownsRow_nil _ _ _ _, fun k hk => by simp [Value.ownBlock] at hk, R2.put (s' := { s1 with p := s.p, met := s2.met }) (by rw [HL2.out]) ⟨hp1, HBD.out.2⟩ (R2.blk.set 1 _) hc3, (hC1.trans hC2 fun _ _ h => h).trans hc3 fun _ _ h => h⟩
end Go.Proofs.Ytnfmeaifbankjaa
