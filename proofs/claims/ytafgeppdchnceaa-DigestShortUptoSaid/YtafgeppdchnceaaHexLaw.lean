import Derived.Test.YtafgeppdchnceaaParse
set_option linter.unusedVariables false
namespace Go.Proofs.Ytafgeppdchnceaa
open Go Go.RowKit Go.Sat

theorem byte_all {p : UInt8 → Prop} (h : ∀ i : Fin 256, p (UInt8.ofNat i.val)) (b : UInt8) : p b := by
  have := h ⟨b.toNat, b.toNat_lt⟩
  simpa using this
theorem hexD_dig : ∀ b : UInt8, (isDig (hexD (b.toNat / 16)) && isDig (hexD (b.toNat % 16))) = true := byte_all (by decide +kernel)
theorem hexD_back : ∀ b : UInt8, UInt8.ofNat (16 * (halfI (hexD (b.toNat / 16))).toNat + (halfI (hexD (b.toNat % 16))).toNat) = b := byte_all (by decide +kernel)
theorem dig_back : ∀ c : UInt8, isDig c = true → hexD (halfI c).toNat = c ∧ (halfI c).toNat < 16 := byte_all (by decide +kernel)
theorem hexB_dig (l : List UInt8) : (hexB l).all isDig = true := by
  induction l with
  | nil => rfl
  | cons b l ih =>
    have := hexD_dig b
    simp only [Bool.and_eq_true] at this
    simp [hexB, this.1, this.2]
    simpa using ih
theorem unhex_hexB (l : List UInt8) : unhex (hexB l) = l := by
  induction l with
  | nil => rfl
  | cons b l ih => simp only [hexB, unhex, hexD_back, ih]
theorem hexB_unhex : ∀ (n : Nat) (l : List UInt8), l.length = 2 * n → l.all isDig = true → hexB (unhex l) = l
  | 0, [], _, _ => rfl
  | n + 1, a :: b :: l, h, hd => by
    simp only [List.all_cons, Bool.and_eq_true] at hd
    obtain ⟨h1, h2⟩ := dig_back a hd.1
    obtain ⟨h3, h4⟩ := dig_back b hd.2.1
    have e : (UInt8.ofNat (16 * (halfI a).toNat + (halfI b).toNat)).toNat = 16 * (halfI a).toNat + (halfI b).toNat := by simp; omega
    simp only [unhex, hexB, e, hexB_unhex n l (by simp at h; omega) hd.2.2]
    rw [show (16 * (halfI a).toNat + (halfI b).toNat) / 16 = (halfI a).toNat from by omega, show (16 * (halfI a).toNat + (halfI b).toNat) % 16 = (halfI b).toNat from by omega, h1, h3]
  | 0, _ :: _, h, _ => by simp at h
  | n + 1, [], h, _ => by simp at h
  | n + 1, [_], h, _ => by simp at h; omega
theorem parse_hex (l : List UInt8) (h : l.length = 32) : parseL (hexB l) = l ∧ parseE (hexB l) = 0 := by
  have h1 : (hexB l).length = 64 ∧ (hexB l).all isDig = true := ⟨by simp [h], hexB_dig l⟩
  unfold parseL parseE
  rw [if_pos h1, if_pos h1]
  exact ⟨unhex_hexB l, rfl⟩
theorem hex_parse (l : List UInt8) (h : l.length = 64 ∧ l.all isDig = true) : hexB (parseL l) = l ∧ parseE l = 0 := by
  unfold parseL parseE
  rw [if_pos h, if_pos h]
  exact ⟨hexB_unhex 32 l h.1 h.2, rfl⟩
theorem no_parse (l : List UInt8) (h : ¬ (l.length = 64 ∧ l.all isDig = true)) : parseL l = List.replicate 32 0 ∧ parseE l = 20 := by
  unfold parseL parseE
  rw [if_neg h, if_neg h]
  exact ⟨rfl, rfl⟩
end Go.Proofs.Ytafgeppdchnceaa
