import Derived.Test.YtlanabocdoacgaaDoorMap8
set_option linter.unusedVariables false
namespace Go.Sat
open Go
/-- A copy of n bytes of the base, new bytes: as they are written. -/
def repB (a n : Nat) : List UInt8 := if 0 < n then varB (2 * n + 1) ++ varB a else []
def freB (b : List UInt8) : List UInt8 := if 0 < b.length then varB (2 * b.length) ++ b else []
/-- How far two lists are alike. -/
def lcp : List UInt8 → List UInt8 → Nat
  | a :: l, b :: r => if a = b then lcp l r + 1 else 0
  | _, _ => 0
theorem lcp_le : ∀ l r, lcp l r ≤ l.length ∧ lcp l r ≤ r.length
  | [], r => by simp [lcp]
  | a :: l, [] => by simp [lcp]
  | a :: l, b :: r => by
    have := lcp_le l r
    unfold lcp
    split <;> simp <;> omega
theorem lcp_take : ∀ (l r : List UInt8), l.take (lcp l r) = r.take (lcp l r)
  | [], r => by simp [lcp]
  | a :: l, [] => by simp [lcp]
  | a :: l, b :: r => by
    unfold lcp
    split
    · rename_i h; subst h; simp [lcp_take l r]
    · rfl
theorem lcp_step : ∀ (l r : List UInt8) (n : Nat), n ≤ lcp l r → (h1 : n < l.length) → (h2 : n < r.length) → l[n] = r[n] → n + 1 ≤ lcp l r
  | [], r, n, _, h1, _, _ => by simp at h1
  | a :: l, [], n, _, _, h2, _ => by simp at h2
  | a :: l, b :: r, 0, _, _, _, h => by
    simp at h
    unfold lcp
    rw [if_pos h]; omega
  | a :: l, b :: r, n + 1, hn, h1, h2, h => by
    unfold lcp at hn ⊢
    split at hn
    · rename_i e
      rw [if_pos e]
      have := lcp_step l r n (by omega) (by simpa using h1) (by simpa using h2) (by simpa using h)
      omega
    · omega
theorem lcp_stop : ∀ (l r : List UInt8) (n : Nat), n ≤ lcp l r → (∀ (h1 : n < l.length) (h2 : n < r.length), l[n] ≠ r[n]) → lcp l r = n
  | [], r, n, hn, _ => by simp [lcp] at hn ⊢; omega
  | a :: l, [], n, hn, _ => by simp [lcp] at hn ⊢; omega
  | a :: l, b :: r, 0, hn, h => by
    have := h (by simp) (by simp)
    simp at this
    unfold lcp; rw [if_neg this]
  | a :: l, b :: r, n + 1, hn, h => by
    unfold lcp at hn ⊢
    split at hn
    · rename_i e
      rw [if_pos e]
      have := lcp_stop l r n (by omega) (fun h1 h2 => by have := h (by simp; omega) (by simp; omega); simpa only [List.getElem_cons_succ] using this)
      omega
    · omega
end Go.Sat
namespace Go.Proofs.YtlanabocdoacgaaDoor
open Go Go.RowKit Go.Sat
set_option maxRecDepth 100000 in
theorem repeat_any (pb : Nat) (v : Value) (T : TypeId) (a n : Nat) (l : List UInt8) (w : World) (hw : IsW w pb v T l) (hl : l.length ≤ 900000000) (ha : a ≤ 2000000) (hn : n ≤ 2000000) :
    Calls Tryd.prog 40 #[.pointer (some ⟨pb, 0, none⟩), .int .i64 (a : Int), .int .i64 (n : Int)] w fun e w' => e = .returned (.tuple #[]) ∧ WStep w pb v T l (repB a n) w' := by
  by_cases h : 0 < n
  · have hv := varB_len (2 * n + 1) (by omega)
    have hr : repB a n = varB (2 * n + 1) ++ varB a := by unfold repB; rw [if_pos h]
    have hd : decide (0 < n) = true := by simp; omega
    have H := Lib.hid hr
    clear hr
    go_enter Tryd.func40, Tryd.ntmps40
    go_wp2_with fail
    rw [show (2 : Int) * (n : Int) + 1 = ((2 * n + 1 : Nat) : Int) from by omega]
    (refine (var_any pb v T ((2 * n + 1 : Nat) : Int) l _ hw (by omega) (by omega) (by omega)).mono ?_; rintro e w1 ⟨rfl, v1, h1, c1, b1⟩)
    rw [Int.toNat_natCast] at h1
    go_wp2_with fail
    (refine (var_any pb v1 T (a : Int) _ _ h1 (by omega) (by omega) (by rw [List.length_append]; omega)).mono ?_; rintro e w2 ⟨rfl, st⟩)
    rw [Int.toNat_natCast] at st
    go_wp2_with fail
    go_end0
    rw [H.out]
    exact ⟨rfl, WStep.trans c1 b1 st⟩
  · have hr : repB a n = [] := by unfold repB; rw [if_neg h]
    have hd : decide (0 < n) = false := by simp; omega
    have H := Lib.hid hr
    clear hr h
    go_enter Tryd.func40, Tryd.ntmps40
    go_wp2_with fail
    go_end0
    rw [H.out]
    exact ⟨rfl, WStep.refl hw⟩
set_option maxRecDepth 100000 in
theorem fresh_any (pb : Nat) (v x : Value) (T : TypeId) (l b : List UInt8) (w : World) (hw : IsW w pb v T l) (hx : Rd w x b) (hsep : ∀ k, rdb x = some k → k ≠ pb ∧ v.ownBlock ≠ some k) (hl : l.length ≤ 900000000) (hb : b.length ≤ 2000000) :
    Calls Tryd.prog 55 #[.pointer (some ⟨pb, 0, none⟩), x] w fun e w' => e = .returned (.tuple #[]) ∧ WStep w pb v T l (freB b) w' := by
  obtain ⟨ao, c, rfl, _⟩ := hx.form
  by_cases h : 0 < b.length
  · have hv := varB_len (2 * b.length) (by omega)
    have hr : freB b = varB (2 * b.length) ++ b := by unfold freB; rw [if_pos h]
    have hd : decide (0 < b.length) = true := by simp; omega
    have H := Lib.hid hr
    clear hr
    go_enter Tryd.func55, Tryd.ntmps55
    go_wp2_with fail
    rw [show (2 : Int) * (b.length : Int) = ((2 * b.length : Nat) : Int) from by omega]
    (refine (var_any pb v T ((2 * b.length : Nat) : Int) l _ hw (by omega) (by omega) (by omega)).mono ?_; rintro e w1 ⟨rfl, v1, h1, c1, b1⟩)
    rw [Int.toNat_natCast] at h1
    have hx1 := hx.kept c1 (fun k hk h => by
      rcases h with h | h
      · exact (hsep k hk).1 h
      · exact (hsep k hk).2 h)
    go_wp2_with fail
    (refine (raw_any pb v1 _ T _ b _ h1 hx1 (by rw [List.length_append]; omega) (by omega)).mono ?_; rintro e w2 ⟨rfl, st⟩)
    go_wp2_with fail
    go_end0
    rw [H.out]
    exact ⟨rfl, WStep.trans c1 b1 st⟩
  · have hr : freB b = [] := by unfold freB; rw [if_neg h]
    have hd : decide (0 < b.length) = false := decide_eq_false h
    have H := Lib.hid hr
    clear hr h
    go_enter Tryd.func55, Tryd.ntmps55
    go_wp2_with fail
    go_end0
    rw [H.out]
    exact ⟨rfl, WStep.refl hw⟩
end Go.Proofs.YtlanabocdoacgaaDoor
