import Derived.Test.YtnfmeaifbankjaaDoorRead
set_option linter.unusedVariables false
namespace Go.Sat
open Go
theorem be_step (N : Nat) (s i : Nat) (h : i ≤ s) : be (N : Int) (s + 1) i = be ((N / 256 : Nat) : Int) s i := by
  unfold be
  refine List.map_congr_left fun k hk => ?_
  rw [List.mem_range] at hk
  rw [Int.toNat_natCast, Int.toNat_natCast, show s + 1 - 1 - k = (s - 1 - k) + 1 from by omega, Nat.pow_succ, Nat.mul_comm, ← Nat.div_div_eq_div_mul]
theorem be_num_take (t : List UInt8) : ∀ i, i ≤ t.length → be (RS.num (t.take i) : Int) i i = t.take i
  | 0, _ => by simp [be]
  | i + 1, h => by
    have hc := t[i].toNat_lt
    rw [RS.num_take_succ t i (by omega), be_succ, be_step _ i i (Nat.le_refl _), show (RS.num (t.take i) * 256 + t[i].toNat) / 256 = RS.num (t.take i) from by omega, be_num_take t i (by omega), List.take_succ_eq_append_getElem (by omega : i < t.length)]
    congr 2
    apply UInt8.toNat_inj.1
    rw [Int.toNat_natCast]
    simp
theorem be_num (t : List UInt8) (n : Nat) (h : t.length = n) : be (RS.num t : Int) n n = t := by
  have := be_num_take t t.length (Nat.le_refl _)
  rw [List.take_length, h] at this
  exact this
namespace RS
/-- What is read is just what stands there. -/
def Took (s s' : RS) (b : List UInt8) : Prop :=
  s'.l = s.l ∧ ((s'.met ≠ 0 ∧ s'.p = s.p) ∨ (s'.met = 0 ∧ s.p ≤ s'.p ∧ s'.p ≤ s.l.length ∧ b = (s.l.drop s.p).take (s'.p - s.p)))
theorem next_took {s : RS} (h : s.Ok) (h0 : s.met = 0) (n : Nat) : Took s (s.next n).2 (s.next n).1 ∧ ((s.next n).2.met = 0 → (s.next n).1.length = n ∧ (s.next n).2.p = s.p + n) := by
  have hle := h.le
  unfold next
  rw [if_neg (by simp [h0])]
  by_cases hl : (s.left : Int) < n
  · rw [if_pos hl]
    exact ⟨⟨rfl, .inl ⟨by simp [fall], rfl⟩⟩, fun h => by simp [fall] at h⟩
  · rw [if_neg hl]
    have hl2 : n ≤ s.l.length - s.p := by unfold left at hl; omega
    refine ⟨⟨rfl, .inr ⟨h0, by simp, by simp; omega, by simp⟩⟩, fun _ => ⟨by simp; omega, by simp⟩⟩
theorem fixed_took {s : RS} (h : s.Ok) (h0 : s.met = 0) (n : Nat) : Took s (s.fixed n).2 (be ((s.fixed n).1 : Int) n n) := by
  obtain ⟨⟨h1, h2⟩, h3⟩ := next_took h h0 n
  unfold fixed
  refine ⟨h1, h2.imp id fun ⟨q1, q2, q3, q4⟩ => ⟨q1, q2, q3, ?_⟩⟩
  simp only
  rw [be_num _ n (h3 q1).1]
  exact q4
theorem var_took {s : RS} (h : s.Ok) (h0 : s.met = 0) (most : Nat) (hm : most < 18446744073709551616) : Took s (s.var most).2 (varB (s.var most).1) := by
  have hle := h.le
  have hl := look_len s
  have hle2 := look_len_eq h
  unfold var
  rw [if_neg (by simp [h0])]
  unfold vr
  cases he : endAt s.look with
  | none =>
    simp only
    split
    · exact ⟨rfl, .inl ⟨by simp [aft, fall], rfl⟩⟩
    · exact ⟨rfl, .inl ⟨by simp [aft, fall], rfl⟩⟩
  | some k =>
    have hk := endAt_lt _ _ he
    simp only
    split
    · exact ⟨rfl, .inl ⟨by simp [aft, fall], rfl⟩⟩
    · rename_i hbad
      split
      · exact ⟨rfl, .inl ⟨by simp [aft, fall], rfl⟩⟩
      · rename_i hmost
        have ha := (again_iff _ _ he hl).2 hbad
        rw [Nat.mod_eq_of_lt (by omega)] at ha
        refine ⟨rfl, .inr ⟨h0, by simp [aft], by simp only [aft]; unfold left at hle2; omega, ?_⟩⟩
        simp only [aft]
        rw [ha, show s.p + (k + 1) - s.p = k + 1 from by omega]
        unfold look
        rw [List.take_take, Nat.min_eq_left (by omega)]
theorem var_l' (s : RS) (most : Nat) : (s.var most).2.l = s.l := by
  unfold var
  split
  · rfl
  · cases vr s.look most <;> rfl
theorem text_took {s : RS} (h : s.Ok) (h0 : s.met = 0) (most : Int) (hm : most ≤ 9223372036854775807) : Took s (s.text most).2 (varB (s.text most).1.length ++ (s.text most).1) := by
  have hle := h.le
  obtain ⟨e1, e2⟩ := var_took h h0 (max 0 most).toNat (by omega)
  unfold text
  simp only
  generalize s.var (max 0 most).toNat = r at *
  obtain ⟨n, sl, sp, sm⟩ := r
  simp only at e1 e2 ⊢
  subst e1
  rcases e2 with ⟨h1, h2⟩ | ⟨h1, h2, h3, h4⟩
  · rw [if_neg (fun h => h1 h.1)]
    have : (RS.mk s.l sp sm).next n = ([], RS.mk s.l sp sm) := by unfold next; rw [if_pos h1]
    rw [this]
    exact ⟨rfl, .inl ⟨h1, h2⟩⟩
  · by_cases hl : (RS.mk s.l sp sm).left < n
    · rw [if_pos ⟨h1, hl⟩]
      exact ⟨rfl, .inl ⟨by simp [fall], rfl⟩⟩
    · rw [if_neg (fun h => hl h.2)]
      have hok : (RS.mk s.l sp sm).Ok := ⟨h3, by simp only; omega⟩
      obtain ⟨⟨q1, q2⟩, q3⟩ := next_took hok h1 n
      refine ⟨q1, q2.imp (fun ⟨a, b⟩ => ?_) fun ⟨a, b, c, d⟩ => ?_⟩
      · exfalso
        have : (RS.mk s.l sp sm).next n = (((RS.mk s.l sp sm).l.drop sp).take n, { RS.mk s.l sp sm with p := sp + n }) := by
          unfold next
          rw [if_neg (by simp [h1]), if_neg (by omega)]
          simp
        rw [this] at a
        exact a h1
      · obtain ⟨q4, q5⟩ := q3 a
        simp only at b c d q5
        refine ⟨a, by omega, c, ?_⟩
        rw [q4, h4, d, q5, show sp + n - sp = n from by omega, show sp + n - s.p = (sp - s.p) + n from by omega, List.take_add, List.drop_drop]
        congr 3
        omega
theorem raw_took {s : RS} (h : s.Ok) (h0 : s.met = 0) (n : Int) (hn : 0 ≤ n) : Took s (s.raw n).2 (s.raw n).1 := by
  obtain ⟨m, rfl⟩ := Int.eq_ofNat_of_zero_le hn
  unfold raw
  rw [if_neg (fun h => by omega)]
  exact (next_took h h0 m).1
/-- The state behind an item that is read and written anew. -/
def agS (k m n : Int) (s : RS) : RS :=
  if k = 1 then (s.fixed 1).2 else if k = 2 then (s.fixed 4).2 else if k = 3 then (s.fixed 8).2 else if k = 4 then (s.var n.toNat).2 else if k = 5 then (s.text m).2 else if k = 6 then (s.raw (m % 20)).2 else s
/-- What is written. -/
def agW (k m n : Int) (s : RS) : List UInt8 :=
  if k = 1 then be (s.fixed 1).1 1 1 else if k = 2 then be (s.fixed 4).1 4 4 else if k = 3 then be (s.fixed 8).1 8 8 else if k = 4 then varB (s.var n.toNat).1
  else if k = 5 then varB (s.text m).1.length ++ (s.text m).1 else if k = 6 then (s.raw (m % 20)).1 else []
theorem ag_took {s : RS} (h : s.Ok) (h0 : s.met = 0) (k m n : Int) (hm : m ≤ 9223372036854775807) (hn : 0 ≤ n ∧ n ≤ 18446744073709551615) : Took s (s.agS k m n) (s.agW k m n) := by
  unfold agS agW
  by_cases h1 : k = 1
  · rw [if_pos h1, if_pos h1]; exact fixed_took h h0 1
  rw [if_neg h1, if_neg h1]
  by_cases h2 : k = 2
  · rw [if_pos h2, if_pos h2]; exact fixed_took h h0 4
  rw [if_neg h2, if_neg h2]
  by_cases h3 : k = 3
  · rw [if_pos h3, if_pos h3]; exact fixed_took h h0 8
  rw [if_neg h3, if_neg h3]
  by_cases h4 : k = 4
  · rw [if_pos h4, if_pos h4]; exact var_took h h0 _ (by omega)
  rw [if_neg h4, if_neg h4]
  by_cases h5 : k = 5
  · rw [if_pos h5, if_pos h5]; exact text_took h h0 _ hm
  rw [if_neg h5, if_neg h5]
  by_cases h6 : k = 6
  · rw [if_pos h6, if_pos h6]; exact raw_took h h0 _ (Int.emod_nonneg _ (by omega))
  rw [if_neg h6, if_neg h6]
  exact ⟨rfl, .inr ⟨h0, Nat.le_refl _, h.le, by simp⟩⟩
end RS
end Go.Sat
