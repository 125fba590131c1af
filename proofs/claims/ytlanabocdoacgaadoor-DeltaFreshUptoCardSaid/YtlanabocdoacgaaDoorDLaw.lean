import Derived.Test.YtlanabocdoacgaaDoorDMake
set_option linter.unusedVariables false
namespace Go.Sat
open Go
theorem endAt_varB (r : List UInt8) (n : Nat) : endAt (varB n ++ r) = some ((varB n).length - 1) := by
  induction n using Nat.strongRecOn with
  | _ n ih =>
    by_cases h : n < 128
    · rw [varB_lt h]; simp [endAt]; omega
    · rw [varB_ge (by omega), List.cons_append, endAt, if_neg (by simp; omega), ih (n / 128) (by omega)]
      have := varB_pos (n / 128)
      simp; omega
theorem vr_varB (r : List UInt8) (n : Nat) (hn : n < 2 ^ 64) (most : Nat) (hm : n ≤ most) : vr ((varB n ++ r).take 10) most = .ok n (varB n).length := by
  have hlen := varB_len n hn
  have hpos := varB_pos n
  have e : (varB n ++ r).take 10 = varB n ++ r.take (10 - (varB n).length) := by rw [List.take_append, List.take_of_length_le hlen]
  have hle : ((varB n ++ r).take 10).length ≤ 10 := by simp; omega
  rw [e] at hle ⊢
  have he := endAt_varB (r.take (10 - (varB n).length)) n
  have ht : (varB n ++ r.take (10 - (varB n).length)).take ((varB n).length - 1 + 1) = varB n := by
    rw [show (varB n).length - 1 + 1 = (varB n).length from by omega, List.take_left]
  have ha := (again_iff _ _ he hle).1 (by rw [ht, val_varB, Nat.mod_eq_of_lt (by omega)])
  unfold vr
  rw [he]
  simp only
  rw [if_neg ha, ht, val_varB, if_neg (by omega), show (varB n).length - 1 + 1 = (varB n).length from by omega]
theorem endAt_part (n : Nat) : ∀ j, j < (varB n).length → endAt ((varB n).take j) = none := by
  induction n using Nat.strongRecOn with
  | _ n ih =>
    intro j hj
    by_cases h : n < 128
    · rw [varB_lt h] at hj ⊢
      simp at hj
      subst hj
      rfl
    · rw [varB_ge (by omega)] at hj ⊢
      cases j with
      | zero => rfl
      | succ j =>
        rw [List.take_succ_cons, endAt, if_neg (by simp; omega), ih (n / 128) (by omega) j (by simpa using hj)]
        rfl
theorem vr_part (n j : Nat) (hn : n < 2 ^ 64) (hj : j < (varB n).length) (most : Nat) : vr (((varB n).take j).take 10) most = .bad 1 := by
  have hlen := varB_len n hn
  rw [List.take_of_length_le (by simp; omega)]
  unfold vr
  rw [endAt_part n j hj]
  simp only
  rw [if_pos (by simp; omega)]
namespace RS
theorem next_good (pre b rest : List UInt8) : (RS.mk (pre ++ b ++ rest) pre.length 0).next b.length = (b, ⟨pre ++ b ++ rest, pre.length + b.length, 0⟩) := by
  unfold next
  rw [if_neg (by simp), if_neg (by simp only [left, List.length_append]; omega)]
  simp [List.append_assoc]
theorem next_cut (pre x : List UInt8) (n : Nat) (h : x.length < n) : (RS.mk (pre ++ x) pre.length 0).next n = ([], ⟨pre ++ x, pre.length, 1⟩) := by
  unfold next
  rw [if_neg (by simp), if_pos (by simp only [left, List.length_append]; omega)]
  rfl
theorem var_good (pre rest : List UInt8) (n most : Nat) (hn : n < 2 ^ 64) (hm : n ≤ most) : (RS.mk (pre ++ varB n ++ rest) pre.length 0).var most = (n, ⟨pre ++ varB n ++ rest, pre.length + (varB n).length, 0⟩) := by
  unfold var
  rw [if_neg (by simp)]
  have : (RS.mk (pre ++ varB n ++ rest) pre.length 0).look = (varB n ++ rest).take 10 := by simp [look, List.append_assoc]
  rw [this, vr_varB _ n hn _ hm]
  rfl
theorem var_part (pre : List UInt8) (n j most : Nat) (hn : n < 2 ^ 64) (hj : j < (varB n).length) : (RS.mk (pre ++ (varB n).take j) pre.length 0).var most = (0, ⟨pre ++ (varB n).take j, pre.length, 1⟩) := by
  unfold var
  rw [if_neg (by simp)]
  have : (RS.mk (pre ++ (varB n).take j) pre.length 0).look = ((varB n).take j).take 10 := by simp [look]
  rw [this, vr_part n j hn hj]
  rfl
end RS

/-! ### Commands, written and read -/
def Pc.enc : Pc → List UInt8
  | .new b => varB (2 * b.length) ++ b
  | .copy a n => varB (2 * n + 1) ++ varB a
def encL (ps : List Pc) : List UInt8 := (ps.map Pc.enc).flatten
def lenL (ps : List Pc) : Nat := (ps.map Pc.len).sum
def Pc.Good (base : Nat) (p : Pc) : Prop := 1 ≤ p.len ∧ p.fits base
theorem encL_cons (p : Pc) (ps : List Pc) : encL (p :: ps) = p.enc ++ encL ps := by simp [encL]
theorem encL_append (ps qs : List Pc) : encL (ps ++ qs) = encL ps ++ encL qs := by simp [encL]
theorem lenL_cons (p : Pc) (ps : List Pc) : lenL (p :: ps) = p.len + lenL ps := by simp [lenL]
theorem lenL_append (ps qs : List Pc) : lenL (ps ++ qs) = lenL ps + lenL qs := by simp [lenL]
theorem flatP_append (base : List UInt8) (ps qs : List Pc) : flatP base (ps ++ qs) = flatP base ps ++ flatP base qs := by simp [flatP]
theorem flatP_cons (base : List UInt8) (p : Pc) (ps : List Pc) : flatP base (p :: ps) = p.bytes base ++ flatP base ps := by simp [flatP]
theorem flatP_len (base : List UInt8) : ∀ ps : List Pc, (∀ p ∈ ps, p.Good base.length) → (flatP base ps).length = lenL ps
  | [], _ => rfl
  | p :: ps, h => by
    rw [flatP_cons, lenL_cons, List.length_append, flatP_len base ps (fun q hq => h q (List.mem_cons_of_mem _ hq)), Pc.bytes_len (h p (List.mem_cons_self ..)).2]
theorem oneR_enc (p : Pc) (base room : Nat) (hp : p.Good base) (hr : p.len ≤ room) (hroom : room ≤ 1000000) (hb : base ≤ 1000000) (pre rest : List UInt8) :
    oneR ⟨pre ++ p.enc ++ rest, pre.length, 0⟩ base room = (.inr p, ⟨pre ++ p.enc ++ rest, pre.length + p.enc.length, 0⟩) := by
  obtain ⟨h1, h2⟩ := hp
  cases p with
  | new b =>
    simp only [Pc.len] at h1 hr
    simp only [Pc.enc]
    have e1 : pre ++ (varB (2 * b.length) ++ b) ++ rest = pre ++ varB (2 * b.length) ++ (b ++ rest) := by simp
    have e2 : pre ++ (varB (2 * b.length) ++ b) ++ rest = (pre ++ varB (2 * b.length)) ++ b ++ rest := by simp
    unfold oneR
    rw [e1, RS.var_good _ _ _ _ (by omega) (by unfold M64; omega)]
    unfold oneC
    rw [if_neg (by simp; omega), if_neg (by simp only; omega), if_pos (by simp only; omega), RS.raw_nat]
    simp only
    rw [show 2 * b.length / 2 = b.length from by omega, ← e1, e2, ← List.length_append, RS.next_good]
    unfold newC
    simp [Nat.add_assoc]
  | copy a n =>
    simp only [Pc.len] at h1 hr
    simp only [Pc.fits] at h2
    simp only [Pc.enc]
    have e1 : pre ++ (varB (2 * n + 1) ++ varB a) ++ rest = pre ++ varB (2 * n + 1) ++ (varB a ++ rest) := by simp
    have e2 : pre ++ (varB (2 * n + 1) ++ varB a) ++ rest = (pre ++ varB (2 * n + 1)) ++ varB a ++ rest := by simp
    unfold oneR
    rw [e1, RS.var_good _ _ _ _ (by omega) (by unfold M64; omega)]
    unfold oneC
    rw [if_neg (by simp; omega), if_neg (by simp only; omega), if_neg (by simp only; omega)]
    simp only
    rw [show (2 * n + 1) / 2 = n from by omega, ← e1, e2, ← List.length_append, RS.var_good _ _ _ _ (by omega) (by unfold M64; omega)]
    unfold copC
    rw [if_neg (by simp), if_neg (by simp only; omega)]
    simp [Nat.add_assoc]
theorem oneR_part (p : Pc) (base room : Nat) (hp : p.Good base) (hr : p.len ≤ room) (hroom : room ≤ 1000000) (hb : base ≤ 1000000) (pre : List UInt8) (j : Nat) (hj : j < p.enc.length) :
    ∃ t, oneR ⟨pre ++ p.enc.take j, pre.length, 0⟩ base room = (.inl 70, t) := by
  obtain ⟨h1, h2⟩ := hp
  cases p with
  | new b =>
    simp only [Pc.len] at h1 hr
    simp only [Pc.enc] at hj ⊢
    by_cases hv : j < (varB (2 * b.length)).length
    · rw [List.take_append_of_le_length (by omega)]
      unfold oneR
      rw [RS.var_part _ _ _ _ (by omega) hv]
      unfold oneC
      rw [if_pos (by simp)]
      exact ⟨_, rfl⟩
    · rw [List.take_append, List.take_of_length_le (by omega)]
      rw [List.length_append] at hj
      unfold oneR
      rw [← List.append_assoc, RS.var_good _ _ _ _ (by omega) (by unfold M64; omega)]
      unfold oneC
      rw [if_neg (by simp; omega), if_neg (by simp only; omega), if_pos (by simp only; omega), RS.raw_nat]
      simp only
      rw [show 2 * b.length / 2 = b.length from by omega, ← List.length_append, RS.next_cut _ _ _ (by rw [List.length_take]; omega)]
      unfold newC
      rw [if_pos (by simp)]
      exact ⟨_, rfl⟩
  | copy a n =>
    simp only [Pc.len] at h1 hr
    simp only [Pc.fits] at h2
    simp only [Pc.enc] at hj ⊢
    by_cases hv : j < (varB (2 * n + 1)).length
    · rw [List.take_append_of_le_length (by omega)]
      unfold oneR
      rw [RS.var_part _ _ _ _ (by omega) hv]
      unfold oneC
      rw [if_pos (by simp)]
      exact ⟨_, rfl⟩
    · rw [List.take_append, List.take_of_length_le (by omega)]
      rw [List.length_append] at hj
      unfold oneR
      rw [← List.append_assoc, RS.var_good _ _ _ _ (by omega) (by unfold M64; omega)]
      unfold oneC
      rw [if_neg (by simp; omega), if_neg (by simp only; omega), if_neg (by simp only; omega)]
      simp only
      rw [show (2 * n + 1) / 2 = n from by omega, ← List.length_append, RS.var_part _ _ _ _ (by omega) (by omega)]
      unfold copC
      rw [if_pos (by simp)]
      exact ⟨_, rfl⟩
theorem goR_enc (base : Nat) (hb : base ≤ 1000000) : ∀ (ps : List Pc) (pre rest : List UInt8) (acc : List Pc) (f : Nat), (∀ p ∈ ps, p.Good base) → lenL ps ≤ 1000000 → lenL ps ≤ f →
    goR base f ⟨pre ++ encL ps ++ rest, pre.length, 0⟩ (lenL ps) acc = (.inr (acc ++ ps), ⟨pre ++ encL ps ++ rest, pre.length + (encL ps).length, 0⟩)
  | [], pre, rest, acc, f, _, _, _ => by
    rw [show lenL [] = 0 from rfl, goR_end]; simp [encL]
  | p :: ps, pre, rest, acc, f, h, hl, hf => by
    have hp := h p (List.mem_cons_self ..)
    have h1 := hp.1
    rw [lenL_cons] at hl hf ⊢
    have e : pre ++ encL (p :: ps) ++ rest = pre ++ p.enc ++ (encL ps ++ rest) := by rw [encL_cons]; simp
    have e2 : pre ++ p.enc ++ (encL ps ++ rest) = (pre ++ p.enc) ++ encL ps ++ rest := by simp
    rw [e, goR_good (oneR_enc p base (p.len + lenL ps) hp (by omega) hl hb pre _) (by omega) hf, show p.len + lenL ps - p.len = lenL ps from by omega, e2, ← List.length_append,
      goR_enc base hb ps (pre ++ p.enc) rest (acc ++ [p]) (f - 1) (fun q hq => h q (List.mem_cons_of_mem _ hq)) (by omega) (by omega), encL_cons]
    simp [Nat.add_assoc]
theorem goR_part (base : Nat) (hb : base ≤ 1000000) : ∀ (ps : List Pc) (pre : List UInt8) (acc : List Pc) (f j : Nat), (∀ p ∈ ps, p.Good base) → lenL ps ≤ 1000000 → lenL ps ≤ f → j < (encL ps).length →
    ∃ t, goR base f ⟨pre ++ (encL ps).take j, pre.length, 0⟩ (lenL ps) acc = (.inl 70, t)
  | [], pre, acc, f, j, _, _, _, hj => by simp [encL] at hj
  | p :: ps, pre, acc, f, j, h, hl, hf, hj => by
    have hp := h p (List.mem_cons_self ..)
    have h1 := hp.1
    rw [lenL_cons] at hl hf ⊢
    rw [encL_cons] at hj ⊢
    by_cases hc : j < p.enc.length
    · rw [List.take_append_of_le_length (by omega)]
      obtain ⟨t, ht⟩ := oneR_part p base (p.len + lenL ps) hp (by omega) hl hb pre j hc
      exact ⟨t, goR_bad ht (by omega) hf⟩
    · rw [List.take_append, List.take_of_length_le (by omega)]
      rw [List.length_append] at hj
      rw [← List.append_assoc, goR_good (oneR_enc p base (p.len + lenL ps) hp (by omega) hl hb pre _) (by omega) hf, show p.len + lenL ps - p.len = lenL ps from by omega, ← List.length_append]
      exact goR_part base hb ps (pre ++ p.enc) (acc ++ [p]) (f - 1) (j - p.enc.length) (fun q hq => h q (List.mem_cons_of_mem _ hq)) (by omega) (by omega) (by omega)
/-- A delta: the two lengths, the commands. -/
def delB (base : Nat) (ps : List Pc) : List UInt8 := varB base ++ varB (lenL ps) ++ encL ps
theorem appR_good (base : List UInt8) (ps : List Pc) (h : ∀ p ∈ ps, p.Good base.length) (hb : base.length ≤ 65536) (hl : lenL ps ≤ 65536) : appR base (delB base.length ps) = (flatP base ps, 0) := by
  have e1 : delB base.length ps = [] ++ varB base.length ++ (varB (lenL ps) ++ encL ps) := by simp [delB]
  have e2 : delB base.length ps = varB base.length ++ varB (lenL ps) ++ encL ps := rfl
  have e3 : delB base.length ps = (varB base.length ++ varB (lenL ps)) ++ encL ps ++ [] := by simp [delB]
  have v1 : (⟨delB base.length ps, 0, 0⟩ : RS).var 65536 = (base.length, ⟨delB base.length ps, (varB base.length).length, 0⟩) := by
    have := RS.var_good [] (varB (lenL ps) ++ encL ps) base.length 65536 (by omega) hb
    rw [← e1] at this
    simpa using this
  have v2 : (⟨delB base.length ps, (varB base.length).length, 0⟩ : RS).var M64 = (lenL ps, ⟨delB base.length ps, (varB base.length).length + (varB (lenL ps)).length, 0⟩) := by
    have := RS.var_good (varB base.length) (encL ps) (lenL ps) M64 (by omega) (by unfold M64; omega)
    rw [← e2] at this
    exact this
  have v3 := goR_enc base.length (by omega) ps (varB base.length ++ varB (lenL ps)) [] [] (lenL ps) h (by omega) (Nat.le_refl _)
  rw [← e3, List.nil_append, List.length_append] at v3
  have hp : pcsR base.length (delB base.length ps) = (ps, lenL ps, 0) := by
    unfold pcsR
    simp only [v1, v2, v3]
    rw [if_neg (by simp), if_neg (by simp), if_neg (by simp), if_neg (by omega), if_neg (by simp [RS.left, delB]; omega)]
  unfold appR
  rw [hp]
  simp
theorem appR_more (base : List UInt8) (ps : List Pc) (r : List UInt8) (h : ∀ p ∈ ps, p.Good base.length) (hb : base.length ≤ 65536) (hl : lenL ps ≤ 65536) (hr : r ≠ []) : appR base (delB base.length ps ++ r) = ([], 70) := by
  have hr0 : 0 < r.length := List.length_pos_iff.2 hr
  have e1 : delB base.length ps ++ r = [] ++ varB base.length ++ (varB (lenL ps) ++ encL ps ++ r) := by simp [delB]
  have e2 : delB base.length ps ++ r = varB base.length ++ varB (lenL ps) ++ (encL ps ++ r) := by simp [delB]
  have e3 : delB base.length ps ++ r = (varB base.length ++ varB (lenL ps)) ++ encL ps ++ r := by simp [delB]
  have v1 : (⟨delB base.length ps ++ r, 0, 0⟩ : RS).var 65536 = (base.length, ⟨delB base.length ps ++ r, (varB base.length).length, 0⟩) := by
    have := RS.var_good [] (varB (lenL ps) ++ encL ps ++ r) base.length 65536 (by omega) hb
    rw [← e1] at this
    simpa using this
  have v2 : (⟨delB base.length ps ++ r, (varB base.length).length, 0⟩ : RS).var M64 = (lenL ps, ⟨delB base.length ps ++ r, (varB base.length).length + (varB (lenL ps)).length, 0⟩) := by
    have := RS.var_good (varB base.length) (encL ps ++ r) (lenL ps) M64 (by omega) (by unfold M64; omega)
    rw [← e2] at this
    exact this
  have v3 := goR_enc base.length (by omega) ps (varB base.length ++ varB (lenL ps)) r [] (lenL ps) h (by omega) (Nat.le_refl _)
  rw [← e3, List.nil_append, List.length_append] at v3
  have hp : pcsR base.length (delB base.length ps ++ r) = ([], 0, 70) := by
    unfold pcsR
    simp only [v1, v2, v3]
    rw [if_neg (by simp), if_neg (by simp), if_neg (by simp), if_neg (by omega), if_pos (by simp [RS.left, delB]; omega)]
  unfold appR
  rw [hp]
  simp
theorem appR_base (base : List UInt8) (n : Nat) (ps : List Pc) (hn : n ≤ 65536) (hne : n ≠ base.length) : appR base (delB n ps) = ([], 71) := by
  have e1 : delB n ps = [] ++ varB n ++ (varB (lenL ps) ++ encL ps) := by simp [delB]
  have v1 : (⟨delB n ps, 0, 0⟩ : RS).var 65536 = (n, ⟨delB n ps, (varB n).length, 0⟩) := by
    have := RS.var_good [] (varB (lenL ps) ++ encL ps) n 65536 (by omega) hn
    rw [← e1] at this
    simpa using this
  have hp : pcsR base.length (delB n ps) = ([], 0, 71) := by
    unfold pcsR
    simp only [v1]
    rw [if_neg (by simp), if_pos hne]
  unfold appR
  rw [hp]
  simp
theorem sizeR_good (n : Nat) (ps : List Pc) (hn : n ≤ 65536) (hl : lenL ps ≤ 65536) : sizeR (delB n ps) = (n, lenL ps, 0) := by
  have e1 : delB n ps = [] ++ varB n ++ (varB (lenL ps) ++ encL ps) := by simp [delB]
  have e2 : delB n ps = varB n ++ varB (lenL ps) ++ encL ps := rfl
  have v1 : (⟨delB n ps, 0, 0⟩ : RS).var 65536 = (n, ⟨delB n ps, (varB n).length, 0⟩) := by
    have := RS.var_good [] (varB (lenL ps) ++ encL ps) n 65536 (by omega) hn
    rw [← e1] at this
    simpa using this
  have v2 : (⟨delB n ps, (varB n).length, 0⟩ : RS).var M64 = (lenL ps, ⟨delB n ps, (varB n).length + (varB (lenL ps)).length, 0⟩) := by
    have := RS.var_good (varB n) (encL ps) (lenL ps) M64 (by omega) (by unfold M64; omega)
    rw [← e2] at this
    exact this
  unfold sizeR
  simp only [v1, v2]
  rw [if_neg (by simp), if_neg (by omega)]
theorem appR_part (base : List UInt8) (ps : List Pc) (j : Nat) (h : ∀ p ∈ ps, p.Good base.length) (hb : base.length ≤ 65536) (hl : lenL ps ≤ 65536) (hj : j < (delB base.length ps).length) : appR base ((delB base.length ps).take j) = ([], 70) := by
  unfold delB at hj ⊢
  rw [List.length_append, List.length_append] at hj
  by_cases h1 : j < (varB base.length).length
  · rw [List.take_append_of_le_length (by rw [List.length_append]; omega), List.take_append_of_le_length (by omega)]
    have v1 := RS.var_part [] base.length j 65536 (by omega) h1
    rw [List.nil_append, List.length_nil] at v1
    unfold appR pcsR
    simp only [v1]
    simp
  by_cases h2 : j < (varB base.length).length + (varB (lenL ps)).length
  · rw [List.take_append_of_le_length (by rw [List.length_append]; omega), List.take_append, List.take_of_length_le (by omega)]
    have v1 := RS.var_good [] ((varB (lenL ps)).take (j - (varB base.length).length)) base.length 65536 (by omega) hb
    rw [List.nil_append, List.length_nil, Nat.zero_add] at v1
    have v2 := RS.var_part (varB base.length) (lenL ps) (j - (varB base.length).length) M64 (by omega) (by omega)
    unfold appR pcsR
    simp only [v1, v2]
    simp
  · rw [List.take_append, List.take_of_length_le (by rw [List.length_append]; omega)]
    obtain ⟨i, hi⟩ : ∃ i, i = j - (varB base.length ++ varB (lenL ps)).length := ⟨_, rfl⟩
    rw [← hi]
    have v1 := RS.var_good [] (varB (lenL ps) ++ (encL ps).take i) base.length 65536 (by omega) hb
    rw [List.nil_append, List.length_nil, Nat.zero_add, ← List.append_assoc] at v1
    have v2 := RS.var_good (varB base.length) ((encL ps).take i) (lenL ps) M64 (by omega) (by unfold M64; omega)
    obtain ⟨t, v3⟩ := goR_part base.length (by omega) ps (varB base.length ++ varB (lenL ps)) [] (lenL ps) i h (by omega) (Nat.le_refl _) (by rw [hi, List.length_append]; omega)
    rw [List.length_append] at v3
    have hp : pcsR base.length (varB base.length ++ varB (lenL ps) ++ (encL ps).take i) = ([], 0, 70) := by
      unfold pcsR
      simp only [v1, v2, v3]
      rw [if_neg (by simp), if_neg (by simp), if_neg (by simp), if_neg (by omega)]
    unfold appR
    rw [hp]
    simp
end Go.Sat
