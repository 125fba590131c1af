import Derived.Test.YtnfmeaifbankjaaDoorEye4
import Derived.Test.YtnfmeaifbankjaaDoorReaderD
set_option linter.unusedVariables false
namespace Go.Proofs.YtnfmeaifbankjaaDoor
open Go Go.RowKit Go.Sat

/-- The program's table of errors. -/
def Errnos (w : World) : Prop := ∀ i, i < 5 → w.cell? ⟨0, i, none⟩ = some (.int .i64 (errO i))
theorem Errnos.kept {S : Nat → Prop} {w w' : World} (h : Errnos w) (hc : Chg S w w') (hS : ¬ S 0) : Errnos w' := fun i hi => by
  rw [hc.cell (p := ⟨0, i, none⟩) (World.block_lt_of_cell? w _ (h i hi)) hS]; exact h i hi
/-- What End answers. -/
def endO (s : RS) : Int := if s.met = 0 ∧ 0 < s.left then 13 else errO s.met

set_option maxRecDepth 100000 in
theorem rat_any (pb : Nat) (v : Value) (T : TypeId) (f : Nat → Int) (s : RS) (w : World) (h : IsR w pb v T f s) :
    Calls Tryd.prog 15 #[.pointer (some ⟨pb, 0, none⟩)] w fun e w' => e = .returned (.int .i64 s.p) ∧ w = w' := by
  obtain ⟨-, c1, -, -, -⟩ := h.facts
  clear h
  go_enter Tryd.func15, Tryd.ntmps15
  go_wp2_with fail
  go_ret
  exact ⟨rfl, rfl⟩
set_option maxRecDepth 100000 in
theorem num_any (n : Int) (w : World) : Calls Tryd.prog 16 #[.int .i64 n] w fun e w' => e = .returned (.int .i64 n) ∧ w = w' := by
  go_enter Tryd.func16, Tryd.ntmps16
  go_wp2_with fail
  go_ret
  exact ⟨rfl, rfl⟩
set_option maxRecDepth 100000 in
theorem rfault_any (pb : Nat) (v : Value) (T : TypeId) (s : RS) (w : World) (h : IsR w pb v T met s) (hE : Errnos w) :
    Calls Tryd.prog 17 #[.pointer (some ⟨pb, 0, none⟩)] w fun e w' => e = .returned (.int .i64 (errO s.met)) ∧ w = w' := by
  obtain ⟨-, -, c2, -, -⟩ := h.facts
  have hm := h.ok.met
  have hc := hE s.met (by omega)
  simp only [met] at c2
  clear h hE
  go_enter Tryd.func17, Tryd.ntmps17
  go_wp2_with fail
  go_ret
  exact ⟨rfl, rfl⟩
set_option maxRecDepth 100000 in
theorem rend_any (pb : Nat) (v : Value) (T : TypeId) (s : RS) (w : World) (h : IsR w pb v T met s) (hE : Errnos w) :
    Calls Tryd.prog 18 #[.pointer (some ⟨pb, 0, none⟩)] w fun e w' => e = .returned (.int .i64 (endO s)) ∧ Drawn w w' := by
  obtain ⟨-, -, c2, -, -⟩ := h.facts
  by_cases hm : s.met = 0
  · have hb : ((met s.met) == 0) = true := by simp [met, hm]
    by_cases hl : 0 < s.left
    · have hres : endO s = 13 := by unfold endO; rw [if_pos ⟨hm, hl⟩]
      rw [hres]
      have HR := Lib.hid h
      have HE := Lib.hid hE
      clear h hm hres hE
      go_enter Tryd.func18, Tryd.ntmps18
      go_wp2_with fail
      refine (rleft_any pb v T met s _ HR.out).mono ?_
      rintro e w1 ⟨rfl, hd⟩
      go_wp2_with fail
      go_ret
      exact ⟨rfl, hd⟩
    · have hres : endO s = errO s.met := by unfold endO; rw [if_neg (fun h => hl h.2)]
      rw [hres]
      have HR := Lib.hid h
      have HE := Lib.hid hE
      clear h hm hres hE
      go_enter Tryd.func18, Tryd.ntmps18
      go_wp2_with fail
      refine (rleft_any pb v T met s _ HR.out).mono ?_
      rintro e w1 ⟨rfl, hd⟩
      have R1 := HR.out.calm (hd.chg _)
      go_wp2_with fail
      refine (rfault_any pb v T s _ R1 (HE.out.kept (hd.chg (fun _ => False)) id)).mono ?_
      rintro e w' ⟨rfl, rfl⟩
      go_wp2_with fail
      go_ret
      exact ⟨rfl, hd⟩
  · have hb : ((met s.met) == 0) = false := by simp [met]; omega
    have hres : endO s = errO s.met := by unfold endO; rw [if_neg (fun h => hm h.1)]
    rw [hres]
    have HR := Lib.hid h
    have HE := Lib.hid hE
    clear h hm hres hE
    go_enter Tryd.func18, Tryd.ntmps18
    go_wp2_with fail
    refine (rfault_any pb v T s _ HR.out HE.out).mono ?_
    rintro e w' ⟨rfl, rfl⟩
    go_wp2_with fail
    go_ret
    exact ⟨rfl, Drawn.refl _⟩
theorem errO_eq (m : Nat) : ((errO m) == 0) = (m == 0) := by
  have := errO_zero m
  rw [bne, bne] at this
  simpa using this
set_option maxRecDepth 100000 in
theorem eend_any (pb : Nat) (v : Value) (T : TypeId) (s : RS) (w : World) (h : IsR w pb v T errO s) :
    Calls Tryd.prog 19 #[.pointer (some ⟨pb, 0, none⟩)] w fun e w' => e = .returned (.int .i64 (endO s)) ∧ Drawn w w' := by
  obtain ⟨-, -, c2, -, -⟩ := h.facts
  by_cases hm : s.met = 0
  · have hb : ((errO s.met) == 0) = true := by rw [errO_eq]; simp [hm]
    by_cases hl : 0 < s.left
    · have hres : endO s = 13 := by unfold endO; rw [if_pos ⟨hm, hl⟩]
      rw [hres]
      have HR := Lib.hid h
      clear h hm hres
      go_enter Tryd.func19, Tryd.ntmps19
      go_wp2_with fail
      refine (eleft_any pb v T errO s _ HR.out).mono ?_
      rintro e w1 ⟨rfl, hd⟩
      go_wp2_with fail
      go_ret
      exact ⟨rfl, hd⟩
    · have hres : endO s = errO s.met := by unfold endO; rw [if_neg (fun h => hl h.2)]
      rw [hres]
      have HR := Lib.hid h
      clear h hm hres
      go_enter Tryd.func19, Tryd.ntmps19
      go_wp2_with fail
      refine (eleft_any pb v T errO s _ HR.out).mono ?_
      rintro e w1 ⟨rfl, hd⟩
      have R1 := HR.out.calm (hd.chg _)
      have k2 := R1.facts.2.2.1
      go_wp2_with fail
      go_ret
      exact ⟨rfl, hd⟩
  · have hb : ((errO s.met) == 0) = false := by rw [errO_eq]; simp [hm]
    have hres : endO s = errO s.met := by unfold endO; rw [if_neg (fun h => hm h.1)]
    rw [hres]
    clear h hm hres
    go_enter Tryd.func19, Tryd.ntmps19
    go_wp2_with fail
    go_ret
    exact ⟨rfl, Drawn.refl _⟩

set_option maxRecDepth 100000 in
set_option maxHeartbeats 800000 in
theorem efixed_any (pb : Nat) (v : Value) (T : TypeId) (s : RS) (n : Nat) (w : World) (h : IsR w pb v T errO s) (hn : n ≤ 8) :
    Calls Tryd.prog 58 #[.pointer (some ⟨pb, 0, none⟩), .int .i64 n] w fun e w' => e = .returned (.int .u64 (s.fixed n).1) ∧ RStep w pb v T errO (s.fixed n).2 w' := by
  unfold RS.fixed
  have hbl : (s.next n).1.length ≤ n := by unfold RS.next; split; · simp
                                           split
                                           · simp
                                           · simp; omega
  have hnx := eraw_any pb v T s n w h
  rw [show s.raw n = s.next n from by simp [RS.raw]; omega] at hnx
  generalize (s.next n).1 = b at *
  generalize (s.next n).2 = s' at *
  have HX := Lib.hid hnx
  clear h hnx
  go_enter Tryd.func58, Tryd.ntmps58
  go_wp2_with fail
  refine HX.out.mono ?_
  rintro e w1 ⟨y, rfl, hy, hyb, hR, hC⟩
  have hrd := Own.rd hy
  obtain ⟨ao, c, rfl, hc⟩ := hrd.form
  have HY := Lib.hid hrd
  clear hy hyb hrd
  go_wp2_with fail
  go_loop [6, 7] (fun q i => ∃ k : Nat, k ≤ b.length ∧ i = .int .i64 k ∧ q = .int .u64 (RS.num (b.take k))) (fun _ i => b.length - (intOf i).toNat)
  case atStart => exact ⟨0, Nat.zero_le _, rfl, rfl⟩
  case round =>
    obtain ⟨k, hk, rfl, rfl⟩ := hrel
    by_cases hlt : k < b.length
    · obtain ⟨g, off, c', e1, _, _⟩ := HY.out.addr (by omega)
      cases e1
      have c1 := HY.out.cell hlt
      have hlim := RS.num_lt (b.take k)
      have hlim2 : RS.num (b.take k) < 72057594037927936 := by
        refine Nat.lt_of_lt_of_le hlim ?_
        have : (b.take k).length ≤ 7 := by simp; omega
        exact Nat.pow_le_pow_right (by decide) this
      have hnext := RS.num_take_succ b k hlt
      generalize b[k] = x at c1 hnext
      have hx := x.toNat_lt
      generalize RS.num (b.take k) = q at hlim2 hnext
      have HN := Lib.hid hnext
      clear hnext hlim
      go_wp2_with fail
      go_round
      case rel => exact ⟨k + 1, by omega, by go_num, by rw [HN.out]; go_num⟩
      case measure => simp [intOf]; omega
    · obtain rfl : k = b.length := by omega
      rw [List.take_length]
      go_wp2_with fail
      go_ret
      exact ⟨rfl, hR, hC⟩
set_option maxRecDepth 100000 in
theorem eu8_any (pb : Nat) (v : Value) (T : TypeId) (s : RS) (w : World) (h : IsR w pb v T errO s) :
    Calls Tryd.prog 39 #[.pointer (some ⟨pb, 0, none⟩)] w fun e w' => e = .returned (.int .u8 (s.fixed 1).1) ∧ RStep w pb v T errO (s.fixed 1).2 w' := by
  have hlt := RS.fixed_lt s 1
  go_enter Tryd.func39, Tryd.ntmps39
  go_wp2_with (go_at_call 58; refine (efixed_any pb v T s 1 _ h (by omega)).mono ?_; rintro e w1 ⟨rfl, hR⟩)
  go_ret
  exact ⟨rfl, hR⟩
set_option maxRecDepth 100000 in
theorem eu32_any (pb : Nat) (v : Value) (T : TypeId) (s : RS) (w : World) (h : IsR w pb v T errO s) :
    Calls Tryd.prog 41 #[.pointer (some ⟨pb, 0, none⟩)] w fun e w' => e = .returned (.int .u32 (s.fixed 4).1) ∧ RStep w pb v T errO (s.fixed 4).2 w' := by
  have hlt := RS.fixed_lt s 4
  go_enter Tryd.func41, Tryd.ntmps41
  go_wp2_with (go_at_call 58; refine (efixed_any pb v T s 4 _ h (by omega)).mono ?_; rintro e w1 ⟨rfl, hR⟩)
  go_ret
  exact ⟨rfl, hR⟩
set_option maxRecDepth 100000 in
theorem eu64_any (pb : Nat) (v : Value) (T : TypeId) (s : RS) (w : World) (h : IsR w pb v T errO s) :
    Calls Tryd.prog 42 #[.pointer (some ⟨pb, 0, none⟩)] w fun e w' => e = .returned (.int .u64 (s.fixed 8).1) ∧ RStep w pb v T errO (s.fixed 8).2 w' := by
  go_enter Tryd.func42, Tryd.ntmps42
  go_wp2_with (go_at_call 58; refine (efixed_any pb v T s 8 _ h (by omega)).mono ?_; rintro e w1 ⟨rfl, hR⟩)
  go_ret
  exact ⟨rfl, hR⟩
end Go.Proofs.YtnfmeaifbankjaaDoor
