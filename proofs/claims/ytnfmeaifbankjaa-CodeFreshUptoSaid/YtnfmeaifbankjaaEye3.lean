import Derived.Test.YtnfmeaifbankjaaEye2
set_option linter.unusedVariables false
namespace Go.Proofs.Ytnfmeaifbankjaa
open Go Go.RowKit Go.Sat

theorem rvarN_any (n : Nat) (w : World) (hn : n < 18446744073709551616) : Calls Try.prog 33 #[.int .u64 n] w (NewB 5 w (varB n)) := rvar_any n w (by omega)

set_option maxRecDepth 100000 in
set_option maxHeartbeats 1600000 in
theorem evar_any (pb : Nat) (v : Value) (T : TypeId) (s : RS) (most : Nat) (w : World) (h : IsR w pb v T errO s) (hmost : most < 18446744073709551616) :
    Calls Try.prog 44 #[.pointer (some ⟨pb, 0, none⟩), .int .u64 most] w fun e w' => e = .returned (.int .u64 (s.var most).1) ∧ RStep w pb v T errO (s.var most).2 w' := by
  have hlen := h.len
  have hle := h.ok.le
  obtain ⟨c0, c1, c2, -, -⟩ := h.facts
  by_cases hm : s.met = 0
  · have hvar : s.var most = s.aft (vr s.look most) := by simp [RS.var, hm]
    rw [hvar]
    have hb : ((errO s.met) != 0) = false := by rw [errO_zero]; simp [hm]
    have hll := RS.look_len_eq h.ok
    have HR := Lib.hid h
    have HM := Lib.hid hm
    have HLL := Lib.hid hll
    cases he : endAt s.look with
    | none =>
      have hlast : lastI s = -1 := by unfold lastI; rw [he]
      have hres : vr s.look most = if s.look.length < 10 then .bad 1 else .bad 2 := by unfold vr; rw [he]
      have HLAST := Lib.hid hlast
      by_cases h10 : s.left < 10
      · rw [if_pos (by omega)] at hres
        rw [hres]
        clear h hvar hm hll he hlast hres
        go_enter Try.func44, Try.ntmps44
        go_wp2_with fail
        refine (elast_any pb v T s _ HR.out).mono ?_
        rw [HLAST.out]
        rintro e w1 ⟨rfl, hd⟩
        have R1 := HR.out.calm (hd.chg _)
        obtain ⟨k0, k1, k2, g1, g2⟩ := R1.facts
        go_wp2_with fail
        have hc1 := setCell_chg w1 ⟨pb, 2, none⟩ (.int .i64 11)
        have R2 : IsR (w1.setCell ⟨pb, 2, none⟩ (.int .i64 11)) pb v T errO (s.fall 2) := R1.put rfl (RS.fall_ok R1.ok (by omega)) (R1.blk.set 2 _) hc1
        refine (eleft_any pb v T errO (s.fall 2) _ R2).mono ?_
        rintro e w2 ⟨rfl, hd2⟩
        have hleft : (s.fall 2).left = s.left := rfl
        rw [hleft]
        have R3 := R2.calm (hd2.chg _)
        obtain ⟨j0, j1, j2, i1, i2⟩ := R3.facts
        go_wp2_with fail
        go_ret
        have hc3 := setCell_chg w2 ⟨pb, 2, none⟩ (.int .i64 10)
        exact ⟨rfl, R3.put (s' := s.fall 1) rfl (RS.fall_ok R1.ok (by omega)) (R3.blk.set 2 _) hc3, (((hd.chg (fun k => k = pb)).trans hc1 fun _ _ h => h).trans (hd2.chg (fun k => k = pb)) fun _ _ h => h).trans hc3 fun _ _ h => h⟩
      · rw [if_neg (by omega)] at hres
        rw [hres]
        clear h hvar hm hll he hlast hres
        go_enter Try.func44, Try.ntmps44
        go_wp2_with fail
        refine (elast_any pb v T s _ HR.out).mono ?_
        rw [HLAST.out]
        rintro e w1 ⟨rfl, hd⟩
        have R1 := HR.out.calm (hd.chg _)
        obtain ⟨k0, k1, k2, g1, g2⟩ := R1.facts
        go_wp2_with fail
        have hc1 := setCell_chg w1 ⟨pb, 2, none⟩ (.int .i64 11)
        have R2 : IsR (w1.setCell ⟨pb, 2, none⟩ (.int .i64 11)) pb v T errO (s.fall 2) := R1.put rfl (RS.fall_ok R1.ok (by omega)) (R1.blk.set 2 _) hc1
        refine (eleft_any pb v T errO (s.fall 2) _ R2).mono ?_
        rintro e w2 ⟨rfl, hd2⟩
        have hleft : (s.fall 2).left = s.left := rfl
        rw [hleft]
        have R3 := R2.calm (hd2.chg _)
        go_wp2_with fail
        go_ret
        exact ⟨rfl, R3, ((hd.chg (fun k => k = pb)).trans hc1 fun _ _ h => h).trans (hd2.chg (fun k => k = pb)) fun _ _ h => h⟩
    | some k =>
      obtain ⟨hk, hall, hk128⟩ := endAt_spec s.look k he
      have hl10 := RS.look_len s
      have hlast : lastI s = ((s.p + k : Nat) : Int) := by unfold lastI; rw [he]
      have hpk : s.p + k < s.l.length := by unfold RS.left at hll; omega
      have hiff := again_iff s.look k he hl10
      have hvr : vr s.look most = if (k = 9 ∧ 1 < (s.look.getD 9 0).toNat) ∨ ((s.look.getD k 0).toNat = 0 ∧ 0 < k) then .bad 2 else if most < val (s.look.take (k + 1)) then .bad 3 else .ok (val (s.look.take (k + 1))) (k + 1) := by unfold vr; rw [he]
      have htl : s.look.take (k + 1) = (s.l.drop s.p).take (k + 1) := by simp only [RS.look]; rw [List.take_take, Nat.min_eq_left (by omega)]
      have HLAST := Lib.hid hlast
      have HTL := Lib.hid htl
      have HIFF := Lib.hid hiff
      have HVR := Lib.hid hvr
      have hget : ∀ m, m ≤ k → s.look[m]? = s.l[s.p + m]? := fun m hmk => by rw [List.getElem?_eq_getElem (show m < s.look.length by omega), List.getElem?_eq_getElem (show s.p + m < s.l.length by omega), look_get s m (by omega) (by omega)]
      have HGET := Lib.hid hget
      obtain ⟨ao, c, rfl, hc⟩ := HR.out.rd.form
      clear h hvar hm hll he hlast hiff htl hget hall hk128 hvr
      generalize s.look = L at *
      go_enter Try.func44, Try.ntmps44
      go_wp2_with fail
      refine (elast_any pb _ T s _ HR.out).mono ?_
      rw [HLAST.out]
      rintro e w1 ⟨rfl, hd⟩
      have R1 := HR.out.calm (hd.chg _)
      obtain ⟨k0, k1, k2, g1, g2⟩ := R1.facts
      obtain ⟨g, off, yc', e1, _, _⟩ := R1.rd.addr (by omega)
      cases e1
      have HR1 := Lib.hid R1
      clear R1
      go_wp2_with fail
      go_loop [6, 7] (fun n i => ∃ m : Nat, m ≤ k + 1 ∧ i = .int .i64 ((s.p : Int) + m - 1) ∧ n = .int .u64 ((val ((L.take (k + 1)).drop m) % 18446744073709551616 : Nat) : Int)) (fun _ i => (intOf i + 1 - s.p).toNat)
      case atStart => exact ⟨k + 1, Nat.le_refl _, by go_num, by rw [List.drop_of_length_le (by simp; omega)]; rfl⟩
      case round =>
        obtain ⟨m, hm, rfl, rfl⟩ := hrel
        cases m with
        | zero =>
          rw [show ((s.p : Int) + ((0 : Nat) : Int) - 1) = (s.p : Int) - 1 from by omega, List.drop_zero]
          have hif := HIFF.out
          have hvr := HVR.out
          have hvl := val_varB (val (L.take (k + 1)) % 18446744073709551616)
          have hnlt : val (L.take (k + 1)) % 18446744073709551616 < 18446744073709551616 := Nat.mod_lt _ (by decide)
          have hvlen := varB_len _ hnlt
          have htk : (L.take (k + 1)).length = k + 1 := by simp; omega
          have HTK := Lib.hid htk
          generalize hN : val (L.take (k + 1)) % 18446744073709551616 = N at *
          generalize L.take (k + 1) = B at *
          have HN := Lib.hid hN
          have HVL := Lib.hid hvl
          clear hN hvl htk
          by_cases hC : (k = 9 ∧ 1 < (L.getD 9 0).toNat) ∨ ((L.getD k 0).toNat = 0 ∧ 0 < k)
          · have hne : eqB (varB N) B = false := by
              rw [← Bool.not_eq_true, eqB_true]
              exact fun e => hif.1 e hC
            rw [if_pos hC] at hvr
            have HVRR := Lib.hid hvr
            have HNE := Lib.hid hne
            clear hif hvr hC hne
            go_wp2_with fail
            refine wp_region_pin (fun _ => false) [5, 9] [2] (Same (fun _ => False) w1) mixed (by kernel_rfl) (fun _ _ h e => h.ext e) (Same.refl _ _).drew ?_
            simp only [wpSegs, List.take_succ_cons, List.take_zero, List.drop_succ_cons, List.drop_zero]
            go_wp2_with fail
            refine (rvarN_any N _ hnlt).mono ?_
            rintro e w4 ⟨y0, rfl, O4, c4, b4⟩
            have c4' : Chg (fun _ => False) w1 w4 := ((Chg.refl _ w1).drew).trans c4 fun _ _ h => h
            have R4 := HR1.out.calm c4'
            obtain ⟨j0, j1, j2, i1, i2⟩ := R4.facts
            go_wp2_with fail
            refine SegQ.normal ⟨fun z o h _ => c4'.keep h id, ?_⟩
            go_wp2_with ((with_reducible show wpList _ _ _ (⟨some 59, _, _, _, _, _⟩ :: _) _ _); refine wpl_part rfl 22 (.tmp 52) (.tmp 56) (.tmp 58) rfl Try.underlying22 sizeU8 rfl R4.rd s.p (s.p + k + 1) rfl rfl rfl (by omega) (by omega) (by omega) ?_; intro y hy hyb; rw [show s.p + k + 1 - s.p = k + 1 from by omega, ← HTL.out] at hy)
            refine (eq_any _ _ _ _ _ O4.rd hy (by omega) (by rw [HTK.out]; omega)).mono ?_
            rw [HNE.out]
            rintro e w5 ⟨rfl, hd5⟩
            have R5 := R4.calm (hd5.chg _)
            obtain ⟨q0, q1, q2, r1, r2⟩ := R5.facts
            go_wp2_with fail
            refine TQ.normal (by kernel_rfl) ⟨⟨PinAt.cell rfl rfl rfl k0 id (fun X h => by go_simp), PinAt.cell rfl rfl rfl k1 id (fun X h => by go_simp), trivial⟩, ?_⟩
            go_wp2_with fail
            go_ret
            have hc6 := setCell_chg w5 ⟨pb, 2, none⟩ (.int .i64 11)
            rw [HVRR.out]
            exact ⟨rfl, R5.put (s' := s.fall 2) rfl (RS.fall_ok R5.ok (by omega)) (R5.blk.set 2 _) hc6, ((((hd.chg (fun k => k = pb)).trans c4' fun _ _ h => h.elim).trans (hd5.chg (fun k => k = pb)) fun _ _ h => h)).trans hc6 fun _ _ h => h⟩
          · have heq : varB N = B := hif.2 hC
            have hnB : val B = N := by rw [← heq]; exact HVL.out
            have hne : eqB (varB N) B = true := by rw [eqB_true]; exact heq
            rw [if_neg hC, hnB] at hvr
            have HNE := Lib.hid hne
            have HNB := Lib.hid hnB
            by_cases hmo : most < N
            · rw [if_pos hmo] at hvr
              have HVRR := Lib.hid hvr
              clear hif hvr hC hne heq hnB
              go_wp2_with fail
              refine wp_region_pin (fun _ => false) [5, 9] [2] (Same (fun _ => False) w1) mixed (by kernel_rfl) (fun _ _ h e => h.ext e) (Same.refl _ _).drew ?_
              simp only [wpSegs, List.take_succ_cons, List.take_zero, List.drop_succ_cons, List.drop_zero]
              go_wp2_with fail
              refine (rvarN_any N _ hnlt).mono ?_
              rintro e w4 ⟨y0, rfl, O4, c4, b4⟩
              have c4' : Chg (fun _ => False) w1 w4 := ((Chg.refl _ w1).drew).trans c4 fun _ _ h => h
              have R4 := HR1.out.calm c4'
              obtain ⟨j0, j1, j2, i1, i2⟩ := R4.facts
              go_wp2_with fail
              refine SegQ.normal ⟨fun z o h _ => c4'.keep h id, ?_⟩
              go_wp2_with ((with_reducible show wpList _ _ _ (⟨some 59, _, _, _, _, _⟩ :: _) _ _); refine wpl_part rfl 22 (.tmp 52) (.tmp 56) (.tmp 58) rfl Try.underlying22 sizeU8 rfl R4.rd s.p (s.p + k + 1) rfl rfl rfl (by omega) (by omega) (by omega) ?_; intro y hy hyb; rw [show s.p + k + 1 - s.p = k + 1 from by omega, ← HTL.out] at hy)
              refine (eq_any _ _ _ _ _ O4.rd hy (by omega) (by rw [HTK.out]; omega)).mono ?_
              rw [HNE.out]
              rintro e w5 ⟨rfl, hd5⟩
              have R5 := R4.calm (hd5.chg _)
              obtain ⟨q0, q1, q2, r1, r2⟩ := R5.facts
              go_wp2_with fail
              refine TQ.normal (by kernel_rfl) ⟨⟨PinAt.cell rfl rfl rfl k0 id (fun X h => by go_simp), PinAt.cell rfl rfl rfl k1 id (fun X h => by go_simp), trivial⟩, ?_⟩
              go_wp2_with fail
              go_ret
              have hc6 := setCell_chg w5 ⟨pb, 2, none⟩ (.int .i64 12)
              rw [HVRR.out]
              exact ⟨rfl, R5.put (s' := s.fall 3) rfl (RS.fall_ok R5.ok (by omega)) (R5.blk.set 2 _) hc6, ((((hd.chg (fun k => k = pb)).trans c4' fun _ _ h => h.elim).trans (hd5.chg (fun k => k = pb)) fun _ _ h => h)).trans hc6 fun _ _ h => h⟩
            · rw [if_neg hmo] at hvr
              have HVRR := Lib.hid hvr
              clear hif hvr hC hne heq hnB
              go_wp2_with fail
              refine wp_region_pin (fun _ => false) [5, 9] [2] (Same (fun _ => False) w1) mixed (by kernel_rfl) (fun _ _ h e => h.ext e) (Same.refl _ _).drew ?_
              simp only [wpSegs, List.take_succ_cons, List.take_zero, List.drop_succ_cons, List.drop_zero]
              go_wp2_with fail
              refine (rvarN_any N _ hnlt).mono ?_
              rintro e w4 ⟨y0, rfl, O4, c4, b4⟩
              have c4' : Chg (fun _ => False) w1 w4 := ((Chg.refl _ w1).drew).trans c4 fun _ _ h => h
              have R4 := HR1.out.calm c4'
              obtain ⟨j0, j1, j2, i1, i2⟩ := R4.facts
              go_wp2_with fail
              refine SegQ.normal ⟨fun z o h _ => c4'.keep h id, ?_⟩
              go_wp2_with ((with_reducible show wpList _ _ _ (⟨some 59, _, _, _, _, _⟩ :: _) _ _); refine wpl_part rfl 22 (.tmp 52) (.tmp 56) (.tmp 58) rfl Try.underlying22 sizeU8 rfl R4.rd s.p (s.p + k + 1) rfl rfl rfl (by omega) (by omega) (by omega) ?_; intro y hy hyb; rw [show s.p + k + 1 - s.p = k + 1 from by omega, ← HTL.out] at hy)
              refine (eq_any _ _ _ _ _ O4.rd hy (by omega) (by rw [HTK.out]; omega)).mono ?_
              rw [HNE.out]
              rintro e w5 ⟨rfl, hd5⟩
              have R5 := R4.calm (hd5.chg _)
              obtain ⟨q0, q1, q2, r1, r2⟩ := R5.facts
              go_wp2_with fail
              refine TQ.normal (by kernel_rfl) ⟨⟨PinAt.cell rfl rfl rfl k0 id (fun X h => by go_simp), PinAt.cell rfl rfl rfl k1 id (fun X h => by go_simp), trivial⟩, ?_⟩
              go_wp2_with fail
              go_ret
              have hc6 := setCell_chg w5 ⟨pb, 1, none⟩ (.int .i64 ((s.p : Int) + k + 1))
              rw [HVRR.out]
              exact ⟨rfl, R5.put (s' := { s with p := s.p + (k + 1) }) rfl ⟨by show s.p + (k + 1) ≤ s.l.length; omega, R5.ok.met⟩ (R5.blk.set 1 _) hc6, ((((hd.chg (fun k => k = pb)).trans c4' fun _ _ h => h.elim).trans (hd5.chg (fun k => k = pb)) fun _ _ h => h)).trans hc6 fun _ _ h => h⟩
        | succ m =>
          rw [show ((s.p : Int) + ((m + 1 : Nat) : Int) - 1) = ((s.p + m : Nat) : Int) from by omega]
          have hpm : s.p + m < s.l.length := by omega
          have c3 := HR1.out.rd.cell hpm
          have hmL : m < L.length := by omega
          have hg := HGET.out m (by omega)
          rw [List.getElem?_eq_getElem hmL, List.getElem?_eq_getElem hpm] at hg
          injection hg with hg
          have hdrop : (L.take (k + 1)).drop m = L[m] :: (L.take (k + 1)).drop (m + 1) := by
            rw [List.drop_eq_getElem_cons (by simp; omega)]
            simp
          rw [hg] at hdrop
          generalize s.l[s.p + m] = x at c3 hdrop
          have HD := Lib.hid hdrop
          have hx := x.toNat_lt
          generalize hN : val ((L.take (k + 1)).drop (m + 1)) % 18446744073709551616 = N
          have hNlt : N < 18446744073709551616 := by rw [← hN]; exact Nat.mod_lt _ (by decide)
          have HN := Lib.hid hN
          clear hg hdrop hN
          go_wp2_with fail
          go_round
          case rel => exact ⟨m, by omega, rfl, by rw [HD.out, ← HN.out, wrap_step]; rfl⟩
          case measure => simp [intOf]; omega
  · have hvar : s.var most = (0, s) := by simp [RS.var, hm]
    rw [hvar]
    have hb : ((errO s.met) != 0) = true := by rw [errO_zero]; simp [hm]
    have HR := Lib.hid h
    clear h hvar hm
    go_enter Try.func44, Try.ntmps44
    go_wp2_with fail
    go_ret
    exact ⟨rfl, HR.out, Chg.refl _ _⟩
end Go.Proofs.Ytnfmeaifbankjaa
