import Derived.Test.YtlanabocdoacgaaDoorDRemade
set_option linter.unusedVariables false
namespace Go.Proofs.YtlanabocdoacgaaDoor
open Go Go.RowKit Go.Sat
/-- The first part of a slice of bytes that reads. -/
theorem wpl_to {P : Program} {ops : Array Oper} {rest : List Oper} {o : Oper} {a : Act} {Q : Exit → Act → World → Prop} {w : World} (hw : Region.wanted o (yielded ops a.tmps) = true) (t : TypeId) (x hi : Operand)
    (ho : o.op = .slice t x none (some hi) none) {e : TypeId} (ht : P.underlying t = some (.slice e)) (hsz : ∀ w, (sizeOf e).run P w = .ok 1 w) {ao : Option Addr} {n c : Nat} {l : List UInt8} (hx : a.eval x = .slice ao n c) (hr : Rd w (.slice ao n c) l)
    {j : Int} (h0 : Nat) (hhi : a.eval hi = .int .i64 j) (hj0 : j = h0) (h2 : h0 ≤ l.length)
    (h : ∀ y, Rd w y (l.take h0) → (∀ k, rdb y = some k → rdb (.slice ao n c) = some k) → wpList P ops Q rest (a.put o.dst y) w) : wpList P ops Q (o :: rest) a w := by
  subst hj0
  have hp := hr.part (Nat.zero_le h0) h2
  have hc : l.length ≤ c ∧ n = l.length := by
    obtain ⟨ao', c', e1, e2⟩ := hr.form
    injection e1 with e3 e4 e5
    omega
  have he : P.elem t = e := by simp [Program.elem, ht]
  have hrun : (Instr.slice t (.slice ao n c) none (some (.int .i64 (h0 : Int))) none).run P w = .ok (.slice (ao.map fun a => if c = 0 then a else a.add 0) (h0 - 0) (c - 0)) w := by
    rw [run_slice_h w t ao n c (by rw [he]; exact ht) .i64 h0 (by omega) (by omega), he, hsz]
    simp [sliced]
    try (split <;> (cases ao <;> rfl))
  have hrun2 : (Instr.sliceAt t (.slice ao n c) none (some (.int .i64 (h0 : Int))) none).run P w = .ok (.slice (ao.map fun a => if c = 0 then a else a.add 0) (h0 - 0) (c - 0)) w := by
    rw [run_sliceAt_slice _ _ _ _ _ _ (by rw [he]; exact ht)]; exact hrun
  have hdt : (l.drop 0).take (h0 - 0) = l.take h0 := by simp
  rw [hdt] at hp
  refine BigFrame.wpList_want hw fun K hK => ?_
  unfold Oper.wp execOp
  have := hK _ _ (h _ hp fun k hk => ?_)
  · simpa [ho, hhi, hx, hrun2, Oper.upon] using this
  · cases ao with
    | none => simp [rdb] at hk
    | some a =>
      simp only [rdb, Option.map_some] at hk ⊢
      split at hk
      · cases hk
      · rw [if_neg (by omega)]
        rw [← hk]
        split
        · rfl
        · unfold Addr.add; split <;> rfl
theorem dinto_any (n m : Int) (w : World) (hm : 0 < m) (hm1 : m ≤ 1000000000) (hn : -9223372036854775808 ≤ n ∧ n ≤ 9223372036854775807) :
    Calls Tryd.prog 19 #[.int .i64 n, .int .i64 m] w fun e w' => e = .returned (.int .i64 (n % m)) ∧ w = w' := by
  obtain ⟨h1, h2, h3, h4⟩ := into_cases n m hm
  have H3 := Lib.hid h3
  have H4 := Lib.hid h4
  clear h3 h4
  obtain ⟨hn0, hn1⟩ := hn
  have hz : (m == 0) = false := by simp; omega
  go_enter Tryd.func19, Tryd.ntmps19
  by_cases hneg : n.tmod m < 0
  · go_wp2
    go_ret
    exact ⟨ret_int (by rw [← H3.out hneg]), rfl⟩
  · go_wp2
    go_ret
    exact ⟨ret_int (by rw [← H4.out (by omega)]), rfl⟩
set_option maxRecDepth 100000 in
set_option maxHeartbeats 6400000 in
theorem dstrict_walk (vb vt vm : Value) (b t m : List UInt8) (at_ : Int) (W : World) (hE : Errnos W) (hb : Rd W vb b) (ht : Rd W vt t) (hm : Rd W vm m) (hat : -9223372036854775808 ≤ at_ ∧ at_ ≤ 9223372036854775807) (hl : b.length + t.length + m.length ≤ 1048576) :
    Calls Tryd.prog 4 #[.agg #[vb, vt, .int .i64 at_, vm]] W fun e w' => e = .returned (.bool true) ∧ Chg (fun _ => False) W w' := by
  obtain ⟨ba, bc, rfl, _⟩ := hb.form
  obtain ⟨ta, tc, rfl, _⟩ := ht.form
  obtain ⟨ma, mc, rfl, _⟩ := hm.form
  have CW : Chg (fun _ => False) W (W.alloc (.cells #[.slice ba b.length bc, .slice ta t.length tc, .int .i64 at_, .slice ma m.length mc] 42)) := (Chg.refl _ W).alloc _
  have BX : Blk (W.alloc (.cells #[.slice ba b.length bc, .slice ta t.length tc, .int .i64 at_, .slice ma m.length mc] 42)) W.heap.size 42 #[.slice ba b.length bc, .slice ta t.length tc, .int .i64 at_, .slice ma m.length mc] := Blk.new W _ _
  have HE := Lib.hid (hE.kept CW id)
  have RB := Lib.hid (hb.kept CW (fun _ _ => id))
  have RT := Lib.hid (ht.kept CW (fun _ _ => id))
  have RM := Lib.hid (hm.kept CW (fun _ _ => id))
  have HCW := Lib.hid CW
  obtain ⟨bb, hbb⟩ : ∃ bb, bb = W.heap.size := ⟨_, rfl⟩
  have hmk : (b.length ≤ 65536 ∧ t.length ≤ 65536) → appR b (makeR b t) = (t, 0) ∧ (∀ j, j < (makeR b t).length → appR b ((makeR b t).take j) = ([], 70)) ∧ (∀ r, r ≠ [] → appR b (makeR b t ++ r) = ([], 70)) ∧ (∀ b' : List UInt8, b.length ≠ b'.length → appR b' (makeR b t) = ([], 71)) ∧ 2 ≤ (makeR b t).length ∧ (makeR b t).length ≤ 65568 :=
    fun h => ⟨make_good b t h.1 h.2, fun j hj => make_part b t j h.1 h.2 hj, fun r hr => make_more b t r h.1 h.2 hr, fun b' hb' => make_base b t b' h.1 hb', make_two b t, make_le b t h.1 h.2⟩
  have HMK := Lib.hid hmk
  rw [← hbb] at BX
  clear hE hb ht hm CW hmk
  go_enter Tryd.func4, Tryd.ntmps4
  go_wp2_with ((with_reducible show wpList _ _ _ (⟨some 9, _, _, _, _, _⟩ :: _) _ _); refine Shut.out ?_)
  show wpList _ _ _ _ _ _
  rw [← hbb]
  clear hbb
  generalize W.alloc (.cells #[.slice ba b.length bc, .slice ta t.length tc, .int .i64 at_, .slice ma m.length mc] 42) = w0 at *
  have k0 : ∀ w, Chg (fun _ => False) w0 w → w.cell? ⟨bb, 0, none⟩ = some (.slice ba b.length bc) := fun w c => by rw [(BX.kept c id).cell]; rfl
  have k1 : ∀ w, Chg (fun _ => False) w0 w → w.cell? ⟨bb, 1, none⟩ = some (.slice ta t.length tc) := fun w c => by rw [(BX.kept c id).cell]; rfl
  have k2 : ∀ w, Chg (fun _ => False) w0 w → w.cell? ⟨bb, 2, none⟩ = some (.int .i64 at_) := fun w c => by rw [(BX.kept c id).cell]; rfl
  have k3 : ∀ w, Chg (fun _ => False) w0 w → w.cell? ⟨bb, 3, none⟩ = some (.slice ma m.length mc) := fun w c => by rw [(BX.kept c id).cell]; rfl
  have K0 := Lib.hid k0
  have K1 := Lib.hid k1
  have K2 := Lib.hid k2
  have K3 := Lib.hid k3
  clear k0 k1 k2 k3 BX
  go_wp2_with fail
  (refine (lives_any w0 HE.out).mono ?_; rintro e w1 ⟨rfl, C1⟩)
  have c0 := K0.out _ C1
  have c1 := K1.out _ C1
  by_cases hs : b.length ≤ 65536 ∧ t.length ≤ 65536
  · obtain ⟨hg, hp, hr, hbs, h2, hle⟩ := HMK.out hs
    obtain ⟨hs1, hs2⟩ := hs
    have hq3 : decide (65536 < (b.length : Int)) = false := by simp; omega
    have hq4 : decide (65536 < (t.length : Int)) = false := by simp; omega
    have HG := Lib.hid hg
    have HP := Lib.hid hp
    have HR := Lib.hid hr
    have HBS := Lib.hid hbs
    clear hg hp hr hbs HMK
    go_wp2_with fail
    (refine (makeS_any _ _ b t w1 (RB.out.kept C1 (fun _ _ => id)) (RT.out.kept C1 (fun _ _ => id)) hs1 hs2).mono ?_; rintro e w2 ⟨y2, rfl, O2, hb2, D2⟩)
    have C2 := C1.trans D2 (fun _ _ h => h)
    have RY : Rd w2 y2 (makeR b t) := Own.rd O2
    obtain ⟨ya, yc, rfl, _⟩ := RY.form
    generalize makeR b t = mk at *
    have hq5 : decide ((mk.length : Int) < 2) = false := by simp; omega
    clear c0 c1 C1 D2 O2 hb2
    simp only
    go_wp2_with fail
    (refine (dnum_any 0 w2).mono ?_; rintro e w' ⟨rfl, rfl⟩)
    have c0 := K0.out _ C2
    have c2 := K2.out _ C2
    go_wp2_with fail
    clear hq5
    obtain ⟨n0, hn0, hnl⟩ : ∃ n0 : Nat, at_ % (mk.length : Int) = (n0 : Int) ∧ n0 < mk.length := ⟨(at_ % (mk.length : Int)).toNat, by have := Int.emod_nonneg at_ (show (mk.length : Int) ≠ 0 by omega); omega, by have := Int.emod_nonneg at_ (show (mk.length : Int) ≠ 0 by omega); have := Int.emod_lt_of_pos at_ (show (0 : Int) < mk.length by omega); omega⟩
    refine wp_region_pin (fun _ => false) [1] [8, 2] (Same (fun _ => False) w2) mixed (by kernel_rfl) (fun _ _ h e => h.ext e) (Same.refl _ _).drew ?_
    simp only [wpSegs, List.take_succ_cons, List.take_zero, List.drop_succ_cons, List.drop_zero]
    have D3 : Chg (fun _ => False) w2 w2.drew := (Chg.refl _ w2).drew
    have C3 := C2.trans D3 (fun _ _ h => h)
    have RY3 := RY.kept D3 (fun _ _ => id)
    go_wp2_with fail
    have hin := dinto_any at_ mk.length w2.drew (by omega) (by omega) hat
    rw [hn0] at hin
    (refine hin.mono ?_; rintro e w' ⟨rfl, rfl⟩)
    clear hin
    go_wp2_with fail
    refine SegQ.normal ⟨fun z o h hz => D3.keep h hz, ?_⟩
    go_wp2_with (first
      | ((with_reducible show wpList _ _ _ (⟨some 49, _, _, _, _, _⟩ :: _) _ _); refine wpl_to rfl 24 (.tmp 43) (.tmp 48) rfl Tryd.underlying24 sizeU8 rfl RY3 n0 rfl rfl (by omega) ?_; intro yk hyk hyks)
      | fail)
    have ha := apply_any _ yk b (mk.take n0) w2.drew (HE.out.kept C3 id) (RB.out.kept C3 (fun _ _ => id)) hyk (by omega) (by rw [List.length_take]; omega)
    rw [HP.out n0 hnl] at ha
    (refine ha.mono ?_; rintro e w4 ⟨y4, rfl, O4, hb4, D4⟩)
    have D24 := D3.trans D4 (fun _ _ h => h)
    have C4 := C3.trans D4 (fun _ _ h => h)
    have RY4 := RY3.kept D4 (fun _ _ => id)
    have RZ4 : Rd w4 y4 [] := Own.rd O4
    obtain ⟨za, zc, rfl, _⟩ := RZ4.form
    clear ha hyk hyks RY RY3 C3 D4 D3 O4 hb4 RZ4
    simp only
    go_wp2_with fail
    refine SegQ.normal ⟨fun z o h hz => D24.keep h hz, ?_⟩
    go_wp2_with fail
    refine TQ.normal (by kernel_rfl) ⟨⟨PinAt.cell rfl rfl rfl c0 id (fun X h => by go_simp), trivial⟩, ?_⟩
    clear c0 c2 C2 D24
    go_wp2_with fail
    (refine (dnum_any 70 w4).mono ?_; rintro e w' ⟨rfl, rfl⟩)
    have c3 := K3.out _ C4
    go_wp2_with (first
      | ((with_reducible show wpList _ _ _ (⟨some 63, _, _, _, _, _⟩ :: _) _ _); refine wpl_append (o := ⟨some 63, _, _, _, _, _⟩) rfl (.tmp 61) (.tmp 62) 24 rfl tyBytes (World.ownsRow_nil _ 0 _ 1) (RY4) rfl rfl (by unfold maxLen; omega) (by omega) ?_; intro ao1 cap1 w5 own1 hgr1 hblk1; simp only [Nat.zero_add, List.nil_append] at own1 hblk1)
      | ((with_reducible show wpList _ _ _ (⟨some 66, _, _, _, _, _⟩ :: _) _ _); refine wpl_append (o := ⟨some 66, _, _, _, _, _⟩) rfl (.tmp 64) (.tmp 65) 24 rfl tyBytes (own1.alloc _) (Sl.built1 _ _ _ rfl) rfl rfl (by unfold maxLen; omega) (by omega) ?_; intro ao2 cap2 w6 own2 hgr2 hblk2; refine Shut.out ?_)
      | fail)
    show wpList _ _ _ _ _ _
    have hv1 : ∀ k, (Value.slice ao1 mk.length cap1).ownBlock = some k → w4.heap.size ≤ k := fun k hk => by
      rcases hblk1 with h | h
      · rw [h] at hk; simp [Value.ownBlock] at hk
      · rw [h] at hk; simp at hk; omega
    have hs45 := hgr1.size
    have C5 : Chg (fun _ => False) w0 w5 := C4.grown hgr1 (fun k hk => by simp [Value.ownBlock] at hk)
    have E5 : Chg (fun _ => False) w4 w5 := (Chg.refl _ w4).grown hgr1 (fun k hk => by simp [Value.ownBlock] at hk)
    have hs04 := C4.size
    have C6 : Chg (fun _ => False) w0 w6 := (C5.alloc _).grown hgr2 (fun k hk => .inl (by have := hv1 k hk; omega))
    have E6 : Chg (fun _ => False) w4 w6 := (E5.alloc _).grown hgr2 (fun k hk => .inl (hv1 k hk))
    have hv2 : ∀ k, (Value.slice ao2 (mk.length + 1) cap2).ownBlock = some k → w4.heap.size ≤ k := fun k hk => by
      rcases hblk2 with h | h
      · rw [h] at hk; exact hv1 k hk
      · rw [h] at hk; simp at hk; omega
    have hs56 := C6.size
    have RM6 := RM.out.kept C6 (fun _ _ => id)
    have c3b := K3.out _ C6
    have own2' : Own w6 5 1 (.slice ao2 (mk.length + 1) cap2) (mk.length + 1) (bcells (mk ++ [0])) := by rw [bcells_append]; exact own2
    clear own1 hgr1 hblk1 own2 hgr2 hblk2 c3 E5 C5 hv1
    go_wp2_with (first
      | ((with_reducible show wpList _ _ _ (⟨some 70, _, _, _, _, _⟩ :: _) _ _); refine wpl_append (o := ⟨some 70, _, _, _, _, _⟩) rfl (.tmp 67) (.tmp 69) 24 rfl tyBytes (own2') (RM6) rfl rfl (by unfold maxLen; omega) (by omega) ?_; intro ao3 cap3 w7 own3 hgr3 hblk3; refine Shut.out ?_)
      | fail)
    show wpList _ _ _ _ _ _
    have C7 : Chg (fun _ => False) w0 w7 := C6.grown hgr3 (fun k hk => .inl (by have := hv2 k hk; omega))
    have E7 : Chg (fun _ => False) w4 w7 := E6.grown hgr3 (fun k hk => .inl (hv2 k hk))
    have RY7 := RY4.kept E7 (fun _ _ => id)
    have RX7 : Rd w7 (.slice ao3 (mk.length + 1 + m.length) cap3) (mk ++ [0] ++ m) := Own.rd (own3.cast (by simp; omega) (bcells_append _ _).symm)
    have hml : (mk ++ [0] ++ m).length ≤ 2000000 := by simp; omega
    have hmr : appR b (mk ++ [0] ++ m) = ([], 70) := by rw [List.append_assoc]; exact HR.out _ (by simp)
    clear RY4 C6 E6 hv2 hs56 RM6 c3b own2' own3 hgr3 hblk3 hs45 hs04 C4 E7
    have c0 := K0.out _ C7
    go_wp2_with fail
    have ha := apply_any _ _ b (mk ++ [0] ++ m) w7 (HE.out.kept C7 id) (RB.out.kept C7 (fun _ _ => id)) RX7 (by omega) hml
    rw [hmr] at ha
    (refine ha.mono ?_; rintro e w8 ⟨y8, rfl, O8, hb8, D8⟩)
    have C8 := C7.trans D8 (fun _ _ h => h)
    have RY8 := RY7.kept D8 (fun _ _ => id)
    have RZ8 : Rd w8 y8 [] := Own.rd O8
    obtain ⟨za8, zc8, rfl, _⟩ := RZ8.form
    clear ha RX7 hml hmr RY7 C7 D8 O8 hb8 RZ8 c0
    simp only
    go_wp2_with fail
    (refine (dnum_any 70 w8).mono ?_; rintro e w' ⟨rfl, rfl⟩)
    have c0 := K0.out _ C8
    go_wp2_with fail
    (refine (copy_any _ b w8 (RB.out.kept C8 (fun _ _ => id)) (by omega)).mono ?_; rintro e w9 ⟨rfl, O9, D9, hz9⟩)
    have C9 := C8.trans D9 (fun _ _ h => h)
    have c3 := K3.out _ C9
    have RM9 := RM.out.kept C9 (fun _ _ => id)
    clear c0
    go_wp2_with (first
      | ((with_reducible show wpList _ _ _ (⟨some 92, _, _, _, _, _⟩ :: _) _ _); refine wpl_append (o := ⟨some 92, _, _, _, _, _⟩) rfl (.tmp 89) (.tmp 91) 24 rfl tyBytes (O9) (RM9) rfl rfl (by unfold maxLen; omega) (by omega) ?_; intro ao4 cap4 w10 own4 hgr4 hblk4; refine Shut.out ?_)
      | fail)
    show wpList _ _ _ _ _ _
    have D10 : Chg (fun _ => False) w8 w10 := D9.grown hgr4 (fun k hk => .inl (by simp [Value.ownBlock] at hk; omega))
    have C10 := C8.trans D10 (fun _ _ h => h)
    have RY10 := RY8.kept D10 (fun _ _ => id)
    have RX10 : Rd w10 (.slice ao4 (b.length + m.length) cap4) (b ++ m) := Own.rd (own4.cast (by simp) (bcells_append _ _).symm)
    have hbm : (b ++ m).length ≤ 2000000 := by simp; omega
    clear O9 D9 hz9 C9 RM9 own4 hgr4 hblk4 D10 RY8 C8 c3
    have c1 := K1.out _ C10
    have c3 := K3.out _ C10
    by_cases hm0 : m.length = 0
    · have hmn : m = [] := List.length_eq_zero_iff.1 hm0
      have hap : appR (b ++ m) mk = (t, 0) := by rw [hmn, List.append_nil]; exact HG.out
      have hq6 : ((m.length : Int) == 0) = true := by simp; omega
      clear hm0 hmn
      go_wp2_with fail
      have ha := apply_any _ _ (b ++ m) mk w10 (HE.out.kept C10 id) RX10 RY10 hbm (by omega)
      rw [hap] at ha
      (refine ha.mono ?_; rintro e w11 ⟨y11, rfl, O11, hb11, D11⟩)
      have C11 := C10.trans D11 (fun _ _ h => h)
      have RT11 : Rd w11 y11 t := Own.rd O11
      obtain ⟨za11, zc11, rfl, _⟩ := RT11.form
      clear ha hap RX10 RY10 hbm C10 O11 hb11 D11 c1 c3
      have c1 := K1.out _ C11
      have c3 := K3.out _ C11
      simp only
      go_wp2_with fail
      (refine (dnum_any 0 w11).mono ?_; rintro e w' ⟨rfl, rfl⟩)
      go_wp2_with fail
      (refine (eqM_any _ _ t w11 RT11 (RT.out.kept C11 (fun _ _ => id)) (by omega)).mono ?_; rintro e w12 ⟨rfl, D12⟩)
      go_wp2_with fail
      go_ret
      exact ⟨rfl, (HCW.out.trans C11 (fun _ _ h => h)).trans D12 (fun _ _ h => h)⟩
    · have hap : appR (b ++ m) mk = ([], 71) := HBS.out _ (by rw [List.length_append]; omega)
      have hq6 : ((m.length : Int) == 0) = false := beq_eq_false_iff_ne.2 (by omega)
      clear hm0
      go_wp2_with fail
      have ha := apply_any _ _ (b ++ m) mk w10 (HE.out.kept C10 id) RX10 RY10 hbm (by omega)
      rw [hap] at ha
      (refine ha.mono ?_; rintro e w11 ⟨y11, rfl, O11, hb11, D11⟩)
      have C11 := C10.trans D11 (fun _ _ h => h)
      have RT11 : Rd w11 y11 [] := Own.rd O11
      obtain ⟨za11, zc11, rfl, _⟩ := RT11.form
      clear ha hap RX10 RY10 hbm C10 O11 hb11 D11 c1 c3
      have c3 := K3.out _ C11
      simp only
      go_wp2_with fail
      (refine (dnum_any 71 w11).mono ?_; rintro e w' ⟨rfl, rfl⟩)
      go_wp2_with fail
      go_ret
      exact ⟨rfl, HCW.out.trans C11 (fun _ _ h => h)⟩
  · by_cases hs1 : b.length ≤ 65536
    · have hq3 : decide (65536 < (b.length : Int)) = false := by simp; omega
      have hq4 : decide (65536 < (t.length : Int)) = true := by simp; omega
      clear hs hs1
      go_wp2_with fail
      (refine (lives_any w1 (HE.out.kept C1 id)).mono ?_; rintro e w2 ⟨rfl, D2⟩)
      go_wp2_with fail
      go_ret
      exact ⟨rfl, (HCW.out.trans C1 (fun _ _ h => h)).trans D2 (fun _ _ h => h)⟩
    · have hq3 : decide (65536 < (b.length : Int)) = true := by simp; omega
      clear hs hs1
      go_wp2_with fail
      (refine (lives_any w1 (HE.out.kept C1 id)).mono ?_; rintro e w2 ⟨rfl, D2⟩)
      go_wp2_with fail
      go_ret
      exact ⟨rfl, (HCW.out.trans C1 (fun _ _ h => h)).trans D2 (fun _ _ h => h)⟩
end Go.Proofs.YtlanabocdoacgaaDoor
