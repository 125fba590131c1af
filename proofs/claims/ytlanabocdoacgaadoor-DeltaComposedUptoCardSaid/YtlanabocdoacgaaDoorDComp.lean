import Derived.Test.YtlanabocdoacgaaDoorDSteps
set_option linter.unusedVariables false
namespace Go.Proofs.YtlanabocdoacgaaDoor
open Go Go.RowKit Go.Sat
theorem infoStep : (Tryd.prog.info? 51).map (·.size) = some 3 := by kernel_rfl
theorem flatP_len2 (base : List UInt8) (ps : List Pc) (h : ∀ p ∈ ps, p.Good base.length) : (flatP base ps).length = lenL ps := Go.Sat.flatP_len base ps h
set_option maxRecDepth 100000 in
set_option maxHeartbeats 6400000 in
theorem dcomp_walk (vb vs : Value) (b : List UInt8) (ps : List StepV) (W : World) (hE : Errnos W) (hb : Rd W vb b) (hs : RdSteps W vs ps) (hl : b.length + bulkSteps ps ≤ 1048576) :
    Calls Tryd.prog 5 #[.agg #[vb, vs]] W fun e w' => e = .returned (.bool true) ∧ Chg (fun _ => False) W w' := by
  obtain ⟨ba, bc, rfl, _⟩ := hb.form
  obtain ⟨sa, sc, rfl⟩ := hs.form
  have hlen := bulkS_len ps
  have CW : Chg (fun _ => False) W (W.alloc (.cells #[.slice ba b.length bc, .slice sa ps.length sc] 47)) := (Chg.refl _ W).alloc _
  have BX : Blk (W.alloc (.cells #[.slice ba b.length bc, .slice sa ps.length sc] 47)) W.heap.size 47 #[.slice ba b.length bc, .slice sa ps.length sc] := Blk.new W _ _
  have HE := Lib.hid (hE.kept CW id)
  have RB := Lib.hid (hb.kept CW (fun _ _ => id))
  have HCW := Lib.hid CW
  have hstep : ∀ i (h : i < ps.length), ∃ g off c, (Value.slice sa ps.length sc) = .slice (some ⟨g, off, none⟩) ps.length c ∧ g < W.heap.size ∧ ps[i].Ok W ∧ ∀ j u, ps[i].cells[j]? = some u → W.cell? ⟨g, off + i * 3 + j, none⟩ = some u := fun i h => by
    rcases hs.2 with ⟨h0, _⟩ | ⟨g, off, c, h1, h2, h3⟩
    · rw [h0] at h; simp at h
    · exact ⟨g, off, c, h1, h2, hs.1 _ (List.getElem_mem h), h3 i h⟩
  have HST := Lib.hid hstep
  obtain ⟨bb, hbb⟩ : ∃ bb, bb = W.heap.size := ⟨_, rfl⟩
  rw [← hbb] at BX
  clear hE hb hs CW hstep
  go_enter Tryd.func5, Tryd.ntmps5
  go_wp2_with ((with_reducible show wpList _ _ _ (⟨some 16, _, _, _, _, _⟩ :: _) _ _); refine Shut.out ?_)
  show wpList _ _ _ _ _ _
  rw [← hbb]
  clear hbb
  generalize W.alloc (.cells #[.slice ba b.length bc, .slice sa ps.length sc] 47) = w0 at *
  have k0 : ∀ w, Chg (fun _ => False) w0 w → w.cell? ⟨bb, 0, none⟩ = some (.slice ba b.length bc) := fun w c => by rw [(BX.kept c id).cell]; rfl
  have k1 : ∀ w, Chg (fun _ => False) w0 w → w.cell? ⟨bb, 1, none⟩ = some (.slice sa ps.length sc) := fun w c => by rw [(BX.kept c id).cell]; rfl
  have K0 := Lib.hid k0
  have K1 := Lib.hid k1
  clear k0 k1 BX
  go_wp2_with fail
  (refine (lives_any w0 HE.out).mono ?_; rintro e w1 ⟨rfl, C1⟩)
  have c0 := K0.out _ C1
  by_cases hs : b.length ≤ 65536
  · have hq3 : decide (65536 < (b.length : Int)) = false := by simp; omega
    go_wp2_with fail
    clear hq3 c0
    (refine (new_any w1).mono ?_; rintro e w2 ⟨T, rfl, I2, D2, hz2⟩)
    have I0 : CompI w0 w2 b w1.heap.size T (.slice none 0 0) (.slice none 0 0) [] :=
      ⟨fun p hp => (by cases hp), by simp [lenL], I2, World.ownsRow_nil _ _ _ _, C1.size, fun k hk => by simp [Value.ownBlock] at hk, fun k hk => by simp [Value.ownBlock] at hk, C1.trans D2 (fun _ _ h => h)⟩
    generalize w1.heap.size = pb at *
    clear C1 I2 D2 hz2
    go_wp2_with fail
    go_loopw [3, 5] (fun s3 s5 wr => ∃ (i : Nat) (v : Value) (pcs : List Pc) (wa : Option Addr) (wc : Nat), i ≤ ps.length ∧ s5 = .int .i64 (i : Int) ∧ s3 = .slice wa (lenL pcs) wc ∧ CompI w0 wr b pb T (.slice wa (lenL pcs) wc) v pcs) (fun s3 s5 _ => ps.length - (intOf s5).toNat)
    case atStart => exact ⟨0, _, [], none, 0, by omega, rfl, rfl, I0⟩
    case round =>
      clear I0
      obtain ⟨i, v, pcs, wa, wc, hi, rfl, rfl, I⟩ := hrel
      have C := I.chg
      have c0 := K0.out _ C
      have c1 := K1.out _ C
      have HI := Lib.hid I
      clear I
      by_cases hlt : i < ps.length
      · have hq1 : decide (i < ps.length) = true := by simp; omega
        by_cases h60 : i < 60
        · have hq2 : decide ((i : Int) < 60) = true := by simp; omega
          obtain ⟨gv, off, c, e1, hgv, hok, hcell⟩ := HST.out i hlt
          cases e1
          have hbm := bulkS_mem (List.getElem_mem hlt)
          generalize ps[i] = p at *
          obtain ⟨vn, at_, nn, nb⟩ := p
          obtain ⟨hrn, hat, hnn⟩ := hok
          simp only at hrn hat hnn hbm
          obtain ⟨na, nc, rfl, _⟩ := hrn.form
          have hs0 := HCW.out.size
          have CWr := HCW.out.trans C (fun _ _ h => h)
          have d0 : wr.cell? ⟨gv, off + i * 3, none⟩ = some (.slice na nb.length nc) := by rw [CWr.cell (p := ⟨gv, off + i * 3, none⟩) hgv id]; exact hcell 0 _ rfl
          have d1 : wr.cell? ⟨gv, off + i * 3 + 1, none⟩ = some (.int .i64 at_) := by rw [CWr.cell (p := ⟨gv, off + i * 3 + 1, none⟩) hgv id]; exact hcell 1 _ rfl
          have d2 : wr.cell? ⟨gv, off + i * 3 + 2, none⟩ = some (.int .i64 nn) := by rw [CWr.cell (p := ⟨gv, off + i * 3 + 2, none⟩) hgv id]; exact hcell 2 _ rfl
          have RN := Lib.hid (hrn.kept HCW.out (fun _ _ => id))
          clear hcell hrn
          have hz := Tryd.zeroValue51
          go_wp2_with (first
            | ((with_reducible show wpList _ _ _ (⟨some 6, _, _, _, _, _⟩ :: _) _ _); refine wpl_alloc_row rfl 51 rfl Tryd.zeroValue51 ?_; intro w3 B3 D3 hz3)
            | ((with_reducible show wpList _ _ _ (⟨none, .store _ (.tmp 6) (.tmp 41), _, _, _, _⟩ :: _) _ _); refine wpl_store_row rfl 51 (.tmp 6) (.tmp 41) rfl rfl rfl B3 (infoStep.trans rfl) rfl (by simp [Value.oneCell']) ?_; intro w4 B4 D4; refine Shut.out ?_)
            | fail)
          show wpList _ _ _ _ _ _
          have E4 : Chg (fun _ => False) wr w4 := D3.trans D4 (fun k hk h => by omega)
          have I4 := HI.out.kept E4
          have hpc : lenL pcs ≤ 65536 := I4.len
          have hnbl : nb.length ≤ 1048576 := by omega
          have HI4 := Lib.hid I4
          have C4 := I4.chg
          have hbs := Lib.hid B4.lt
          obtain ⟨sb, hsb⟩ : ∃ sb, sb = wr.heap.size := ⟨_, rfl⟩
          rw [← hsb] at B4 ⊢
          have hnlt : ∀ k, rdb (.slice na nb.length nc) = some k → k < w0.heap.size := fun k hk => Rd.lt RN.out hk
          have hblt : ∀ k, rdb (.slice ba b.length bc) = some k → k < w0.heap.size := fun k hk => Rd.lt RB.out hk
          have HNLT := Lib.hid hnlt
          have HBLT := Lib.hid hblt
          clear hnlt hblt
          have j0 : ∀ w, Chg (fun _ => False) w4 w → w.cell? ⟨sb, 0, none⟩ = some (.slice na nb.length nc) := fun w c => by rw [(B4.kept c id).cell]; rfl
          have J0 := Lib.hid j0
          have f0 := j0 _ (Chg.refl _ _)
          have f1 : w4.cell? ⟨sb, 1, none⟩ = some (.int .i64 at_) := by rw [B4.cell]; rfl
          have f2 : w4.cell? ⟨sb, 2, none⟩ = some (.int .i64 nn) := by rw [B4.cell]; rfl
          clear HI I4 D3 D4 E4 hz3 B3 B4 j0 d0 d1 d2 CWr c0 c1 C hz hsb hbs
          have c0 := K0.out _ C4
          obtain ⟨A, hA, hAl⟩ : ∃ A : Nat, at_ % ((b.length : Int) + 1) = (A : Int) ∧ A ≤ b.length := ⟨(at_ % ((b.length : Int) + 1)).toNat, by have := Int.emod_nonneg at_ (show (b.length : Int) + 1 ≠ 0 by omega); omega, by have := Int.emod_nonneg at_ (show (b.length : Int) + 1 ≠ 0 by omega); have := Int.emod_lt_of_pos at_ (show (0 : Int) < (b.length : Int) + 1 by omega); omega⟩
          obtain ⟨N, hN, hNl⟩ : ∃ N : Nat, nn % ((b.length : Int) - (A : Int) + 1) = (N : Int) ∧ A + N ≤ b.length := ⟨(nn % ((b.length : Int) - (A : Int) + 1)).toNat, by have := Int.emod_nonneg nn (show (b.length : Int) - (A : Int) + 1 ≠ 0 by omega); omega, by have := Int.emod_nonneg nn (show (b.length : Int) - (A : Int) + 1 ≠ 0 by omega); have := Int.emod_lt_of_pos nn (show (0 : Int) < (b.length : Int) - (A : Int) + 1 by omega); omega⟩
          go_wp2_with fail
          have hin := dinto_any at_ ((b.length : Int) + 1) w4 (by omega) (by omega) hat
          rw [hA] at hin
          (refine hin.mono ?_; rintro e w' ⟨rfl, rfl⟩)
          clear hin
          go_wp2_with fail
          have hin := dinto_any nn ((b.length : Int) - (A : Int) + 1) w4 (by omega) (by omega) hnn
          rw [hN] at hin
          (refine hin.mono ?_; rintro e w' ⟨rfl, rfl⟩)
          clear hin hA hN f1 f2
          have RB4 := RB.out.kept C4 (fun _ _ => id)
          have HAN := Lib.hid hNl
          have hpl : ((b.drop A).take N).length = N := by rw [List.length_take, List.length_drop]; omega
          have HPL := Lib.hid hpl
          clear hpl
          by_cases hnb : 0 < nb.length
          · have hq4 : decide (0 < nb.length) = true := by simp; omega
            have hq5 : ((nb.length : Int) == 0) = false := beq_eq_false_iff_ne.2 (by omega)
            by_cases hbig : lenL pcs + nb.length ≤ 65536
            · have hq6 : decide (65536 < (lenL pcs : Int) + (nb.length : Int)) = false := by simp; omega
              have hn1 : 0 < nb.length := hnb
              have HN1 := Lib.hid hn1
              clear hnb hn1
              go_wp2_with (first
                | ((with_reducible show wpList _ _ _ (⟨some 64, _, _, _, _, _⟩ :: _) _ _); refine wpl_part rfl 24 (.tmp 59) (.tmp 60) (.tmp 63) rfl Tryd.underlying24 sizeU8 rfl RB4 A (A + N) rfl rfl rfl (by omega) (by omega) HAN.out ?_; intro yk hyk hyks; rw [show A + N - A = N from by omega] at hyk; obtain ⟨ka, kc, rfl, _⟩ := hyk.form)
                | fail)
              have hel := encL_len b.length hs pcs HI4.out.good hpc
              rw [show (2 : Int) * (nb.length : Int) = ((2 * nb.length : Nat) : Int) from by omega]
              (refine (var_any pb v T ((2 * nb.length : Nat) : Int) (encL pcs) w4 HI4.out.isw (by omega) (by omega) (by omega)).mono ?_; rintro e w5 ⟨rfl, v5, I5, D5, b5⟩)
              rw [Int.toNat_natCast] at I5
              have hvl := varB_len (2 * nb.length) (by omega)
              go_wp2_with fail
              have RN5 : Rd w5 (.slice na nb.length nc) nb := (RN.out.kept C4 (fun _ _ => id)).kept D5 (fun k hk h => by
                have h1 := HNLT.out k hk
                have h2 := HI4.out.hpb
                rcases h with h | h
                · omega
                · have := HI4.out.hv k h; omega)
              (refine (raw_any pb v5 _ T _ nb w5 I5 RN5 (by rw [List.length_append]; omega) (by omega)).mono ?_; rintro e w6 ⟨rfl, v6, I6, D6, b6⟩)
              obtain ⟨v8, I8, D8, b8⟩ := WStep.trans D5 b5 (show WStep w5 pb v5 T (encL pcs ++ varB (2 * nb.length)) nb w6 from ⟨v6, I6, D6, b6⟩)
              have RN6 : Rd w6 (.slice na nb.length nc) nb := (RN.out.kept C4 (fun _ _ => id)).kept D8 (fun k hk h => by
                have h1 := HNLT.out k hk
                have h2 := HI4.out.hpb
                rcases h with h | h
                · omega
                · have := HI4.out.hv k h; omega)
              have OW6 := HI4.out.own.kept D8 (fun k hk h => by
                rcases h with h | h
                · exact (HI4.out.hvw k hk).2.1 h
                · exact (HI4.out.hvw k hk).2.2 h)
              clear I5 D5 b5 I6 D6 b6 RN5 hvl hel
              go_wp2_with (first
                | ((with_reducible show wpList _ _ _ (⟨some 108, _, _, _, _, _⟩ :: _) _ _); refine wpl_append (o := ⟨some 108, _, _, _, _, _⟩) rfl (.tmp 106) (.tmp 107) 24 rfl tyBytes (OW6) (RN6) rfl rfl (by unfold maxLen; omega) (by omega) ?_; intro ao7 cap7 w7 O7 hgr7 hblk7; refine Shut.out ?_)
                | fail)
              show wpList _ _ _ _ _ _
              have I7 := HI4.out.more (.new nb) ⟨HN1.out, trivial⟩ hbig I8 D8 b8 O7 hgr7 hblk7
              have hlp : lenL (pcs ++ [Pc.new nb]) = lenL pcs + nb.length := by rw [lenL_append]; simp [lenL, Pc.len]
              have HI7 := Lib.hid I7
              have HLP := Lib.hid hlp
              clear I7 hlp I8 D8 b8 OW6 RN6 O7 hgr7 hblk7
              go_wp2_with fail
              go_roundw
              case rel => exact ⟨i + 1, v8, pcs ++ [Pc.new nb], ao7, cap7, by omega, by go_num, by rw [HLP.out], by rw [HLP.out]; exact HI7.out⟩
              case measure => simp [intOf]; omega
            · have hq6 : decide (65536 < (lenL pcs : Int) + (nb.length : Int)) = true := by simp; omega
              clear hnb hbig
              go_wp2_with (first
                | ((with_reducible show wpList _ _ _ (⟨some 64, _, _, _, _, _⟩ :: _) _ _); refine wpl_part rfl 24 (.tmp 59) (.tmp 60) (.tmp 63) rfl Tryd.underlying24 sizeU8 rfl RB4 A (A + N) rfl rfl rfl (by omega) (by omega) HAN.out ?_; intro yk hyk hyks; rw [show A + N - A = N from by omega] at hyk; obtain ⟨ka, kc, rfl, _⟩ := hyk.form)
                | fail)
              go_roundw
              case rel => exact ⟨i + 1, v, pcs, wa, wc, by omega, by go_num, rfl, HI4.out⟩
              case measure => simp [intOf]; omega
          · have hq4 : decide (0 < nb.length) = false := decide_eq_false hnb
            clear hnb
            generalize hpe : (b.drop A).take N = pc at *
            have HPE := Lib.hid hpe
            clear hpe
            by_cases hN0 : N = 0
            · have hq5 : ((N : Int) == 0) = true := by simp; omega
              clear hN0
              go_wp2_with (first
                | ((with_reducible show wpList _ _ _ (⟨some 64, _, _, _, _, _⟩ :: _) _ _); refine wpl_part rfl 24 (.tmp 59) (.tmp 60) (.tmp 63) rfl Tryd.underlying24 sizeU8 rfl RB4 A (A + N) rfl rfl rfl (by omega) (by omega) HAN.out ?_; intro yk hyk hyks; rw [show A + N - A = N from by omega, HPE.out] at hyk; obtain ⟨ka, kc, rfl, _⟩ := hyk.form; rw [HPL.out])
                | fail)
              go_roundw
              case rel => exact ⟨i + 1, v, pcs, wa, wc, by omega, by go_num, rfl, HI4.out⟩
              case measure => simp [intOf]; omega
            have hq5 : ((N : Int) == 0) = false := beq_eq_false_iff_ne.2 (by omega)
            by_cases hbig : lenL pcs + N ≤ 65536
            · have hq6 : decide (65536 < (lenL pcs : Int) + (N : Int)) = false := by simp; omega
              have hn1 : 0 < N := by omega
              have HN1 := Lib.hid hn1
              clear hN0 hn1
              go_wp2_with (first
                | ((with_reducible show wpList _ _ _ (⟨some 64, _, _, _, _, _⟩ :: _) _ _); refine wpl_part rfl 24 (.tmp 59) (.tmp 60) (.tmp 63) rfl Tryd.underlying24 sizeU8 rfl RB4 A (A + N) rfl rfl rfl (by omega) (by omega) HAN.out ?_; intro yk hyk hyks; rw [show A + N - A = N from by omega, HPE.out] at hyk; obtain ⟨ka, kc, rfl, _⟩ := hyk.form; rw [HPL.out])
                | fail)
              have hel := encL_len b.length hs pcs HI4.out.good hpc
              rw [show (2 : Int) * (N : Int) + 1 = ((2 * N + 1 : Nat) : Int) from by omega]
              (refine (var_any pb v T ((2 * N + 1 : Nat) : Int) (encL pcs) w4 HI4.out.isw (by omega) (by omega) (by omega)).mono ?_; rintro e w5 ⟨rfl, v5, I5, D5, b5⟩)
              rw [Int.toNat_natCast] at I5
              have hvl := varB_len (2 * N + 1) (by omega)
              go_wp2_with fail
              (refine (var_any pb v5 T (A : Int) _ w5 I5 (by omega) (by omega) (by rw [List.length_append]; omega)).mono ?_; rintro e w6 ⟨rfl, v6, I6, D6, b6⟩)
              rw [Int.toNat_natCast] at I6
              obtain ⟨v8, I8, D8, b8⟩ := WStep.trans D5 b5 (show WStep w5 pb v5 T (encL pcs ++ varB (2 * N + 1)) (varB A) w6 from ⟨v6, I6, D6, b6⟩)
              have hyk6 := hyk.kept D8 (fun k hk h => by
                have h1 := HBLT.out k (hyks k hk)
                have h2 := HI4.out.hpb
                rcases h with h | h
                · omega
                · have := HI4.out.hv k h; omega)
              have RN6 : Sl w6 1 (.slice ka N kc) N (bcells pc) := by
                have h : Sl w6 1 (.slice ka pc.length kc) pc.length (bcells pc) := hyk6
                rw [HPL.out] at h
                exact h
              have OW6 := HI4.out.own.kept D8 (fun k hk h => by
                rcases h with h | h
                · exact (HI4.out.hvw k hk).2.1 h
                · exact (HI4.out.hvw k hk).2.2 h)
              clear I5 D5 b5 I6 D6 b6 hvl hel hyk hyks hyk6
              go_wp2_with (first
                | ((with_reducible show wpList _ _ _ (⟨some 108, _, _, _, _, _⟩ :: _) _ _); refine wpl_append (o := ⟨some 108, _, _, _, _, _⟩) rfl (.tmp 106) (.tmp 107) 24 rfl tyBytes (OW6) (RN6) rfl rfl (by unfold maxLen; omega) (by omega) ?_; intro ao7 cap7 w7 O7 hgr7 hblk7; refine Shut.out ?_)
                | fail)
              show wpList _ _ _ _ _ _
              have I7 := HI4.out.more (.copy A N) ⟨HN1.out, HAN.out⟩ hbig I8 D8 b8 (show Own w7 5 1 _ _ (bcells (flatP b pcs) ++ bcells ((b.drop A).take N)) from by rw [HPE.out]; exact O7) hgr7 hblk7
              have hlp : lenL (pcs ++ [Pc.copy A N]) = lenL pcs + N := by rw [lenL_append]; simp [lenL, Pc.len]
              have HI7 := Lib.hid I7
              have HLP := Lib.hid hlp
              clear I7 hlp I8 D8 b8 OW6 RN6 O7 hgr7 hblk7
              go_wp2_with fail
              go_roundw
              case rel => exact ⟨i + 1, v8, pcs ++ [Pc.copy A N], ao7, cap7, by omega, by go_num, by rw [HLP.out], by rw [HLP.out]; exact HI7.out⟩
              case measure => simp [intOf]; omega
            · have hq6 : decide (65536 < (lenL pcs : Int) + (N : Int)) = true := by simp; omega
              clear hN0 hbig
              go_wp2_with (first
                | ((with_reducible show wpList _ _ _ (⟨some 64, _, _, _, _, _⟩ :: _) _ _); refine wpl_part rfl 24 (.tmp 59) (.tmp 60) (.tmp 63) rfl Tryd.underlying24 sizeU8 rfl RB4 A (A + N) rfl rfl rfl (by omega) (by omega) HAN.out ?_; intro yk hyk hyks; rw [show A + N - A = N from by omega, HPE.out] at hyk; obtain ⟨ka, kc, rfl, _⟩ := hyk.form; rw [HPL.out])
                | fail)
              go_roundw
              case rel => exact ⟨i + 1, v, pcs, wa, wc, by omega, by go_num, rfl, HI4.out⟩
              case measure => simp [intOf]; omega
        · have hq2 : decide ((i : Int) < 60) = false := by simp; omega
          clear h60 hlt hi
          go_wp2_with fail
          clear hq2 hq1
          have hsum := encL_len b.length hs pcs HI.out.good HI.out.len
          have hwl := flatP_len2 b pcs HI.out.good
          have hle := HI.out.len
          have hap : appR b (delB b.length pcs) = (flatP b pcs, 0) := appR_good b pcs HI.out.good hs HI.out.len
          have HAP := Lib.hid hap
          have hown : Own wr 5 1 (.slice wa (lenL pcs) wc) (flatP b pcs).length (bcells (flatP b pcs)) := by rw [hwl]; exact HI.out.own
          have RW := Lib.hid (Own.rd hown)
          have HIW := Lib.hid HI.out.isw
          have hdl : delB b.length pcs = varB b.length ++ varB (lenL pcs) ++ encL pcs := rfl
          have HDL := Lib.hid hdl
          generalize delB b.length pcs = db at *
          generalize encL pcs = el at *
          generalize flatP b pcs = wt at *
          generalize lenL pcs = n at *
          clear HI hap hown hdl
          subst hwl
          (refine (new_any wr).mono ?_; rintro e w2 ⟨T2, rfl, I2, D2, hz2⟩)
          have hpbl := lt_of_block HIW.out.blk
          have hvl : ∀ k, v.ownBlock = some k → k < wr.heap.size := fun k hk => HIW.out.own.lt k hk
          obtain ⟨p2, hp2⟩ : ∃ p2, p2 = wr.heap.size := ⟨_, rfl⟩
          have hb0 : ∀ k, (Value.slice none 0 0).ownBlock = some k → wr.heap.size ≤ k := fun k hk => by simp [Value.ownBlock] at hk
          rw [← hp2] at I2 ⊢
          have hpW : wr.heap.size ≤ p2 := by omega
          clear hp2
          have c0 := K0.out _ (C.trans D2 (fun _ _ h => h))
          clear hz2 c1
          go_wp2_with fail
          (refine (var_any p2 _ T2 (b.length : Int) [] w2 I2 (by omega) (by omega) (by simp)).mono ?_; rintro e w3 ⟨rfl, v3, I3, D3, b3⟩)
          rw [Int.toNat_natCast, List.nil_append] at I3
          have hv1 := varB_len b.length (by omega)
          have E3 : Chg (fun _ => False) wr w3 := D2.trans D3 (fun k hk h => by rcases h with h | h; omega; have := hb0 k h; omega)
          have hb3 : ∀ k, v3.ownBlock = some k → wr.heap.size ≤ k := fun k hk => by rcases b3 k hk with h | h; exact hb0 k h; have := D2.size; omega
          clear I2 D3 b3 hb0 c0
          go_wp2_with fail
          (refine (var_any p2 _ T2 (wt.length : Int) _ w3 I3 (by omega) (by omega) (by omega)).mono ?_; rintro e w4 ⟨rfl, v4, I4, D4, b4⟩)
          rw [Int.toNat_natCast] at I4
          have hv2 := varB_len wt.length (by omega)
          have E4 : Chg (fun _ => False) wr w4 := E3.trans D4 (fun k hk h => by rcases h with h | h; omega; have := hb3 k h; omega)
          have hb4 : ∀ k, v4.ownBlock = some k → wr.heap.size ≤ k := fun k hk => by rcases b4 k hk with h | h; exact hb3 k h; have := E3.size; omega
          clear I3 D4 b4 hb3
          go_wp2_with fail
          (refine (out_any pb v T el w4 (HIW.out.kept E4 id (fun _ _ => id)) (by omega)).mono ?_; rintro e w5 ⟨rfl, O5, D5, hz5⟩)
          have I5 := I4.kept D5 id (fun _ _ => id)
          have RO5 := Own.rd O5
          have h45 := E4.size
          have hp4 := lt_of_block I4.blk
          have hv4 : ∀ k, v4.ownBlock = some k → k < w4.heap.size := fun k hk => I4.own.lt k hk
          have E5 := E4.trans D5 (fun _ _ h => h)
          clear D5 hz5 O5
          go_wp2_with fail
          (refine (raw_any p2 v4 _ T2 _ el w5 I5 RO5 (by rw [List.length_append]; omega) (by omega)).mono ?_; rintro e w6 ⟨rfl, v6, I6, D6, b6⟩)
          have E6 : Chg (fun _ => False) wr w6 := E5.trans D6 (fun k hk h => by rcases h with h | h; omega; have := hb4 k h; omega)
          rw [← HDL.out] at I6
          have hdbl : db.length ≤ 2000000 := by rw [HDL.out]; simp only [List.length_append]; omega
          clear I4 I5 RO5 D6 b6 hb4 hv4 hp4
          have c0 := K0.out _ (C.trans E6 (fun _ _ h => h))
          go_wp2_with fail
          refine wp_region_pin (fun _ => false) [1] [4, 1] (Same (fun _ => False) w6) mixed (by kernel_rfl) (fun _ _ h e => h.ext e) (Same.refl _ _).drew ?_
          simp only [wpSegs, List.take_succ_cons, List.take_zero, List.drop_succ_cons, List.drop_zero]
          have D7 : Chg (fun _ => False) w6 w6.drew := (Chg.refl _ w6).drew
          go_wp2_with fail
          (refine (out_any p2 v6 T2 db w6.drew (I6.kept D7 id (fun _ _ => id)) (by omega)).mono ?_; rintro e w8 ⟨rfl, O8, D8, hz8⟩)
          have D68 := D7.trans D8 (fun _ _ h => h)
          have E8 := E6.trans D68 (fun _ _ h => h)
          have RO8 := Own.rd O8
          clear D7 D8 hz8 O8
          go_wp2_with fail
          refine SegQ.normal ⟨fun z o h hz => D68.keep h hz, ?_⟩
          have C8 := C.trans E8 (fun _ _ h => h)
          go_wp2_with fail
          have ha := apply_any _ _ b db w8 (HE.out.kept C8 id) (RB.out.kept C8 (fun _ _ => id)) RO8 (by omega) hdbl
          rw [HAP.out] at ha
          (refine ha.mono ?_; rintro e w9 ⟨y9, rfl, O9, hb9, D9⟩)
          have D69 := D68.trans D9 (fun _ _ h => h)
          have E9 := E8.trans D9 (fun _ _ h => h)
          have RT9 : Rd w9 y9 wt := Own.rd O9
          obtain ⟨ta, tc, rfl, _⟩ := RT9.form
          clear ha RO8 D9 O9 hb9 I6
          simp only
          go_wp2_with fail
          refine SegQ.normal ⟨fun z o h hz => D69.keep h hz, ?_⟩
          go_wp2_with fail
          refine TQ.normal (by kernel_rfl) ⟨⟨PinAt.cell rfl rfl rfl c0 id (fun X h => by go_simp), trivial⟩, ?_⟩
          clear c0 D68 D69 E8 C8
          have C9 := C.trans E9 (fun _ _ h => h)
          go_wp2_with fail
          (refine (dnum_any 0 w9).mono ?_; rintro e w' ⟨rfl, rfl⟩)
          go_wp2_with fail
          (refine (eqM_any _ _ wt w9 RT9 (RW.out.kept E9 (fun _ _ => id)) (by omega)).mono ?_; rintro e w10 ⟨rfl, D10⟩)
          have E10 := E9.trans D10 (fun _ _ h => h)
          have C10 := C.trans E10 (fun _ _ h => h)
          have c0 := K0.out _ C10
          clear RT9 C9 D10 E9
          go_wp2_with fail
          (refine (makeS_any _ _ b wt w10 (RB.out.kept C10 (fun _ _ => id)) (RW.out.kept E10 (fun _ _ => id)) hs (by omega)).mono ?_; rintro e w11 ⟨y11, rfl, O11, hb11, D11⟩)
          have E11 := E10.trans D11 (fun _ _ h => h)
          have C11 := C.trans E11 (fun _ _ h => h)
          have RY11 : Rd w11 y11 (makeR b wt) := Own.rd O11
          obtain ⟨ya, yc, rfl, _⟩ := RY11.form
          clear c0 C10 E10 D11 O11 hb11
          have c0 := K0.out _ C11
          simp only
          go_wp2_with fail
          (refine (applyS_any _ _ b wt w11 (HE.out.kept C11 id) (RB.out.kept C11 (fun _ _ => id)) RY11 hs (by omega)).mono ?_; rintro e w12 ⟨y12, rfl, O12, hb12, D12⟩)
          have E12 := E11.trans D12 (fun _ _ h => h)
          have C12 := C.trans E12 (fun _ _ h => h)
          have RT12 : Rd w12 y12 wt := Own.rd O12
          obtain ⟨za, zc, rfl, _⟩ := RT12.form
          clear c0 C11 E11 D12 O12 hb12 RY11
          generalize makeR b wt = mk at *
          simp only
          go_wp2_with fail
          (refine (dnum_any 0 w12).mono ?_; rintro e w' ⟨rfl, rfl⟩)
          go_wp2_with fail
          (refine (dnum_any 0 w12).mono ?_; rintro e w' ⟨rfl, rfl⟩)
          go_wp2_with fail
          (refine (eqM_any _ _ wt w12 RT12 (RW.out.kept E12 (fun _ _ => id)) (by omega)).mono ?_; rintro e w13 ⟨rfl, D13⟩)
          go_wp2_with fail
          go_ret
          exact ⟨rfl, (HCW.out.trans C12 (fun _ _ h => h)).trans D13 (fun _ _ h => h)⟩
      · have hq1 : decide (i < ps.length) = false := by simp; omega
        clear hlt hi
        go_wp2_with fail
        clear hq1
        have hsum := encL_len b.length hs pcs HI.out.good HI.out.len
        have hwl := flatP_len2 b pcs HI.out.good
        have hle := HI.out.len
        have hap : appR b (delB b.length pcs) = (flatP b pcs, 0) := appR_good b pcs HI.out.good hs HI.out.len
        have HAP := Lib.hid hap
        have hown : Own wr 5 1 (.slice wa (lenL pcs) wc) (flatP b pcs).length (bcells (flatP b pcs)) := by rw [hwl]; exact HI.out.own
        have RW := Lib.hid (Own.rd hown)
        have HIW := Lib.hid HI.out.isw
        have hdl : delB b.length pcs = varB b.length ++ varB (lenL pcs) ++ encL pcs := rfl
        have HDL := Lib.hid hdl
        generalize delB b.length pcs = db at *
        generalize encL pcs = el at *
        generalize flatP b pcs = wt at *
        generalize lenL pcs = n at *
        clear HI hap hown hdl
        subst hwl
        (refine (new_any wr).mono ?_; rintro e w2 ⟨T2, rfl, I2, D2, hz2⟩)
        have hpbl := lt_of_block HIW.out.blk
        have hvl : ∀ k, v.ownBlock = some k → k < wr.heap.size := fun k hk => HIW.out.own.lt k hk
        obtain ⟨p2, hp2⟩ : ∃ p2, p2 = wr.heap.size := ⟨_, rfl⟩
        have hb0 : ∀ k, (Value.slice none 0 0).ownBlock = some k → wr.heap.size ≤ k := fun k hk => by simp [Value.ownBlock] at hk
        rw [← hp2] at I2 ⊢
        have hpW : wr.heap.size ≤ p2 := by omega
        clear hp2
        have c0 := K0.out _ (C.trans D2 (fun _ _ h => h))
        clear hz2 c1
        go_wp2_with fail
        (refine (var_any p2 _ T2 (b.length : Int) [] w2 I2 (by omega) (by omega) (by simp)).mono ?_; rintro e w3 ⟨rfl, v3, I3, D3, b3⟩)
        rw [Int.toNat_natCast, List.nil_append] at I3
        have hv1 := varB_len b.length (by omega)
        have E3 : Chg (fun _ => False) wr w3 := D2.trans D3 (fun k hk h => by rcases h with h | h; omega; have := hb0 k h; omega)
        have hb3 : ∀ k, v3.ownBlock = some k → wr.heap.size ≤ k := fun k hk => by rcases b3 k hk with h | h; exact hb0 k h; have := D2.size; omega
        clear I2 D3 b3 hb0 c0
        go_wp2_with fail
        (refine (var_any p2 _ T2 (wt.length : Int) _ w3 I3 (by omega) (by omega) (by omega)).mono ?_; rintro e w4 ⟨rfl, v4, I4, D4, b4⟩)
        rw [Int.toNat_natCast] at I4
        have hv2 := varB_len wt.length (by omega)
        have E4 : Chg (fun _ => False) wr w4 := E3.trans D4 (fun k hk h => by rcases h with h | h; omega; have := hb3 k h; omega)
        have hb4 : ∀ k, v4.ownBlock = some k → wr.heap.size ≤ k := fun k hk => by rcases b4 k hk with h | h; exact hb3 k h; have := E3.size; omega
        clear I3 D4 b4 hb3
        go_wp2_with fail
        (refine (out_any pb v T el w4 (HIW.out.kept E4 id (fun _ _ => id)) (by omega)).mono ?_; rintro e w5 ⟨rfl, O5, D5, hz5⟩)
        have I5 := I4.kept D5 id (fun _ _ => id)
        have RO5 := Own.rd O5
        have h45 := E4.size
        have hp4 := lt_of_block I4.blk
        have hv4 : ∀ k, v4.ownBlock = some k → k < w4.heap.size := fun k hk => I4.own.lt k hk
        have E5 := E4.trans D5 (fun _ _ h => h)
        clear D5 hz5 O5
        go_wp2_with fail
        (refine (raw_any p2 v4 _ T2 _ el w5 I5 RO5 (by rw [List.length_append]; omega) (by omega)).mono ?_; rintro e w6 ⟨rfl, v6, I6, D6, b6⟩)
        have E6 : Chg (fun _ => False) wr w6 := E5.trans D6 (fun k hk h => by rcases h with h | h; omega; have := hb4 k h; omega)
        rw [← HDL.out] at I6
        have hdbl : db.length ≤ 2000000 := by rw [HDL.out]; simp only [List.length_append]; omega
        clear I4 I5 RO5 D6 b6 hb4 hv4 hp4
        have c0 := K0.out _ (C.trans E6 (fun _ _ h => h))
        go_wp2_with fail
        refine wp_region_pin (fun _ => false) [1] [4, 1] (Same (fun _ => False) w6) mixed (by kernel_rfl) (fun _ _ h e => h.ext e) (Same.refl _ _).drew ?_
        simp only [wpSegs, List.take_succ_cons, List.take_zero, List.drop_succ_cons, List.drop_zero]
        have D7 : Chg (fun _ => False) w6 w6.drew := (Chg.refl _ w6).drew
        go_wp2_with fail
        (refine (out_any p2 v6 T2 db w6.drew (I6.kept D7 id (fun _ _ => id)) (by omega)).mono ?_; rintro e w8 ⟨rfl, O8, D8, hz8⟩)
        have D68 := D7.trans D8 (fun _ _ h => h)
        have E8 := E6.trans D68 (fun _ _ h => h)
        have RO8 := Own.rd O8
        clear D7 D8 hz8 O8
        go_wp2_with fail
        refine SegQ.normal ⟨fun z o h hz => D68.keep h hz, ?_⟩
        have C8 := C.trans E8 (fun _ _ h => h)
        go_wp2_with fail
        have ha := apply_any _ _ b db w8 (HE.out.kept C8 id) (RB.out.kept C8 (fun _ _ => id)) RO8 (by omega) hdbl
        rw [HAP.out] at ha
        (refine ha.mono ?_; rintro e w9 ⟨y9, rfl, O9, hb9, D9⟩)
        have D69 := D68.trans D9 (fun _ _ h => h)
        have E9 := E8.trans D9 (fun _ _ h => h)
        have RT9 : Rd w9 y9 wt := Own.rd O9
        obtain ⟨ta, tc, rfl, _⟩ := RT9.form
        clear ha RO8 D9 O9 hb9 I6
        simp only
        go_wp2_with fail
        refine SegQ.normal ⟨fun z o h hz => D69.keep h hz, ?_⟩
        go_wp2_with fail
        refine TQ.normal (by kernel_rfl) ⟨⟨PinAt.cell rfl rfl rfl c0 id (fun X h => by go_simp), trivial⟩, ?_⟩
        clear c0 D68 D69 E8 C8
        have C9 := C.trans E9 (fun _ _ h => h)
        go_wp2_with fail
        (refine (dnum_any 0 w9).mono ?_; rintro e w' ⟨rfl, rfl⟩)
        go_wp2_with fail
        (refine (eqM_any _ _ wt w9 RT9 (RW.out.kept E9 (fun _ _ => id)) (by omega)).mono ?_; rintro e w10 ⟨rfl, D10⟩)
        have E10 := E9.trans D10 (fun _ _ h => h)
        have C10 := C.trans E10 (fun _ _ h => h)
        have c0 := K0.out _ C10
        clear RT9 C9 D10 E9
        go_wp2_with fail
        (refine (makeS_any _ _ b wt w10 (RB.out.kept C10 (fun _ _ => id)) (RW.out.kept E10 (fun _ _ => id)) hs (by omega)).mono ?_; rintro e w11 ⟨y11, rfl, O11, hb11, D11⟩)
        have E11 := E10.trans D11 (fun _ _ h => h)
        have C11 := C.trans E11 (fun _ _ h => h)
        have RY11 : Rd w11 y11 (makeR b wt) := Own.rd O11
        obtain ⟨ya, yc, rfl, _⟩ := RY11.form
        clear c0 C10 E10 D11 O11 hb11
        have c0 := K0.out _ C11
        simp only
        go_wp2_with fail
        (refine (applyS_any _ _ b wt w11 (HE.out.kept C11 id) (RB.out.kept C11 (fun _ _ => id)) RY11 hs (by omega)).mono ?_; rintro e w12 ⟨y12, rfl, O12, hb12, D12⟩)
        have E12 := E11.trans D12 (fun _ _ h => h)
        have C12 := C.trans E12 (fun _ _ h => h)
        have RT12 : Rd w12 y12 wt := Own.rd O12
        obtain ⟨za, zc, rfl, _⟩ := RT12.form
        clear c0 C11 E11 D12 O12 hb12 RY11
        generalize makeR b wt = mk at *
        simp only
        go_wp2_with fail
        (refine (dnum_any 0 w12).mono ?_; rintro e w' ⟨rfl, rfl⟩)
        go_wp2_with fail
        (refine (dnum_any 0 w12).mono ?_; rintro e w' ⟨rfl, rfl⟩)
        go_wp2_with fail
        (refine (eqM_any _ _ wt w12 RT12 (RW.out.kept E12 (fun _ _ => id)) (by omega)).mono ?_; rintro e w13 ⟨rfl, D13⟩)
        go_wp2_with fail
        go_ret
        exact ⟨rfl, (HCW.out.trans C12 (fun _ _ h => h)).trans D13 (fun _ _ h => h)⟩
  · have hq3 : decide (65536 < (b.length : Int)) = true := by simp; omega
    clear hs
    go_wp2_with fail
    (refine (lives_any w1 (HE.out.kept C1 id)).mono ?_; rintro e w2 ⟨rfl, D2⟩)
    go_wp2_with fail
    go_ret
    exact ⟨rfl, (HCW.out.trans C1 (fun _ _ h => h)).trans D2 (fun _ _ h => h)⟩
end Go.Proofs.YtlanabocdoacgaaDoor
