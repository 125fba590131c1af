import Derived.Test.YtnfmeaifbankjaaDoorEyeD
import Derived.Test.YtnfmeaifbankjaaDoorOps
set_option linter.unusedVariables false
namespace Go.Proofs.YtnfmeaifbankjaaDoor
open Go Go.RowKit Go.Sat

theorem RS.stuck_next {s : RS} (h : s.met ≠ 0) (n : Int) : s.next n = ([], s) := by unfold RS.next; rw [if_pos h]
theorem RS.stuck_fixed {s : RS} (h : s.met ≠ 0) (n : Nat) : s.fixed n = (0, s) := by unfold RS.fixed; rw [RS.stuck_next h]; rfl
theorem RS.stuck_raw {s : RS} (h : s.met ≠ 0) (n : Int) : s.raw n = ([], s) := by unfold RS.raw; rw [if_neg (fun h2 => h h2.1), RS.stuck_next h]
theorem RS.stuck_text {s : RS} (h : s.met ≠ 0) (most : Int) : s.text most = ([], s) := by
  unfold RS.text
  rw [RS.var_bad h]
  simp only
  rw [if_neg (fun h2 => h h2.1), RS.stuck_next h]
/-- A Reader that has met a fault answers nothing, and stays as it is. -/
def SilPost (w : World) (pb : Nat) (v : Value) (T : TypeId) (s : RS) (e : Ending) (w' : World) : Prop := e = .returned (.bool true) ∧ IsR w' pb v T met s ∧ Chg (fun k => k = pb) w w'

set_option maxRecDepth 100000 in
set_option maxHeartbeats 800000 in
theorem silent_any (pb : Nat) (v x : Value) (T : TypeId) (s : RS) (k0 wh m n : Int) (w : World) (hp : IsR w pb v T met s) (hs : s.met ≠ 0) (hm : -9223372036854775808 ≤ m ∧ m ≤ 9223372036854775807) (hn : 0 ≤ n ∧ n ≤ 18446744073709551615) :
    Calls Tryd.prog 21 #[.pointer (some ⟨pb, 0, none⟩), .agg #[.int .i64 k0, .int .i64 wh, .int .i64 m, .int .u64 n, x]] w (SilPost w pb v T s) := by
  obtain ⟨N, rfl⟩ := Int.eq_ofNat_of_zero_le hn.1
  have cbox := (Chg.refl (fun _ => False) w).alloc (.cells #[.int .i64 k0, .int .i64 wh, .int .i64 m, .int .u64 N, x] 39)
  have h0 := hp.calm cbox
  have H0 := Lib.hid h0
  have HF := Lib.hid (RS.stuck_fixed hs)
  have HV := Lib.hid (RS.var_bad hs)
  have HT := Lib.hid (RS.stuck_text hs)
  have HW := Lib.hid (RS.stuck_raw hs)
  clear hp h0 hs
  rcases (by omega : k0 = 1 ∨ k0 = 2 ∨ k0 = 3 ∨ k0 = 4 ∨ k0 = 5 ∨ (k0 < 1 ∨ 5 < k0)) with rfl | rfl | rfl | rfl | rfl | hk
  · go_enter Tryd.func21, Tryd.ntmps21
    go_wp2_with fail
    refine (rdu8_any pb v T s _ H0.out).mono ?_
    rw [HF.out]
    rintro e w1 ⟨rfl, R1, C1⟩
    go_wp2_with fail
    go_ret
    exact ⟨rfl, R1, (cbox.mono fun _ _ h => h.elim).trans C1 fun _ _ h => h⟩
  · go_enter Tryd.func21, Tryd.ntmps21
    go_wp2_with fail
    refine (rdu32_any pb v T s _ H0.out).mono ?_
    rw [HF.out]
    rintro e w1 ⟨rfl, R1, C1⟩
    go_wp2_with fail
    go_ret
    exact ⟨rfl, R1, (cbox.mono fun _ _ h => h.elim).trans C1 fun _ _ h => h⟩
  · go_enter Tryd.func21, Tryd.ntmps21
    go_wp2_with fail
    refine (rdu64_any pb v T s _ H0.out).mono ?_
    rw [HF.out]
    rintro e w1 ⟨rfl, R1, C1⟩
    go_wp2_with fail
    go_ret
    exact ⟨rfl, R1, (cbox.mono fun _ _ h => h.elim).trans C1 fun _ _ h => h⟩
  · go_enter Tryd.func21, Tryd.ntmps21
    go_wp2_with fail
    refine (rdvar_any pb v T s N _ H0.out (by omega)).mono ?_
    rw [HV.out]
    rintro e w1 ⟨rfl, R1, C1⟩
    go_wp2_with fail
    go_ret
    exact ⟨rfl, R1, (cbox.mono fun _ _ h => h.elim).trans C1 fun _ _ h => h⟩
  · go_enter Tryd.func21, Tryd.ntmps21
    go_wp2_with fail
    refine (rdbytes_any pb v T s m _ H0.out hm).mono ?_
    rw [HT.out]
    rintro e w1 ⟨y, rfl, Y1, hy1, R1, C1⟩
    obtain ⟨ya, yc, rfl, _⟩ := Y1.form
    go_wp2_with fail
    go_ret
    exact ⟨rfl, R1, (cbox.mono fun _ _ h => h.elim).trans C1 fun _ _ h => h⟩
  · have z1 : (k0 == 1) = false := by simp; omega
    have z2 : (k0 == 2) = false := by simp; omega
    have z3 : (k0 == 3) = false := by simp; omega
    have z4 : (k0 == 4) = false := by simp; omega
    have z5 : (k0 == 5) = false := by simp; omega
    go_enter Tryd.func21, Tryd.ntmps21
    go_wp2_with fail
    refine (rdraw_any pb v T s m _ H0.out).mono ?_
    rw [HW.out]
    rintro e w1 ⟨y, rfl, Y1, hy1, R1, C1⟩
    obtain ⟨ya, yc, rfl, _⟩ := Y1.form
    go_wp2_with fail
    go_ret
    exact ⟨rfl, R1, (cbox.mono fun _ _ h => h.elim).trans C1 fun _ _ h => h⟩

/-- The Reader's state behind k numbers of eight bytes. -/
def eights (b : List UInt8) (k : Nat) : RS := if k ≤ b.length / 8 then ⟨b, 8 * k, 0⟩ else ⟨b, 8 * (b.length / 8), 1⟩
theorem eights_next (b : List UInt8) (k : Nat) (h : k ≤ b.length / 8) : ((eights b k).fixed 8).2 = eights b (k + 1) := by
  unfold eights
  rw [if_pos h]
  unfold RS.fixed RS.next
  simp only
  rw [if_neg (by simp)]
  by_cases h1 : k + 1 ≤ b.length / 8
  · rw [if_pos h1, if_neg (by simp only [RS.left]; omega)]
    simp only [RS.mk.injEq, true_and, and_true]
    omega
  · rw [if_neg h1, if_pos (by simp only [RS.left]; omega)]
    simp only [RS.fall, RS.mk.injEq, true_and, and_true]
    omega

set_option maxRecDepth 100000 in
set_option maxHeartbeats 1600000 in
theorem codeStops_walk (i0 i1 vo : Value) (ls0 ls1 : List UInt8) (ops : List OpV) (W : World) (hr0 : Rd W i0 ls0) (hr1 : Rd W i1 ls1) (hlt0 : ∀ k, rdb i0 = some k → k < W.heap.size) (hb0 : ls0.length ≤ 2000000) (hops : RdOps W vo ops) (hT : Errnos W) :
    Calls Tryd.prog 4 #[.agg #[i0, i1, vo]] W fun e w' => e = .returned (.bool true) ∧ Chg (fun _ => False) W w' := by
  obtain ⟨ia0, ic0, rfl, _⟩ := hr0.form
  obtain ⟨ia1, ic1, rfl, _⟩ := hr1.form
  obtain ⟨oa, oc, rfl⟩ := hops.form
  have cbox := (Chg.refl (fun _ => False) W).alloc (.cells #[.slice ia0 ls0.length ic0, .slice ia1 ls1.length ic1, .slice oa ops.length oc] 26)
  have B0 := Blk.new W 26 #[.slice ia0 ls0.length ic0, .slice ia1 ls1.length ic1, .slice oa ops.length oc]
  have hpos : 0 < W.heap.size := World.block_lt_of_cell? W _ (hT 0 (by omega))
  go_enter Tryd.func4, Tryd.ntmps4
  go_wp2_with fail
  refine (read_any _ ls0 _ (hr0.kept cbox (fun _ _ => id)) (by omega)).mono ?_
  rintro e w1 ⟨pb, v, T, rfl, R1, hc1, hpb, hrv⟩
  have C1 : Chg (fun _ => False) W w1 := cbox.trans hc1 fun _ _ h => h
  have B1 := B0.kept hc1 id
  have hpbW : W.heap.size < pb := by simp at hpb; omega
  have hst0 : (RS.mk ls0 0 0) = eights ls0 0 := by unfold eights; rw [if_pos (Nat.zero_le _)]
  rw [hst0] at R1
  clear hst0 B0 cbox hc1
  go_wp2_with fail
  go_loopw [5] (fun i wr => ∃ k : Nat, k ≤ ls0.length / 8 + 1 ∧ i = .int .i64 k ∧ IsR wr pb v T met (eights ls0 k) ∧ Chg (fun z => z = pb) w1 wr) (fun i _ => ls0.length / 8 + 1 - (intOf i).toNat)
  case atStart => exact ⟨0, Nat.zero_le _, rfl, R1, Chg.refl _ _⟩
  case round =>
    obtain ⟨k, hk, rfl, R, C⟩ := hrel
    by_cases hlt : k < ls0.length / 8 + 1
    · have hd : decide ((k : Int) < (ls0.length : Int) / 8 + 1) = true := by simp; omega
      have hnx := eights_next ls0 k (by omega)
      have HN := Lib.hid hnx
      clear hnx
      go_wp2_with fail
      refine (rdu64_any pb v T _ _ R).mono ?_
      rw [HN.out]
      rintro e w2 ⟨rfl, R2, C2⟩
      go_wp2_with fail
      go_roundw
      case rel => exact ⟨k + 1, by omega, by go_num, R2, C.trans C2 fun _ _ h => h⟩
      case measure => simp [intOf]; omega
    · have hd : decide ((k : Int) < (ls0.length : Int) / 8 + 1) = false := by simp; omega
      have hst : eights ls0 k = ⟨ls0, 8 * (ls0.length / 8), 1⟩ := by unfold eights; rw [if_neg (by omega)]
      rw [hst] at R
      have hP : ((8 * (ls0.length / 8) : Nat) : Int) = (ls0.length : Int) / 8 * 8 := by omega
      have hleft : (((RS.mk ls0 (8 * (ls0.length / 8)) 1).left : Nat) : Int) = (ls0.length : Int) % 8 := by simp only [RS.left]; omega
      have hend : endO (RS.mk ls0 (8 * (ls0.length / 8)) 1) = 10 := rfl
      generalize 8 * (ls0.length / 8) = P at *
      have HP := Lib.hid hP
      have HL := Lib.hid hleft
      have HE := Lib.hid hend
      have hTr : Errnos wr := hT.kept (C1.trans C fun q hq h => by omega) id
      have HT := Lib.hid hTr
      have HR := Lib.hid R
      have herr : errO (RS.mk ls0 P 1).met = 10 := rfl
      have cB : wr.cell? ⟨W.heap.size, 2, none⟩ = some (.slice oa ops.length oc) := (B1.kept C (by show ¬ W.heap.size = pb; omega)).cell 2
      have HER := Lib.hid herr
      clear hst hP hleft hend hTr R herr
      go_wp2_with fail
      refine (rfault_any pb v T _ _ HR.out HT.out).mono ?_
      rw [HER.out]
      rintro e w2 ⟨rfl, rfl⟩
      go_wp2_with fail
      refine (num_any _ _).mono ?_
      rintro e w2 ⟨rfl, rfl⟩
      go_wp2_with fail
      refine (rat_any pb v T met _ _ HR.out).mono ?_
      rw [HP.out]
      rintro e w2 ⟨rfl, rfl⟩
      go_wp2_with fail
      go_loopw [6] (fun i wr2 => ∃ j : Nat, j ≤ ops.length ∧ j ≤ 400 ∧ i = .int .i64 j ∧ IsR wr2 pb v T met ⟨ls0, P, 1⟩ ∧ Chg (fun z => z = pb) w1 wr2) (fun i _ => 400 - (intOf i).toNat)
      case atStart => exact ⟨0, Nat.zero_le _, Nat.zero_le _, rfl, HR.out, C⟩
      case round =>
        clear HR HT cB C
        obtain ⟨j, hj1, hj2, rfl, R, C⟩ := hrel
        have CW : Chg (fun _ => False) W wr := C1.trans C fun q hq h => by omega
        have cB : wr.cell? ⟨W.heap.size, 2, none⟩ = some (.slice oa ops.length oc) := (B1.kept C (by show ¬ W.heap.size = pb; omega)).cell 2
        by_cases hlt2 : j < ops.length ∧ j < 400
        · obtain ⟨hl1, hl2⟩ := hlt2
          rcases hops.2 with ⟨h, _⟩ | ⟨b, off, c, hpv, hb, hcell⟩
          · rw [h] at hl1; simp at hl1
          injection hpv with e1 e2 e3
          subst e1 e3
          have ho := hops.1 ops[j] (List.getElem_mem _)
          have hcell := hcell j hl1
          generalize ops[j] = o at *
          obtain ⟨ok, owh, om, on, ox, ob⟩ := o
          obtain ⟨xa, xc, hx, _⟩ := ho.rd.form
          simp only at hx
          subst hx
          have cc : ∀ i u, (OpV.cells ⟨ok, owh, om, on, .slice xa ob.length xc, ob⟩)[i]? = some u → wr.cell? ⟨b, off + j * 5 + i, none⟩ = some u := fun i u hu => by
            rw [CW.cell (p := ⟨b, off + j * 5 + i, none⟩) hb id]; exact hcell i u hu
          have e0 : wr.cell? ⟨b, off + j * 5, none⟩ = some (.int .i64 ok) := cc 0 _ rfl
          have e1 : wr.cell? ⟨b, off + j * 5 + 1, none⟩ = some (.int .i64 owh) := cc 1 _ rfl
          have e2 : wr.cell? ⟨b, off + j * 5 + 2, none⟩ = some (.int .i64 om) := cc 2 _ rfl
          have e3 : wr.cell? ⟨b, off + j * 5 + 3, none⟩ = some (.int .u64 on) := cc 3 _ rfl
          have e4 : wr.cell? ⟨b, off + j * 5 + 4, none⟩ = some (.slice xa ob.length xc) := cc 4 _ rfl
          have hom := ho.m
          have hon := ho.n
          have HR := Lib.hid R
          have HC := Lib.hid C
          have HCW := Lib.hid CW
          clear cc hcell ho R C CW
          go_wp2_with fail
          refine (silent_any pb v (.slice xa ob.length xc) T ⟨ls0, P, 1⟩ ok owh om on _ HR.out (by simp) hom hon).mono ?_
          rintro e w2 ⟨rfl, R2, C2⟩
          have HT2 : Errnos w2 := hT.kept (HCW.out.trans C2 fun q hq h => by omega) id
          go_wp2_with fail
          refine (rfault_any pb v T _ _ R2 HT2).mono ?_
          rw [HER.out]
          rintro e w3 ⟨rfl, rfl⟩
          go_wp2_with fail
          refine (num_any _ _).mono ?_
          rintro e w3 ⟨rfl, rfl⟩
          go_wp2_with fail
          refine (rend_any pb v T _ _ R2 HT2).mono ?_
          rw [HE.out]
          rintro e w3 ⟨rfl, hd3⟩
          have R3 := R2.calm (hd3.chg _)
          go_wp2_with fail
          refine (num_any _ _).mono ?_
          rintro e w3' ⟨rfl, rfl⟩
          go_wp2_with fail
          refine (rat_any pb v T met _ _ R3).mono ?_
          rw [HP.out]
          rintro e w3' ⟨rfl, rfl⟩
          go_wp2_with fail
          refine (rleft_any pb v T met _ _ R3).mono ?_
          rw [HL.out]
          rintro e w4 ⟨rfl, hd4⟩
          go_wp2_with fail
          go_roundw
          case rel => exact ⟨j + 1, by omega, by omega, by go_num, R3.calm (hd4.chg _), ((HC.out.trans C2 fun _ _ h => h).trans (hd3.chg (fun _ => False)) fun _ _ h => h.elim).trans (hd4.chg (fun _ => False)) fun _ _ h => h.elim⟩
          case measure => simp [intOf]; omega
        · rcases (by omega : ¬ j < ops.length ∨ (j < ops.length ∧ ¬ j < 400)) with h1 | ⟨h1, h2⟩
          all_goals
            go_wp2_with fail
            go_ret
            exact ⟨rfl, CW⟩
end Go.Proofs.YtnfmeaifbankjaaDoor
