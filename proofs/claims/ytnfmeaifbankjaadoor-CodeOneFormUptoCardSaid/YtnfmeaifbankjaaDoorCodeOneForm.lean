import Derived.Test.YtnfmeaifbankjaaDoorForm
import Derived.Test.YtnfmeaifbankjaaDoorPlaceRead
set_option linter.unusedVariables false
namespace Go.Proofs.YtnfmeaifbankjaaDoor
open Go Go.RowKit Go.Sat
theorem endO_left (s : RS) (h : s.met = 0) : ((endO s == 0) == ((s.left : Int) == 0)) = true := by
  unfold endO
  by_cases hl : 0 < s.left
  · rw [if_pos ⟨h, hl⟩]
    have : ((s.left : Int) == 0) = false := by rw [beq_eq_false_iff_ne]; omega
    rw [this]; rfl
  · rw [if_neg (fun h => hl h.2), h]
    have : ((s.left : Int) == 0) = true := by rw [beq_iff_eq]; omega
    rw [this]; rfl

set_option maxRecDepth 100000 in
set_option maxHeartbeats 3200000 in
theorem codeOneForm_walk (i0 i1 vo : Value) (ls0 ls1 : List UInt8) (ops : List OpV) (W : World) (hr0 : Rd W i0 ls0) (hr1 : Rd W i1 ls1) (hb0 : ls0.length ≤ 2000000) (hops : RdOps W vo ops) (hT : Errnos W) :
    Calls Tryd.prog 7 #[.agg #[i0, i1, vo]] W fun e w' => e = .returned (.bool true) ∧ Chg (fun _ => False) W w' := by
  obtain ⟨ia0, ic0, rfl, _⟩ := hr0.form
  obtain ⟨ia1, ic1, rfl, _⟩ := hr1.form
  obtain ⟨oa, oc, rfl⟩ := hops.form
  have cbox := (Chg.refl (fun _ => False) W).alloc (.cells #[.slice ia0 ls0.length ic0, .slice ia1 ls1.length ic1, .slice oa ops.length oc] 26)
  have B0 := Blk.new W 26 #[.slice ia0 ls0.length ic0, .slice ia1 ls1.length ic1, .slice oa ops.length oc]
  have hpos : 0 < W.heap.size := World.block_lt_of_cell? W _ (hT 0 (by omega))
  have hrd : ∀ {w : World}, Chg (fun _ => False) W w → Rd w (.slice ia0 ls0.length ic0) ls0 := fun h => hr0.kept h fun _ _ => id
  go_enter Tryd.func7, Tryd.ntmps7
  go_wp2_with fail
  refine (read_any _ ls0 _ (hrd cbox) (by omega)).mono ?_
  rintro e w1 ⟨pr, vr, Tr, rfl, R1, hc1, hpr, hrr⟩
  have C1 := cbox.trans hc1 fun _ _ h => h
  have B1 := B0.kept hc1 id
  have hprW : W.heap.size < pr := by simp at hpr; omega
  have hprl := R1.blk.lt
  have hrd1 : ∀ k, rdb vr = some k → k < w1.heap.size := fun k hk => Rd.lt R1.rd hk
  have hsb := B1.lt
  clear B0 cbox hc1 hpr hrr
  go_wp2_with fail
  refine (new_any _).mono ?_
  rintro e w2 ⟨T, rfl, I2, hc2, hs2⟩
  have C2 := C1.trans hc2 fun _ _ h => h
  have B2 := B1.kept hc2 id
  have Q2 : RW w2 pr vr Tr ⟨ls0, 0, 0⟩ w1.heap.size (.slice none 0 0) T (ls0.take 0) :=
    ⟨R1.calm hc2, by simpa using I2, by omega, fun k hk => ⟨by have := hrd1 k hk; omega, by simp [Value.ownBlock]⟩, by simp [Value.ownBlock]⟩
  clear R1 C1 B1 hrd1 I2 hc2 hs2 hprl
  generalize w1.heap.size = pw at *
  have hleft0 : (((RS.mk ls0 0 0).left : Nat) : Int) = ls0.length := by simp [RS.left]
  go_wp2_with fail
  refine (rleft_any pr vr Tr met _ _ Q2.r).mono ?_
  rw [hleft0]
  rintro e w3 ⟨rfl, hd3⟩
  have c3 := hd3.chg (fun _ => False)
  have C3 := C2.trans c3 fun _ _ h => h
  have B3 := B2.kept c3 id
  have Q3 := Q2.calm c3
  have hv3 : ∀ k, (Value.slice none 0 0).ownBlock = some k → W.heap.size < k := by simp [Value.ownBlock]
  generalize Value.slice none 0 0 = vw at Q3 hv3
  clear C2 B2 Q2 hd3 c3 hleft0
  go_wp2_with fail
  go_loopw [6] (fun i wr => ∃ (j p : Nat) (vw : Value), j ≤ ops.length ∧ j ≤ 400 ∧ i = .int .i64 j ∧ p ≤ ls0.length ∧ RW wr pr vr Tr ⟨ls0, p, 0⟩ pw vw T (ls0.take p) ∧ (∀ k, vw.ownBlock = some k → W.heap.size < k) ∧ Blk wr W.heap.size 26 #[.slice ia0 ls0.length ic0, .slice ia1 ls1.length ic1, .slice oa ops.length oc] ∧ Chg (fun _ => False) W wr) (fun i _ => 400 - (intOf i).toNat)
  case atStart => exact ⟨0, 0, vw, Nat.zero_le _, Nat.zero_le _, rfl, Nat.zero_le _, Q3, hv3, B3, C3⟩
  case round =>
    clear Q3 hv3 B3 C3 vw
    obtain ⟨j, p, vw, hj1, hj2, rfl, hp, Q, hv, B, CW⟩ := hrel
    have kB : wr.cell? ⟨W.heap.size, 2, none⟩ = some (.slice oa ops.length oc) := B.cell 2
    have hlenp : (ls0.take p).length = p := by simp; omega
    by_cases hlt2 : j < ops.length ∧ j < 400
    · obtain ⟨hl1, hl2⟩ := hlt2
      rcases hops.2 with ⟨h, _⟩ | ⟨b, off, c, hpv, hb, hcell⟩
      · rw [h] at hl1; simp at hl1
      injection hpv with e1 e2 e3
      subst e1 e3
      have ho := hops.1 ops[j] (List.getElem_mem _)
      have hcell := hcell j hl1
      generalize ops[j] = o at *
      obtain ⟨ok, owh, om, on, ox, ob⟩ := o
      obtain ⟨za, zc, hx, _⟩ := ho.rd.form
      simp only at hx
      subst hx
      have cc : ∀ i u, (OpV.cells ⟨ok, owh, om, on, .slice za ob.length zc, ob⟩)[i]? = some u → wr.cell? ⟨b, off + j * 5 + i, none⟩ = some u := fun i u hu => by
        rw [CW.cell (p := ⟨b, off + j * 5 + i, none⟩) hb id]; exact hcell i u hu
      have e0 : wr.cell? ⟨b, off + j * 5, none⟩ = some (.int .i64 ok) := cc 0 _ rfl
      have e1 : wr.cell? ⟨b, off + j * 5 + 1, none⟩ = some (.int .i64 owh) := cc 1 _ rfl
      have e2 : wr.cell? ⟨b, off + j * 5 + 2, none⟩ = some (.int .i64 om) := cc 2 _ rfl
      have e3 : wr.cell? ⟨b, off + j * 5 + 3, none⟩ = some (.int .u64 on) := cc 3 _ rfl
      have e4 : wr.cell? ⟨b, off + j * 5 + 4, none⟩ = some (.slice za ob.length zc) := cc 4 _ rfl
      have hom := ho.m
      have hon := ho.n
      have htk := RS.ag_took Q.r.ok rfl ok om on hom.2 hon
      have HQ := Lib.hid Q
      have HCW := Lib.hid CW
      have HBX := Lib.hid B
      have HV := Lib.hid hv
      have HTK := Lib.hid htk
      have HLP := Lib.hid hlenp
      clear cc hcell ho Q CW B hv htk hlenp
      go_wp2_with fail
      refine (rat_any pr vr Tr met _ _ HQ.out.r).mono ?_
      rintro e w4 ⟨rfl, rfl⟩
      go_wp2_with fail
      refine (wlen_any pw _ T _ _ HQ.out.wr).mono ?_
      rw [HLP.out]
      rintro e w4 ⟨rfl, rfl⟩
      go_wp2_with fail
      refine (again_any pr pw vr vw _ Tr T _ _ ok owh om on _ HQ.out hb0 (by rw [HLP.out]; omega) hom hon).mono ?_
      rintro e w5 ⟨rfl, vw5, Q5, hc5, hb5⟩
      have C5 : Chg (fun _ => False) W w5 := HCW.out.trans hc5 fun q hq h => by
        rcases h with h | h | h
        · omega
        · omega
        · have := HV.out _ h; omega
      have B5 := HBX.out.kept hc5 (by
        rintro (h | h | h)
        · have h : W.heap.size = pr := h; omega
        · have h : W.heap.size = pw := h; omega
        · have := HV.out _ h; omega)
      have hv5 : ∀ k, vw5.ownBlock = some k → W.heap.size < k := fun k hk => by
        rcases hb5 k hk with h | h
        · exact HV.out k h
        · have := HBX.out.lt; omega
      have htk := HTK.out
      clear HTK HQ HCW HBX HV hc5 hb5
      generalize RS.agW ok om on ⟨ls0, p, 0⟩ = l2 at *
      generalize RS.agS ok om on ⟨ls0, p, 0⟩ = s' at *
      obtain ⟨l', p', m'⟩ := s'
      obtain ⟨hl', htk⟩ := htk
      simp only at hl' htk
      subst hl'
      rcases htk with ⟨hm, hpp⟩ | ⟨hm, hp1, hp2, hl2⟩
      · subst hpp
        have hne : (errO m' != 0) = true := by rw [errO_zero]; simpa using hm
        have HQ := Lib.hid Q5
        clear Q5 hm
        go_wp2_with fail
        refine (rfault_any pr vr Tr _ _ HQ.out.r (hT.kept C5 id)).mono ?_
        rintro e w6 ⟨rfl, rfl⟩
        go_wp2_with fail
        refine (num_any _ _).mono ?_
        rintro e w6 ⟨rfl, rfl⟩
        go_wp2_with fail
        refine (rat_any pr vr Tr met _ _ HQ.out.r).mono ?_
        rintro e w6 ⟨rfl, rfl⟩
        go_wp2_with fail
        go_ret
        exact ⟨rfl, C5⟩
      · subst hm
        have he : l'.take p ++ l2 = l'.take p' := by
          rw [hl2, ← List.take_add]; congr 1; omega
        rw [he] at Q5
        have hlp' : (l'.take p').length = p' := by simp; omega
        have hleft : (((RS.mk l' p' 0).left : Nat) : Int) = (l'.length : Int) - p' := by simp only [RS.left]; omega
        have HQ := Lib.hid Q5
        have HLP := Lib.hid hlp'
        have HL := Lib.hid hleft
        clear Q5 hl2 he hlp' hleft
        go_wp2_with fail
        refine (rfault_any pr vr Tr _ _ HQ.out.r (hT.kept C5 id)).mono ?_
        rw [show errO (RS.mk l' p' 0).met = 0 from rfl]
        rintro e w6 ⟨rfl, rfl⟩
        go_wp2_with fail
        refine (num_any _ _).mono ?_
        rintro e w6 ⟨rfl, rfl⟩
        go_wp2_with fail
        refine (rat_any pr vr Tr met _ _ HQ.out.r).mono ?_
        rintro e w6 ⟨rfl, rfl⟩
        go_wp2_with fail
        refine (rat_any pr vr Tr met _ _ HQ.out.r).mono ?_
        rintro e w6 ⟨rfl, rfl⟩
        go_wp2_with fail
        refine (rleft_any pr vr Tr met _ _ HQ.out.r).mono ?_
        rw [HL.out]
        rintro e w6 ⟨rfl, hd6⟩
        have c6 := hd6.chg (fun _ => False)
        have Q6 := Lib.hid (HQ.out.calm c6)
        go_wp2_with fail
        refine (rat_any pr vr Tr met _ _ Q6.out.r).mono ?_
        rintro e w7 ⟨rfl, rfl⟩
        go_wp2_with fail
        refine (wlen_any pw _ T _ _ Q6.out.wr).mono ?_
        rw [HLP.out]
        rintro e w7 ⟨rfl, rfl⟩
        go_wp2_with fail
        refine (rat_any pr vr Tr met _ _ Q6.out.r).mono ?_
        rintro e w7 ⟨rfl, rfl⟩
        go_wp2_with fail
        refine (out_any pw _ T _ _ Q6.out.wr (by rw [HLP.out]; omega)).mono ?_
        unfold Taken
        rw [HLP.out]
        rintro e w7 ⟨rfl, O7, hc7, hs7⟩
        have Q7 := Lib.hid (Q6.out.calm hc7)
        have C7 := (C5.trans c6 fun _ _ h => h).trans hc7 fun _ _ h => h
        have B7 := (B5.kept c6 id).kept hc7 id
        go_wp2_with fail
        refine (rat_any pr vr Tr met _ _ Q7.out.r).mono ?_
        rintro e w8 ⟨rfl, rfl⟩
        have hi7 := hrd C7
        go_wp2_with ((with_reducible show wpList _ _ _ (⟨some 96, _, _, _, _, _⟩ :: _) _ _); refine wpl_upto rfl 22 (.tmp 93) (.tmp 95) rfl Tryd.underlying22 sizeU8 rfl hi7 p' rfl rfl hp2 ?_; intro y hy; obtain ⟨ya, yc, rfl, _⟩ := hy.form; rw [HLP.out] at hy ⊢)
        have hO8 : Rd w7 (.slice (some ⟨w6.heap.size, 0, none⟩) p' p') (l'.take p') := by
          have h := Own.sl O7 (bcells_one _)
          unfold Rd
          rw [HLP.out]
          exact h
        have hY8 : Rd w7 (.slice ya p' yc) (l'.take p') := hy
        clear O7 hy
        refine (eq_any _ _ _ _ _ hO8 hY8 (by rw [HLP.out]; omega) (by rw [HLP.out]; omega)).mono ?_
        rw [eqB_self]
        rintro e w8 ⟨rfl, hd8⟩
        have c8 := hd8.chg (fun _ => False)
        go_wp2_with fail
        go_roundw
        case rel => exact ⟨j + 1, p', vw5, by omega, by omega, by go_num, hp2, Q7.out.calm c8, hv5, B7.kept c8 id, C7.trans c8 fun _ _ h => h⟩
        case measure => simp [intOf]; omega
    · have hee := endO_left (RS.mk ls0 p 0) rfl
      have HQ := Lib.hid Q
      have HCW := Lib.hid CW
      have HBX := Lib.hid B
      have HV := Lib.hid hv
      clear Q CW B hv
      rcases (by omega : ¬ j < ops.length ∨ (j < ops.length ∧ ¬ j < 400)) with h1 | ⟨h1, h2⟩
      all_goals
        clear hlt2
        go_wp2_with fail
        refine (rend_any pr vr Tr _ _ HQ.out.r (hT.kept HCW.out id)).mono ?_
        rintro e w4 ⟨rfl, hd4⟩
        go_wp2_with fail
        refine (num_any _ _).mono ?_
        rintro e w4' ⟨rfl, rfl⟩
        have Q4 := HQ.out.calm (hd4.chg _)
        go_wp2_with fail
        refine (rleft_any pr vr Tr met _ _ Q4.r).mono ?_
        rintro e w5 ⟨rfl, hd5⟩
        go_wp2_with fail
        go_ret
        exact ⟨rfl, (HCW.out.trans (hd4.chg (fun _ => False)) fun _ _ h => h).trans (hd5.chg (fun _ => False)) fun _ _ h => h⟩
end Go.Proofs.YtnfmeaifbankjaaDoor
