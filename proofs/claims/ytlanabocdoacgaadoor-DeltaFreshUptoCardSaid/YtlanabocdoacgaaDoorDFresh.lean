import Derived.Test.YtlanabocdoacgaaDoorFresh
import Derived.Test.YtlanabocdoacgaaDoorDRemade
import Derived.Test.YtlanabocdoacgaaDoorDPairs
import Derived.Great.BuildSlice
import Derived.Deep.DeepCutAuto
set_option linter.unusedVariables false
namespace Go.Proofs.YtlanabocdoacgaaDoor
open Go Go.RowKit Go.Sat
theorem wpl_box {P : Program} {ops : Array Oper} {rest : List Oper} {o : Oper} {a : Act} {Q : Exit → Act → World → Prop} {w : World} (hgd : o.guard = none) (ty : TypeId) (x : Operand)
    (ho : o.op = .box ty x) {cs : Array Value} (hx : a.eval x = .agg cs)
    (h : ∀ w', Blk w' w.heap.size ty cs → Chg (fun _ => False) w w' → w'.heap.size = w.heap.size + 1 → wpList P ops Q rest (a.put o.dst (.pointer (some ⟨w.heap.size, 0, none⟩))) w') : wpList P ops Q (o :: rest) a w := by
  refine wpList_plain hgd fun K hK => ?_
  unfold Oper.wp execOp
  have := hK _ _ (h _ (Blk.new w ty cs) ((Chg.refl _ w).alloc _) (by simp))
  simpa [ho, hx, Value.cells, Instr.box, Sem.run_bind, newVar, newRow, Oper.upon] using this
set_option maxRecDepth 100000 in
theorem bookZ : Tryd.prog.built 71 [] = some (bookC (.slice none 0 0) (.slice none 0 0) 0 0 0 0) := by kernel_rfl
theorem lateZ : Tryd.prog.built 74 [] = some (lateC (.slice none 0 0) (.slice none 0 0)) := by kernel_rfl
set_option maxRecDepth 100000 in
set_option maxHeartbeats 6400000 in
theorem dfresh_walk (v : Value) (ps : List PairV) (W : World) (hE : Errnos W) (hv : RdPairs W v ps) (hb : bulkPairs ps ≤ 1048576) :
    Calls Tryd.prog 6 #[v] W fun e w' => e = .returned (.bool true) ∧ Chg (fun _ => False) W w' := by
  have hW0 : 0 < W.heap.size := World.block_lt_of_cell? W _ (hE 0 (by decide))
  have hlen := bulk_len ps
  obtain ⟨va, vc, rfl⟩ := hv.form
  have HE := Lib.hid hE
  have HV := Lib.hid hv
  clear hE hv
  go_enter Tryd.func6, Tryd.ntmps6
  obtain ⟨Z1, hZ1⟩ : ∃ Z, Z = bookC (.slice none 0 0) (.slice none 0 0) 0 0 0 0 := ⟨_, rfl⟩
  obtain ⟨Z2, hZ2⟩ : ∃ Z, Z = lateC (.slice none 0 0) (.slice none 0 0) := ⟨_, rfl⟩
  have b1 := bookZ
  have b2 := lateZ
  rw [← hZ1] at b1
  rw [← hZ2] at b2
  have HZ1 := Lib.hid hZ1
  have HZ2 := Lib.hid hZ2
  have HB1 := Lib.hid b1
  have HB2 := Lib.hid b2
  clear hZ1 hZ2 b1 b2
  go_wp2_with fail
  (refine (lives_any W HE.out).mono ?_; rintro e w0 ⟨rfl, C0⟩)
  go_upto_region 3 with (fail)
  refine wp_region_lit ?_
  refine wpList_buildTo rfl 71 #[] rfl (some 14) rfl Z1 (by simpa using HB1.out) ?_
  refine wpl_box rfl 71 (.tmp 14) rfl rfl ?_
  intro w1 B1 C1 S1
  have HBK := Lib.hid B1
  have hs0 := C0.size
  have hS1 : w1.heap.size = w0.heap.size + 1 := S1
  have HC1 := Lib.hid (C0.trans C1 (fun _ _ h => h))
  clear B1 C1 C0 S1
  generalize hbk : w0.heap.size = bk at *
  clear hbk
  have HS1 := Lib.hid hS1
  clear hS1
  go_upto_region 4 with (fail)
  refine wp_region_lit ?_
  refine wpList_buildTo rfl 74 #[] rfl (some 16) rfl Z2 (by simpa using HB2.out) ?_
  refine wpl_box rfl 74 (.tmp 16) rfl rfl ?_
  intro w2 B2 C2 S2
  have hS2 : w2.heap.size = w1.heap.size + 1 := S2
  have HLK := Lib.hid B2
  have HC2 := Lib.hid C2
  have HB2' := Lib.hid (HBK.out.kept C2 id)
  clear B2 C2 S2
  generalize hlk : w1.heap.size = lk at *
  clear hlk
  have HS2 := Lib.hid hS2
  clear hS2
  have F0 : FrI W.heap.size w2 bk lk 71 74 (fun b => b = bk) (fun b => b = lk) 0 := by
    have h1 := HS1.out
    have h2 := HS2.out
    refine ⟨⟨[], 0, 0, 0, [], ⟨.slice none 0 0, .slice none 0 0, 0, by omega, by omega, ⟨?_, World.ownsRow_nil _ _ _ _, World.ownsRow_nil _ _ _ _, by simp [Value.ownBlock], by simp [Value.ownBlock], by simp [Value.ownBlock]⟩, ?_, ⟨fun i x hx => by simp at hx, fun i x hx => by simp at hx⟩⟩,
      ⟨.slice none 0 0, .slice none 0 0, ?_, World.ownsRow_nil _ _ _ _, World.ownsRow_nil _ _ _ _, by simp [Value.ownBlock], by simp [Value.ownBlock], by simp [Value.ownBlock], ?_, ⟨fun i x hx => by simp at hx, fun i x hx => by simp at hx⟩⟩, by simp, by simp, by omega, by simp⟩, ?_, ?_, ?_⟩
    · show Blk w2 bk _ (bookC (.slice none 0 0) (.slice none 0 0) 0 0 0 0)
      rw [← HZ1.out]; exact HB2'.out
    · intro b hb
      rcases hb with e | e | e
      · exact e
      · simp [Value.ownBlock] at e
      · simp [Value.ownBlock] at e
    · rw [← HZ2.out]; exact HLK.out
    · intro b hb
      rcases hb with e | e | e
      · exact e
      · simp [Value.ownBlock] at e
      · simp [Value.ownBlock] at e
    · intro b e1 e2
      have e1' : b = lk := e1
      have e2' : b = bk := e2
      omega
    · intro b e
      have e' : b = bk := e
      omega
    · intro b e
      have e' : b = lk := e
      omega
  have HF0 := Lib.hid F0
  have HC := Lib.hid (HC1.out.trans HC2.out (fun _ _ h => h))
  clear F0 HB2' HLK HC2 HC1 HS1 HS2 HBK HB1 HB2 HZ1 HZ2 hs0
  go_wp2_with fail
  go_loopw [5] (fun s5 wr => ∃ (i : Nat) (O P : Nat → Prop), i ≤ ps.length ∧ i ≤ 60 ∧ s5 = .int .i64 (i : Int) ∧ FrI W.heap.size wr bk lk 71 74 O P (4 * i) ∧ Chg (fun _ => False) W wr) (fun s5 _ => ps.length - (intOf s5).toNat)
  case atStart => exact ⟨0, _, _, by omega, by omega, rfl, HF0.out, HC.out⟩
  case round =>
    clear HF0 HC
    obtain ⟨i, O, P, hi, hi60, rfl, F, C⟩ := hrel
    have HF := Lib.hid F
    have HC := Lib.hid C
    clear F
    by_cases hlt : i < ps.length
    · have hq1 : decide (i < ps.length) = true := by simp; omega
      by_cases h60 : i < 60
      · have hq2 : decide ((i : Int) < 60) = true := by simp; omega
        obtain ⟨gv, off, c, e1, hgv, hcell⟩ : ∃ b off c, (Value.slice va ps.length vc) = .slice (some ⟨b, off, none⟩) ps.length c ∧ b < W.heap.size ∧ ∀ j u, ps[i].cells[j]? = some u → W.cell? ⟨b, off + i * 2 + j, none⟩ = some u := by
          rcases HV.out.2 with ⟨h0, _⟩ | ⟨b, off, c, h1, h2, h3⟩
          · rw [h0] at hlt; simp at hlt
          · exact ⟨b, off, c, h1, h2, h3 i hlt⟩
        cases e1
        have hok := HV.out.1 ps[i] (List.getElem_mem hlt)
        have hbm := bulk_mem (List.getElem_mem hlt)
        generalize ps[i] = p at *
        obtain ⟨vb, vd, b, d⟩ := p
        obtain ⟨hrb, hrd⟩ := hok
        simp only at hrb hrd hbm
        have hk0 : ∀ w, Chg (fun _ => False) W w → w.cell? ⟨gv, off + i * 2, none⟩ = some vb := fun w c => by rw [c.cell (p := ⟨gv, off + i * 2, none⟩) hgv id]; exact hcell 0 vb rfl
        have hk1 : ∀ w, Chg (fun _ => False) W w → w.cell? ⟨gv, off + i * 2 + 1, none⟩ = some vd := fun w c => by rw [c.cell (p := ⟨gv, off + i * 2 + 1, none⟩) hgv id]; exact hcell 1 vd rfl
        have K0 := Lib.hid hk0
        have K1 := Lib.hid hk1
        have RB := Lib.hid hrb
        have RD := Lib.hid hrd
        have hblt : ∀ k, rdb vb = some k → k < W.heap.size := fun k hk => Rd.lt hrb hk
        have hdlt : ∀ k, rdb vd = some k → k < W.heap.size := fun k hk => Rd.lt hrd hk
        have HBL := Lib.hid hblt
        have HDL := Lib.hid hdlt
        have hbl : b.length ≤ 2000000 := by omega
        have hdl : d.length ≤ 2000000 := by omega
        obtain ⟨ba, bc, rfl, _⟩ := hrb.form
        obtain ⟨da, dc, rfl, _⟩ := hrd.form
        have c0 := K0.out _ C
        clear hcell hk0 hk1 hrb hrd hbm hblt hdlt
        go_wp2_with fail
        (refine (lend_any _ b wr (RB.out.kept C (fun _ _ => id)) (by omega)).mono ?_; rintro e w1 ⟨gb, cb, rfl, lb, D1, hgb⟩)
        have C1 := C.trans D1 (fun _ _ h => h)
        have F1 := HF.out.calm D1 (fun _ e => e.elim)
        have hnO : ¬ O gb := fun e => by have := (HF.out.ob gb e).2; omega
        have hnP : ¬ P gb := fun e => by have := (HF.out.pb gb e).2; omega
        have hgbW : W.heap.size ≤ gb := by have := C.size; omega
        have HF1 := Lib.hid F1
        have HC1 := Lib.hid C1
        have HL1 := Lib.hid lb
        have HNO := Lib.hid hnO
        have HNP := Lib.hid hnP
        clear D1 c0 C HC HF hgb lb C1 F1 hnO hnP
        go_wp2_with fail
        go_loopw [7] (fun s7 wr => ∃ (k : Nat) (P : Nat → Prop), k ≤ 2 ∧ s7 = .int .i64 (k : Int) ∧ FrI W.heap.size wr bk lk 71 74 O P (4 * i + 2 * k) ∧ ¬ P gb ∧ Lent wr gb cb b ∧ Chg (fun _ => False) W wr) (fun s7 _ => 2 - (intOf s7).toNat)
        case atStart => exact ⟨0, P, by omega, rfl, HF1.out, HNP.out, HL1.out, HC1.out⟩
        case round =>
          clear HF1 HNP HL1 HC1
          obtain ⟨k, P, hk, rfl, F, hnP, lb, C⟩ := hrel
          have HF := Lib.hid F
          have HNP := Lib.hid hnP
          have HC := Lib.hid C
          clear F hnP
          by_cases hk2 : k < 2
          · have hqk : decide ((k : Int) < 2) = true := by simp; omega
            have c1 := K1.out _ C
            go_wp2_with fail
            have hgl := lb.own.lt gb rfl
            have hsz := C.size
            by_cases hs : b.length ≤ 65536 ∧ d.length ≤ 65536
            · obtain ⟨hs1, hs2⟩ := hs
              (refine (makeS_any _ _ b d wr lb.rd (RD.out.kept C (fun _ _ => id)) hs1 hs2).mono ?_; rintro e w3 ⟨y3, rfl, O3', hb3, D3⟩)
              have O3 : Own w3 5 1 y3 (makeR b d).length (bcells (makeR b d)) := O3'
              have C3 := C.trans D3 (fun _ _ h => h)
              have lb3 := lb.kept D3 id
              have F3 := HF.out.calm D3 (fun _ e => e.elim)
              have hy3 : ∀ q, y3.ownBlock = some q → ¬ P q ∧ ¬ O q ∧ W.heap.size ≤ q ∧ q ≠ gb := fun q hq => by
                have h1 := hb3 q hq
                exact ⟨fun e => by have := (HF.out.pb q e).2; omega, fun e => by have := (HF.out.ob q e).2; omega, by omega, by omega⟩
              have hs3 := D3.size
              have hml := make_le b d hs1 hs2
              have HY3 := Lib.hid hy3
              obtain ⟨ya, yc, rfl, _⟩ := O3.form
              have HF3 := Lib.hid F3
              have HO3 := Lib.hid O3
              have HL3 := Lib.hid lb3
              clear O3' O3 hb3 D3 F3 hy3 lb lb3 C c1 HF HC
              simp only
              go_wp2_with fail
              (refine (dnum_any ((0 : Nat) : Int) w3).mono ?_; rintro e w' ⟨rfl, hww⟩; rw [← hww]; clear hww w')
              go_wp2_with fail
              (refine (applyS_any _ _ b d w3 (HE.out.kept C3 id) HL3.out.rd (Own.rd HO3.out) hs1 hs2).mono ?_; rintro e w4 ⟨y4, rfl, O4', hb4, D4⟩)
              have O4 : Own w4 5 1 y4 d.length (bcells d) := O4'
              have C4 := C3.trans D4 (fun _ _ h => h)
              have HF4 := Lib.hid (HF3.out.calm D4 (fun _ e => e.elim))
              have HO34 := Lib.hid (HO3.out.kept D4 (fun _ _ => id))
              have HL4 := Lib.hid (HL3.out.kept D4 id)
              have hy4 : ∀ q, y4.ownBlock = some q → ¬ P q ∧ ¬ O q ∧ W.heap.size ≤ q ∧ q ≠ gb ∧ w3.heap.size ≤ q := fun q hq => by
                have h1 := hb4 q hq
                exact ⟨fun e => by have := (HF3.out.pb q e).2; omega, fun e => by have := (HF3.out.ob q e).2; omega, by omega, by omega, h1⟩
              have hs4 := D4.size
              have HY4 := Lib.hid hy4
              obtain ⟨ta, tc, rfl, _⟩ := O4.form
              have HO4 := Lib.hid O4
              have H3L := Lib.hid (Own.lt HO3.out)
              clear O4' O4 hb4 D4 hy4 HF3 HO3 HL3 C3
              generalize makeR b d = mk at *
              have c1 := K1.out _ C4
              simp only
              go_wp2_with fail
              (refine (dnum_any ((0 : Nat) : Int) w4).mono ?_; rintro e w' ⟨rfl, hww⟩; rw [← hww]; clear hww w')
              go_wp2_with fail
              (refine (eqM_any _ _ d w4 (Own.rd HO4.out) (RD.out.kept C4 (fun _ _ => id)) (by omega)).mono ?_; rintro e w5 ⟨rfl, D5⟩)
              have C5 := C4.trans D5 (fun _ _ h => h)
              have HF5 := Lib.hid (HF4.out.calm D5 (fun _ e => e.elim))
              have HO35 := Lib.hid (HO34.out.kept D5 (fun _ _ => id))
              have HO45 := Lib.hid (HO4.out.kept D5 (fun _ _ => id))
              have HL5 := Lib.hid (HL4.out.kept D5 id)
              have hs5 := D5.size
              clear D5 HF4 HO34 HO4 HL4 C4 c1
              go_wp2_with fail
              (refine (addF_any _ _ mk w5 HF5.out HO35.out (Own.rd HO35.out) (fun q hq => ⟨(HY3.out q hq).1, (HY3.out q hq).2.1, (HY3.out q hq).2.2.1⟩) (fun q hq => (HY3.out q (rdb_own hq)).1) (by omega) (by omega) (by omega)).mono ?_; rintro e w6 ⟨rfl, P1, F6, C6, hP1⟩)
              have C6' := C5.trans C6 (fun q hq e => by have := (HF5.out.pb q e).1; omega)
              have HF6 := Lib.hid F6
              have HO46 := Lib.hid (HO45.out.kept C6 (fun q hq e => (HY4.out q hq).1 e))
              have HL6 := Lib.hid (HL5.out.kept C6 HNP.out)
              have HP1 := Lib.hid hP1
              have hs6 := C6.size
              have hg1 : ¬ P1 gb := fun e => by
                rcases hP1 gb e with e | e | e
                · exact HNP.out e
                · exact (HY3.out gb e).2.2.2 rfl
                · omega
              have Hg1 := Lib.hid hg1
              have c1 := K1.out _ C6'
              clear C6 F6 hP1 HL5 C5 hg1
              go_wp2_with fail
              (refine (addF_any _ _ d w6 HF6.out HO46.out (RD.out.kept C6' (fun _ _ => id)) (fun q hq => ⟨fun e => ?_, (HY4.out q hq).2.1, (HY4.out q hq).2.2.1⟩) (fun q hq e => ?_) (by omega) (by omega) (by omega)).mono ?_)
              · rcases HP1.out q e with e | e | e
                · exact (HY4.out q hq).1 e
                · have h1 := H3L.out q e; have h2 := (HY4.out q hq).2.2.2.2; omega
                · have h1 := HO45.out.lt q hq; omega
              · have h1 := (HF6.out.pb q e).1; have h2 := HDL.out q hq; omega
              rintro e w7 ⟨rfl, P2, F7, C7, hP2⟩
              have C7' := C6'.trans C7 (fun q hq e => by have := (HF6.out.pb q e).1; omega)
              have HF7 := Lib.hid F7
              have HL7 := Lib.hid (HL6.out.kept C7 Hg1.out)
              have hg2 : ¬ P2 gb := fun e => by
                rcases hP2 gb e with e | e | e
                · exact Hg1.out e
                · exact (HY4.out gb e).2.2.2.1 rfl
                · omega
              have Hg2 := Lib.hid hg2
              clear C7 F7 hP2 HL6 C6' c1 hg2 HF6 HF5
              go_wp2_with fail
              go_roundw
              case rel => exact ⟨k + 1, P2, by omega, by go_num, HF7.out.more (by omega), Hg2.out, HL7.out, C7'⟩
              case measure => simp [intOf]; omega
            · (refine (makeL_any _ _ b d wr lb.rd (RD.out.kept C (fun _ _ => id)) hbl hdl hs).mono ?_; rintro e w3 ⟨y3, rfl, O3, hb3, D3⟩)
              have C3 := C.trans D3 (fun _ _ h => h)
              have HF3 := Lib.hid (HF.out.calm D3 (fun _ e => e.elim))
              have HL3 := Lib.hid (lb.kept D3 id)
              clear O3 hb3 D3 lb C c1 HF HC hs
              simp only
              go_wp2_with fail
              (refine (dnum_any 73 w3).mono ?_; rintro e w' ⟨rfl, hww⟩; rw [← hww]; clear hww w')
              go_wp2_with fail
              go_roundw
              case rel => exact ⟨k + 1, P, by omega, by go_num, HF3.out.more (by omega), HNP.out, HL3.out, C3⟩
              case measure => simp [intOf]; omega
          · have hqk : decide ((k : Int) < 2) = false := by simp; omega
            obtain rfl : k = 2 := by omega
            have hgl := lb.own.lt gb rfl
            have hsz := C.size
            have HL := Lib.hid lb
            clear hk hk2 lb C
            go_wp2_with fail
            (refine (settleF_any 7 wr HF.out (by omega) (by omega) hsz).mono ?_; rintro e w8 ⟨rfl, O8, P8, F8, C8, hO8, hP8⟩)
            have C8' := HC.out.trans C8 (fun q hq e => by
              rcases e with e | e
              · have := (HF.out.ob q e).1; omega
              · have := (HF.out.pb q e).1; omega)
            have hs8 := C8.size
            have HF8 := Lib.hid F8
            have HL8 := Lib.hid (HL.out.kept C8 (fun e => e.elim HNO.out HNP.out))
            have hg8 : ¬ O8 gb := fun e => by
              rcases hO8 gb e with e | e | e
              · exact HNO.out e
              · exact HNP.out e
              · omega
            have Hg8 := Lib.hid hg8
            clear F8 C8 hO8 hP8 hg8 HF HL
            go_wp2_with fail
            (refine (lookF_any w8 HF8.out (by omega) (by omega)).mono ?_; rintro e w9 ⟨rfl, O9, F9, C9, hO9⟩)
            have C9' := C8'.trans C9 (fun q hq e => by have := (HF8.out.ob q e).1; omega)
            have HF9 := Lib.hid F9
            have HL9 := Lib.hid (HL8.out.kept C9 Hg8.out)
            have c0 := K0.out _ C9'
            clear F9 C9 hO9 C8' HL8
            go_wp2_with fail
            (refine (intact_any gb cb _ b w9 HL9.out (RB.out.kept C9' (fun _ _ => id)) (by omega)).mono ?_; rintro e w' ⟨rfl, hww⟩; rw [← hww]; clear hww w')
            go_wp2_with fail
            go_roundw
            case rel => exact ⟨i + 1, O9, P8, by omega, by omega, by go_num, HF9.out.more (by omega), C9'⟩
            case measure => simp [intOf]; omega
      · have hq2 : decide ((i : Int) < 60) = false := by simp; omega
        go_wp2_with fail
        (refine (settleF_any 0 wr HF.out (by omega) (by omega) HC.out.size).mono ?_; rintro e w9 ⟨rfl, O9, P9, F9, C9, _, _⟩)
        have CE : Chg (fun _ => False) W w9 := HC.out.trans C9 (fun q hq e => by
          rcases e with e | e
          · have := (HF.out.ob q e).1; omega
          · have := (HF.out.pb q e).1; omega)
        clear F9 C9
        go_wp2_with fail
        go_ret
        exact ⟨rfl, CE⟩
    · have hq1 : decide (i < ps.length) = false := by simp; omega
      go_wp2_with fail
      (refine (settleF_any 0 wr HF.out (by omega) (by omega) HC.out.size).mono ?_; rintro e w9 ⟨rfl, O9, P9, F9, C9, _, _⟩)
      have CE : Chg (fun _ => False) W w9 := HC.out.trans C9 (fun q hq e => by
        rcases e with e | e
        · have := (HF.out.ob q e).1; omega
        · have := (HF.out.pb q e).1; omega)
      clear F9 C9
      go_wp2_with fail
      go_ret
      exact ⟨rfl, CE⟩
end Go.Proofs.YtlanabocdoacgaaDoor
