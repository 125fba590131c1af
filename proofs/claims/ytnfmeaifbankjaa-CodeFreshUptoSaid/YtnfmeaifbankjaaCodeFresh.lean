import Derived.Test.YtnfmeaifbankjaaFreshSt
set_option linter.unusedVariables false
namespace Go.Proofs.Ytnfmeaifbankjaa
open Go Go.RowKit Go.Sat
set_option maxRecDepth 100000 in
set_option maxHeartbeats 6400000 in
theorem codeFresh_walk (i0 i1 vo : Value) (ls0 : List UInt8) (ops : List OpV) (W : World) (hr0 : Rd W i0 ls0) (hl0 : ls0.length ≤ 2000000) (hops : RdOps W vo ops) (hbulk : bulkOps ops ≤ 2000000) :
    Calls Try.prog 5 #[.agg #[i0, i1, vo]] W fun e w' => e = .returned (.bool true) ∧ Chg (fun _ => False) W w' := by
  have C0 : Chg (fun _ => False) W (W.alloc (.cells #[i0, i1, vo] 26)) := (Chg.refl _ W).alloc _
  have B0 : Blk (W.alloc (.cells #[i0, i1, vo] 26)) W.heap.size 26 #[i0, i1, vo] := Blk.new W _ _
  have hs0 : (W.alloc (.cells #[i0, i1, vo] 26)).heap.size = W.heap.size + 1 := by simp
  obtain ⟨ia, ic, rfl, _⟩ := hr0.form
  obtain ⟨oa, oc, rfl⟩ := hops.form
  have HR := Lib.hid hr0
  have HOP := Lib.hid hops
  have HC0 := Lib.hid C0
  have HB0 := Lib.hid B0
  have HS0 := Lib.hid hs0
  clear hr0 hops C0 B0 hs0
  go_enter Try.func5, Try.ntmps5
  go_wp2_with fail
  generalize W.alloc (.cells #[.slice ia ls0.length ic, i1, .slice oa ops.length oc] 26) = w0 at *
  (refine (new_any w0).mono ?_; rintro e w1 ⟨T, rfl, W1, C1, S1⟩)
  have HW1 := Lib.hid W1
  have HC1 := Lib.hid C1
  have HS1 := Lib.hid S1
  have B1 := HB0.out.kept C1 id
  have c0 : w1.cell? ⟨W.heap.size, 0, none⟩ = some (.slice ia ls0.length ic) := by rw [B1.cell]; rfl
  have HB1 := Lib.hid B1
  have HCC1 := Lib.hid (HC0.out.trans C1 (fun _ _ h => h))
  clear W1 C1 S1 B1
  generalize hpw : w0.heap.size = pw at *
  clear hpw
  go_wp2_with fail
  (refine (copy_any _ ls0 w1 (HR.out.kept HCC1.out (fun _ _ => id)) (by omega)).mono ?_; rintro e w2 ⟨rfl, O2, C2, S2⟩)
  have R2 := Own.rd O2
  have HCC2 := Lib.hid (HCC1.out.trans C2 (fun _ _ h => h))
  have HB2 := Lib.hid (HB1.out.kept C2 id)
  have HW2 := Lib.hid (HW1.out.kept C2 id (fun _ _ => id))
  have HS2 := Lib.hid C2.size
  have HR2 := Lib.hid R2
  clear O2 C2 S2 R2 HB1 HW1
  go_wp2_with fail
  (refine (read_any _ ls0 w2 HR2.out (by omega)).mono ?_; rintro e w3 ⟨pb, rv, RT, rfl, R3, C3, hpb, hrv⟩)
  have HCC3 := Lib.hid (HCC2.out.trans C3 (fun _ _ h => h))
  have B3 := HB2.out.kept C3 id
  have HB3 := Lib.hid B3
  have HW3 := Lib.hid (HW2.out.kept C3 id (fun _ _ => id))
  have HS3 := Lib.hid C3.size
  have HR3 := Lib.hid R3
  have HPB := Lib.hid hpb
  have HRV := Lib.hid hrv
  have c0 : w3.cell? ⟨W.heap.size, 0, none⟩ = some (.slice ia ls0.length ic) := by rw [B3.cell]; rfl
  clear C3 R3 hpb hrv B3 HB2 HW2
  obtain ⟨Z1, hZ1⟩ : ∃ Z, Z = bookC (.slice none 0 0) (.slice none 0 0) 0 0 0 0 := ⟨_, rfl⟩
  obtain ⟨Z2, hZ2⟩ : ∃ Z, Z = lateC (.slice none 0 0) (.slice none 0 0) := ⟨_, rfl⟩
  have b1 := bookZ
  have b2 := lateZ
  rw [← hZ1] at b1
  rw [← hZ2] at b2
  have HZ1 := Lib.hid hZ1
  have HZ2 := Lib.hid hZ2
  have HBZ1 := Lib.hid b1
  have HBZ2 := Lib.hid b2
  clear hZ1 hZ2 b1 b2
  go_upto_region 6 with (fail)
  have hE4 : Chg (fun _ => False) w3 (w3.alloc (.cells #[.slice ia ls0.length ic, .int .i64 0, .int .i64 0] 56)) := (Chg.refl _ w3).alloc _
  have bE4 : Blk (w3.alloc (.cells #[.slice ia ls0.length ic, .int .i64 0, .int .i64 0] 56)) w3.heap.size 56 #[.slice ia ls0.length ic, .int .i64 0, .int .i64 0] := Blk.new w3 _ _
  have sE4 : (w3.alloc (.cells #[.slice ia ls0.length ic, .int .i64 0, .int .i64 0] 56)).heap.size = w3.heap.size + 1 := by simp
  have h03 := HCC3.out.size
  have HRlt := Lib.hid (fun k (hk : rdb (Value.slice ia ls0.length ic) = some k) => Rd.lt HR.out hk)
  have E4 : IsR (w3.alloc (.cells #[.slice ia ls0.length ic, .int .i64 0, .int .i64 0] 56)) w3.heap.size (.slice ia ls0.length ic) 56 errO ⟨ls0, 0, 0⟩ :=
    ⟨bE4, HR.out.kept (HCC3.out.trans hE4 (fun _ _ h => h)) (fun _ _ => id), fun k hk => by have := HRlt.out k hk; omega, HR3.out.ok, HR3.out.len⟩
  generalize w3.alloc (.cells #[.slice ia ls0.length ic, .int .i64 0, .int .i64 0] 56) = w4 at *
  have HCC4 := Lib.hid (HCC3.out.trans hE4 (fun _ _ h => h))
  have HB4 := Lib.hid (HB3.out.kept hE4 id)
  have HW4 := Lib.hid (HW3.out.kept hE4 id (fun _ _ => id))
  have HR4 := Lib.hid (HR3.out.calm hE4)
  have HE4 := Lib.hid E4
  have HSE4 := Lib.hid sE4
  have LPB := Lib.hid HR3.out.blk.lt
  have LRV := Lib.hid (fun k (hk : rdb rv = some k) => Rd.lt HR3.out.rd hk)
  clear hE4 bE4 sE4 E4 c0 HB3 HW3 HR3 h03 HR2
  generalize heb : w3.heap.size = eb at *
  clear heb
  refine wp_region_lit ?_
  refine wpList_buildTo rfl 70 #[] rfl (some 34) rfl Z1 (by simpa using HBZ1.out) ?_
  refine wpl_box rfl 70 (.tmp 34) rfl rfl ?_
  intro w5 b5 c5 s5
  have hS5 : w5.heap.size = w4.heap.size + 1 := s5
  have HBK := Lib.hid b5
  have HCC5 := Lib.hid (HCC4.out.trans c5 (fun _ _ h => h))
  have HB5 := Lib.hid (HB4.out.kept c5 id)
  have HW5 := Lib.hid (HW4.out.kept c5 id (fun _ _ => id))
  have HR5 := Lib.hid (HR4.out.calm c5)
  have HE5 := Lib.hid (HE4.out.calm c5)
  clear b5 c5 s5 HB4 HW4 HR4 HE4
  generalize hbk : w4.heap.size = bk at *
  clear hbk
  have HS5 := Lib.hid hS5
  clear hS5
  go_upto_region 7 with (fail)
  refine wp_region_lit ?_
  refine wpList_buildTo rfl 73 #[] rfl (some 36) rfl Z2 (by simpa using HBZ2.out) ?_
  refine wpl_box rfl 73 (.tmp 36) rfl rfl ?_
  intro w6 b6 c6 s6
  have hS6 : w6.heap.size = w5.heap.size + 1 := s6
  have HLK := Lib.hid b6
  have HBK6 := Lib.hid (HBK.out.kept c6 id)
  have HCC6 := Lib.hid (HCC5.out.trans c6 (fun _ _ h => h))
  have HB6 := Lib.hid (HB5.out.kept c6 id)
  have HW6 := Lib.hid (HW5.out.kept c6 id (fun _ _ => id))
  have HR6 := Lib.hid (HR5.out.calm c6)
  have HE6 := Lib.hid (HE5.out.calm c6)
  clear b6 c6 s6 HB5 HW5 HR5 HE5 HBK
  generalize hlk : w5.heap.size = lk at *
  clear hlk
  have HS6 := Lib.hid hS6
  clear hS6
  have St0 : ∃ lab, St W w6 #[.slice ia ls0.length ic, i1, .slice oa ops.length oc] bk lk pw pb eb T RT 56 rv (.slice ia ls0.length ic) (.slice none 0 0) (.slice none 0 0) [] ⟨ls0, 0, 0⟩ ⟨ls0, 0, 0⟩ (fun b => b = bk) (fun b => b = lk) 0 lab := by
    have q0 := HS0.out
    have q1 := HS1.out
    have q2 := HS2.out
    have q3 := HS3.out
    have q4 := HSE4.out
    have q5 := HS5.out
    have q6 := HS6.out
    have q7 := HPB.out
    have q8 := LPB.out
    have q9 : ∀ k, FP pw (.slice none 0 0) (.slice none 0 0) k → k = pw := fun k hk => by
      rcases hk with e | e | e
      · exact e
      · simp [Value.ownBlock] at e
      · simp [Value.ownBlock] at e
    refine ⟨fun k => if k < W.heap.size then 0 else if k = W.heap.size then 1 else if k = pw then 2 else if k = pb ∨ rdb rv = some k then 3 else if k = eb then 4 else 5,
      ⟨⟨⟨[], 0, 0, 0, [], ⟨.slice none 0 0, .slice none 0 0, 0, by omega, by omega, ⟨?_, World.ownsRow_nil _ _ _ _, World.ownsRow_nil _ _ _ _, by simp [Value.ownBlock], by simp [Value.ownBlock], by simp [Value.ownBlock]⟩, ?_, ⟨fun i x hx => by simp at hx, fun i x hx => by simp at hx⟩⟩,
      ⟨.slice none 0 0, .slice none 0 0, ?_, World.ownsRow_nil _ _ _ _, World.ownsRow_nil _ _ _ _, by simp [Value.ownBlock], by simp [Value.ownBlock], by simp [Value.ownBlock], ?_, ⟨fun i x hx => by simp at hx, fun i x hx => by simp at hx⟩⟩, by simp, by simp, by omega, by simp⟩, ?_, ?_, ?_⟩,
      ⟨HW6.out, World.ownsRow_nil _ _ _ _, by simp [Value.ownBlock], fun k hk => by simp [Value.ownBlock] at hk⟩, HR6.out, HE6.out, HB6.out, HCC6.out, ?_, ?_, ?_, ?_, ?_, ?_, HRlt.out, ?_⟩⟩
    · show Blk w6 bk _ (bookC (.slice none 0 0) (.slice none 0 0) 0 0 0 0)
      rw [← HZ1.out]; exact HBK6.out
    · intro b hb
      rcases hb with e | e | e
      · exact e
      · simp [Value.ownBlock] at e
      · simp [Value.ownBlock] at e
    · rw [← HZ2.out]; exact HLK.out
    · intro b hb
      rcases hb with e | e | e
      · exact e
      · simp [Value.ownBlock] at e
      · simp [Value.ownBlock] at e
    · intro b e1 e2
      have e1' : b = lk := e1
      have e2' : b = bk := e2
      omega
    · intro b e
      have e' : b = bk := e
      omega
    · intro b e
      have e' : b = lk := e
      omega
    · intro k hk
      simp only [if_pos hk]
    · intro k hk
      have e' : k = bk := hk
      subst e'
      have hnr : ¬ (k = pb ∨ rdb rv = some k) := by
        rintro (e | e)
        · omega
        · have := LRV.out k e; omega
      simp only [if_neg (show ¬ k < W.heap.size by omega), if_neg (show ¬ k = W.heap.size by omega), if_neg (show ¬ k = pw by omega), if_neg hnr, if_neg (show ¬ k = eb by omega)]
    · intro k hk
      have e' : k = lk := hk
      subst e'
      have hnr : ¬ (k = pb ∨ rdb rv = some k) := by
        rintro (e | e)
        · omega
        · have := LRV.out k e; omega
      simp only [if_neg (show ¬ k < W.heap.size by omega), if_neg (show ¬ k = W.heap.size by omega), if_neg (show ¬ k = pw by omega), if_neg hnr, if_neg (show ¬ k = eb by omega)]
    · intro k hk
      have e' := q9 k hk
      simp only [if_neg (show ¬ k < W.heap.size by omega), if_neg (show ¬ k = W.heap.size by omega), if_pos e']
    · intro k hk
      have h1 : W.heap.size < k ∧ k ≠ pw := by
        rcases hk with e | e
        · omega
        · have := HRV.out k e; omega
      simp only [if_neg (show ¬ k < W.heap.size by omega), if_neg (show ¬ k = W.heap.size by omega), if_neg h1.2, if_pos hk]
    · have hnr : ¬ (eb = pb ∨ rdb rv = some eb) := by
        rintro (e | e)
        · omega
        · have := LRV.out eb e; omega
      simp only [if_neg (show ¬ eb < W.heap.size by omega), if_neg (show ¬ eb = W.heap.size by omega), if_neg (show ¬ eb = pw by omega), if_neg hnr, if_true]
    · simp
  have HSt0 := Lib.hid St0
  clear St0 HBK6 HLK HB6 HW6 HR6 HE6 HZ1 HZ2 HBZ1 HBZ2 HS0 HS1 HS2 HS3 HSE4 HS5 HS6 HPB LPB HRV LRV HCC1 HCC2 HCC3 HCC4 HCC5 HCC6 HC0 HC1 HB0
  go_wp2_with fail
  go_loopw [8, 9] (fun s8 s9 wr => ∃ (k : Nat) (v : Value) (l : List UInt8) (s : RS) (O P : Nat → Prop) (lab : Nat → Nat), k ≤ ops.length ∧ k ≤ 400 ∧ s9 = .int .i64 (k : Int) ∧
      St W wr #[.slice ia ls0.length ic, i1, .slice oa ops.length oc] bk lk pw pb eb T RT 56 rv (.slice ia ls0.length ic) v s8 l s s O P (4 * k) lab ∧ l.length ≤ ((ops.take k).map fun o => o.b.length).sum + 10 * k ∧ s.l = ls0) (fun _ s9 _ => 400 - (intOf s9).toNat)
  case atStart =>
    obtain ⟨lab, h⟩ := HSt0.out
    exact ⟨0, _, [], _, _, _, lab, by omega, by omega, rfl, h, by simp, rfl⟩
  case round =>
    clear HSt0 c0
    obtain ⟨k, v, l, s, O, P, lab, hk1, hk2, rfl, H, hlen, hsl⟩ := hrel
    have cB : wr.cell? ⟨W.heap.size, 2, none⟩ = some (.slice oa ops.length oc) := by rw [H.B.cell]; rfl
    have HH := Lib.hid H
    have HSL := Lib.hid hsl
    have HLEN := Lib.hid hlen
    have hch := H.ch
    obtain ⟨ha, hcap, rfl, _⟩ := H.A.held.form
    have hll : l.length ≤ 3000000 := by have := bulk_take ops k; omega
    clear H hsl hlen
    by_cases hlt : k < ops.length
    · have hq1 : decide ((k : Int) < (ops.length : Int)) = true := by simp; omega
      by_cases h400 : k < 400
      · have hq2 : decide ((k : Int) < 400) = true := by simp; omega
        obtain ⟨hok, hv⟩ := HOP.out
        rcases hv with ⟨h, _⟩ | ⟨b, off, c, e9, hb, hcell⟩
        · rw [h] at hlt; simp at hlt
        injection e9 with e9 e10 e11
        clear e10
        subst e9 e11
        have ho := hok ops[k] (List.getElem_mem _)
        have hcell := hcell k hlt
        have hstep := bulk_step ops k hlt
        have htake := bulk_take ops (k + 1)
        generalize ops[k] = o at *
        obtain ⟨ok, owh, om, on, ox, ob⟩ := o
        obtain ⟨xa, xc, hx, _⟩ := ho.rd.form
        simp only at hx
        subst hx
        have HST := Lib.hid hstep
        have HTK := Lib.hid htake
        have hobl : ob.length ≤ 2000000 := by simp only at hstep; omega
        clear hstep htake
        have hbw : b < wr.heap.size := by have := hch.size; omega
        have cc : ∀ j u, (OpV.cells ⟨ok, owh, om, on, .slice xa ob.length xc, ob⟩)[j]? = some u → wr.cell? ⟨b, off + k * 5 + j, none⟩ = some u := fun j u hu => by
          rw [hch.cell (p := ⟨b, off + k * 5 + j, none⟩) hb id]; exact hcell j u hu
        have e0 : wr.cell? ⟨b, off + k * 5, none⟩ = some (.int .i64 ok) := cc 0 _ rfl
        have e1 : wr.cell? ⟨b, off + k * 5 + 1, none⟩ = some (.int .i64 owh) := cc 1 _ rfl
        have e2 : wr.cell? ⟨b, off + k * 5 + 2, none⟩ = some (.int .i64 om) := cc 2 _ rfl
        have e3 : wr.cell? ⟨b, off + k * 5 + 3, none⟩ = some (.int .u64 on) := cc 3 _ rfl
        have e4 : wr.cell? ⟨b, off + k * 5 + 4, none⟩ = some (.slice xa ob.length xc) := cc 4 _ rfl
        have how := RdOps.ok ho hch
        have hon := ho.n
        have hom := ho.m
        have hlt0 := ho.lt
        have HOW := Lib.hid how.rd
        have HLT0 := Lib.hid hlt0
        clear cc hcell ho hok how hlt0
        go_upto_region 13 with (fail)
        simp only at hon hom
        have hob := opB_len ok on ob hon (by omega)
        have hst := HST.out
        simp only at hst
        have HST2 := Lib.hid hst
        clear hst
        have CS : Chg (fun _ => False) wr (wr.alloc (.cells #[.int .i64 ok, .int .i64 owh, .int .i64 om, .int .u64 on, .slice xa ob.length xc] 32)) := (Chg.refl _ wr).alloc _
        have BO7 : Blk (wr.alloc (.cells #[.int .i64 ok, .int .i64 owh, .int .i64 om, .int .u64 on, .slice xa ob.length xc] 32)) wr.heap.size 32 #[.int .i64 ok, .int .i64 owh, .int .i64 om, .int .u64 on, .slice xa ob.length xc] := Blk.new wr _ _
        obtain ⟨lab1, H1, a1, n1⟩ := HH.out.fresh CS 8
        have hbo1 := n1 wr.heap.size (Nat.le_refl _)
        have hbk1 : k + 1 ≤ ops.length ∧ k + 1 ≤ 400 := by omega
        have RS7 := HOW.out.kept CS (fun _ _ => id)
        simp only at RS7
        have e5 : ∀ j u, #[.int .i64 ok, .int .i64 owh, .int .i64 om, .int .u64 on, .slice xa ob.length xc][j]? = some u → (wr.alloc (.cells #[.int .i64 ok, .int .i64 owh, .int .i64 om, .int .u64 on, .slice xa ob.length xc] 32)).cell? ⟨wr.heap.size, j, none⟩ = some u := fun j u hu => by rw [BO7.cell]; exact hu
        have d0 := e5 0 _ rfl
        have d1 := e5 1 _ rfl
        have d2 := e5 2 _ rfl
        have d3 := e5 3 _ rfl
        have d4 := e5 4 _ rfl
        clear e5 e0 e1 e2 e3 e4 cB a1 n1 CS hch
        generalize wr.alloc (.cells #[.int .i64 ok, .int .i64 owh, .int .i64 om, .int .u64 on, .slice xa ob.length xc] 32) = w7 at *
        generalize hbo : wr.heap.size = bo at *
        clear hbo hbw
        have HH1 := Lib.hid H1
        have HBO7 := Lib.hid BO7
        have HLB1 := Lib.hid hbo1
        have HRS7 := Lib.hid RS7
        clear H1 BO7 hbo1 RS7 HH
        go_wp2_with fail
        (refine (writes_any pw v (.slice ha l.length hcap) (.slice xa ob.length xc) T ok owh om on l ob w7 (HH1.out.A.pre HRS7.out (fun q hq hf => by have h1 := HH1.out.lA q hf; have h2 := HH1.out.old q (HLT0.out q hq); omega)) hon.1 hon.2 (by omega) (by omega)).mono ?_; rintro e w8 hpost; obtain ⟨v', hv', rfl, ho1, hch1, hfp1⟩ := One.post hpost)
        have HBO8 := Lib.hid (HBO7.out.kept hch1 (fun hf => by have h1 := HH1.out.lA bo hf; have h2 := HLB1.out; omega))
        obtain ⟨lab2, H2, a2⟩ := HH1.out.wrote ho1 hch1 hfp1
        have HLB2 := Lib.hid ((a2 bo HBO7.out.lt).trans HLB1.out)
        have HH2 := Lib.hid H2
        obtain ⟨ha2, hcap2, hvq, _⟩ := ho1.held.form
        subst hvq
        have hll2 : (l ++ opB ok on ob).length ≤ 3000000 := by
          have h1 := HLEN.out; have h2 := HST2.out; have h3 := HTK.out; simp only [List.length_append]; omega
        have hlen2 : (l ++ opB ok on ob).length ≤ ((ops.take (k + 1)).map fun o => o.b.length).sum + 10 * (k + 1) := by
          have h1 := HLEN.out; have h2 := HST2.out; simp only [List.length_append]; omega
        have HLEN2 := Lib.hid hlen2
        have c8 : w8.cell? ⟨bo, 0, none⟩ = some (.int .i64 ok) := by rw [HBO8.out.cell]; rfl
        clear H2 a2 ho1 hch1 hfp1 hpost HBO7 HLB1 HH1 HRS7 hob hlen2 d0 d1 d2 d3 d4 HST HST2 HTK HLEN hll
        generalize l ++ opB ok on ob = L at *
        go_upto_region 17 with (fail)
        by_cases h5 : ok = 5
        · subst h5
          have c2 : w8.cell? ⟨bo, 2, none⟩ = some (.int .i64 om) := by rw [HBO8.out.cell]; rfl
          go_wp2_with fail
          (refine (rdbytes_any pb rv RT s om w8 HH2.out.R hom).mono ?_; rintro e w9 ⟨x, rfl, X9, hx9, R9, C9⟩)
          have hn9 : ¬ bo = pb := fun e => by have h1 := HH2.out.lR bo (.inl e); have h2 := HLB2.out; omega
          have HBO9 := Lib.hid (HBO8.out.kept C9 hn9)
          obtain ⟨lab3, H3, a3, n3⟩ := HH2.out.read R9 C9 6
          have hxl3 : ∀ q, x.ownBlock = some q → lab3 q = 6 := fun q hq => n3 q (hx9 q hq)
          have HLB3 := Lib.hid ((a3 bo HBO8.out.lt).trans HLB2.out)
          have HH3 := Lib.hid H3
          have HX9 := Lib.hid X9
          have HXL3 := Lib.hid hxl3
          obtain ⟨xa1, xc1, rfl, _⟩ := X9.form
          have c29 : w9.cell? ⟨bo, 2, none⟩ = some (.int .i64 om) := by rw [HBO9.out.cell]; rfl
          have htl := RS.text_len s om
          have htl2 := RS.text_l s om
          have HTL2 := Lib.hid (htl2.trans HSL.out)
          have hsl0 := HSL.out
          have htlb : (s.text om).1.length ≤ 2000000 := by rw [hsl0] at htl; omega
          clear X9 hx9 R9 C9 hn9 a3 n3 H3 hxl3 c2 c8 HBO8 HH2 HLB2 htl htl2 hsl0
          go_wp2_with fail
          (refine (etext_any eb _ 56 s om w9 HH3.out.E hom).mono ?_; rintro e w10 ⟨t, rfl, T10, ht, E10, C10⟩)
          have hn10 : ∀ q, lab3 q ≠ 4 → ¬ q = eb := fun q hq e => hq (by rw [e]; exact HH3.out.lE)
          have HBO10 := Lib.hid (HBO9.out.kept C10 (hn10 bo (by have := HLB3.out; omega)))
          have HX10 := Lib.hid (HX9.out.kept C10 (fun q hq => hn10 q (by have := HXL3.out q hq; omega)))
          obtain ⟨lab4, H4, a4, n4⟩ := HH3.out.eye E10 C10 7
          have hxl4 : ∀ q, (Value.slice xa1 (s.text om).1.length xc1).ownBlock = some q → lab4 q = 6 := fun q hq => (a4 q (HX9.out.lt q hq)).trans (HXL3.out q hq)
          have htl4 : ∀ q, rdb t = some q → lab4 q = 7 := fun q hq => n4 q (ht q (rdb_own hq))
          have HLB4 := Lib.hid ((a4 bo HBO9.out.lt).trans HLB3.out)
          have HH4 := Lib.hid H4
          have HXL4 := Lib.hid hxl4
          have HTL4 := Lib.hid htl4
          have HT10 := Lib.hid (Own.rd T10)
          obtain ⟨ta1, tc1, rfl, _⟩ := T10.form
          clear T10 ht E10 C10 hn10 a4 n4 H4 hxl4 htl4 c29 HBO9 HH3 HLB3 HX9 HXL3
          go_wp2_with fail
          (refine (addF_any _ _ (s.text om).1 w10 HH4.out.F HX10.out HT10.out (fun q hq => ⟨fun e => by have h1 := HXL4.out q hq; have h2 := HH4.out.lP q e; omega, fun e => by have h1 := HXL4.out q hq; have h2 := HH4.out.lO q e; omega, HH4.out.ge (by have h1 := HXL4.out q hq; omega)⟩) (fun q hq e => by have h1 := HTL4.out q hq; have h2 := HH4.out.lP q e; omega) (by omega) (by omega) HH4.out.ch.size).mono ?_; rintro e w11 ⟨rfl, P1, F11, C11, hP1⟩)
          have HBO11 := Lib.hid (HBO10.out.kept C11 (fun e => by have h1 := HLB4.out; have h2 := HH4.out.lP bo e; omega))
          obtain ⟨lab5, H5, a5⟩ := HH4.out.book (Value.slice xa1 (s.text om).1.length xc1).ownBlock F11 (C11.mono fun _ _ e => .inr e) (fun q hq => by have := HXL4.out q hq; omega) (fun b hb => .inl hb) (fun b hb => .inr (hP1 b hb))
          have HLB5 := Lib.hid ((a5 bo HBO10.out.lt (fun e => by have h1 := HXL4.out bo e; have h2 := HLB4.out; omega)).trans HLB4.out)
          have HH5 := Lib.hid H5
          have c211 : w11.cell? ⟨bo, 2, none⟩ = some (.int .i64 om) := by rw [HBO11.out.cell]; rfl
          clear F11 C11 hP1 H5 a5 HBO10 HX10 HXL4 HTL4 HT10 HH4 HLB4
          generalize (s.text om).2 = s1 at *
          go_wp2_with fail
          (refine (into_any om 5 w11 (by omega) (by omega) hom).mono ?_; rintro e w' ⟨rfl, hww⟩; rw [← hww]; clear hww w')
          go_wp2_with fail
          (refine (rdraw_any pb rv RT s1 (om % 5) w11 HH5.out.R).mono ?_; rintro e w12 ⟨y, rfl, Y12, hy12, R12, C12⟩)
          have hn12 : ¬ bo = pb := fun e => by have h1 := HH5.out.lR bo (.inl e); have h2 := HLB5.out; omega
          have HBO12 := Lib.hid (HBO11.out.kept C12 hn12)
          obtain ⟨lab6, H6, a6, n6⟩ := HH5.out.read R12 C12 6
          have hyl6 : ∀ q, y.ownBlock = some q → lab6 q = 6 := fun q hq => n6 q (hy12 q hq)
          have HLB6 := Lib.hid ((a6 bo HBO11.out.lt).trans HLB5.out)
          have HH6 := Lib.hid H6
          have HY12 := Lib.hid Y12
          have HYL6 := Lib.hid hyl6
          obtain ⟨ya1, yc1, rfl, _⟩ := Y12.form
          have c212 : w12.cell? ⟨bo, 2, none⟩ = some (.int .i64 om) := by rw [HBO12.out.cell]; rfl
          have hrl := RS.raw_len s1 (om % 5)
          have hrl2 := RS.raw_l s1 (om % 5)
          have HSLT := Lib.hid (hrl2.trans HTL2.out)
          have hsl1 := HTL2.out
          have hrlb : (s1.raw (om % 5)).1.length ≤ 2000000 := by rw [hsl1] at hrl; omega
          clear Y12 hy12 R12 C12 hn12 a6 n6 H6 hyl6 c211 HBO11 HH5 HLB5 hrl hrl2 hsl1
          go_wp2_with fail
          (refine (into_any om 5 w12 (by omega) (by omega) hom).mono ?_; rintro e w' ⟨rfl, hww⟩; rw [← hww]; clear hww w')
          go_wp2_with fail
          (refine (eraw_any eb _ 56 s1 (om % 5) w12 HH6.out.E).mono ?_; rintro e w13 ⟨z, rfl, Z13, hz, E13, C13⟩)
          have hn13 : ∀ q, lab6 q ≠ 4 → ¬ q = eb := fun q hq e => hq (by rw [e]; exact HH6.out.lE)
          have HY13 := Lib.hid (HY12.out.kept C13 (fun q hq => hn13 q (by have := HYL6.out q hq; omega)))
          obtain ⟨lab7, H7, a7, n7⟩ := HH6.out.eye E13 C13 7
          have hyl7 : ∀ q, (Value.slice ya1 (s1.raw (om % 5)).1.length yc1).ownBlock = some q → lab7 q = 6 := fun q hq => (a7 q (HY12.out.lt q hq)).trans (HYL6.out q hq)
          have hzl7 : ∀ q, rdb z = some q → lab7 q = 7 := fun q hq => n7 q (hz q (rdb_own hq))
          have HH7 := Lib.hid H7
          have HYL7 := Lib.hid hyl7
          have HZL7 := Lib.hid hzl7
          have HZ13 := Lib.hid (Own.rd Z13)
          obtain ⟨za1, zc1, rfl, _⟩ := Z13.form
          clear Z13 hz E13 C13 hn13 a7 n7 H7 hyl7 hzl7 c212 HBO12 HH6 HLB6 HY12 HYL6
          go_wp2_with fail
          (refine (addF_any _ _ (s1.raw (om % 5)).1 w13 HH7.out.F HY13.out HZ13.out (fun q hq => ⟨fun e => by have h1 := HYL7.out q hq; have h2 := HH7.out.lP q e; omega, fun e => by have h1 := HYL7.out q hq; have h2 := HH7.out.lO q e; omega, HH7.out.ge (by have h1 := HYL7.out q hq; omega)⟩) (fun q hq e => by have h1 := HZL7.out q hq; have h2 := HH7.out.lP q e; omega) (by omega) (by omega) HH7.out.ch.size).mono ?_; rintro e w14 ⟨rfl, P2, F14, C14, hP2⟩)
          obtain ⟨lab8, H8, _⟩ := HH7.out.book (Value.slice ya1 (s1.raw (om % 5)).1.length yc1).ownBlock F14 (C14.mono fun _ _ e => .inr e) (fun q hq => by have := HYL7.out q hq; omega) (fun b hb => .inl hb) (fun b hb => .inr (hP2 b hb))
          have HH8 := Lib.hid H8
          clear F14 C14 hP2 H8 HY13 HYL7 HZL7 HZ13 HH7
          generalize (s1.raw (om % 5)).2 = s2 at *
          go_wp2_with fail
          go_loopw [15] (fun s15 wr => ∃ (j : Nat) (P : Nat → Prop) (lab : Nat → Nat), j ≤ 2 ∧ s15 = .int .i64 (j : Int) ∧
              St W wr #[.slice ia ls0.length ic, i1, .slice (some ⟨b, off, none⟩) ops.length oc] bk lk pw pb eb T RT 56 rv (.slice ia ls0.length ic) v' (.slice ha2 L.length hcap2) L s2 s2 O P (4 * k + 1 + 1 + j) lab) (fun s15 _ => 2 - (intOf s15).toNat)
          case atStart => exact ⟨0, P2, lab8, by omega, rfl, HH8.out⟩
          case round =>
            clear HH8
            obtain ⟨j, P3, lab9, hj, rfl, H9⟩ := hrel
            have HH9 := Lib.hid H9
            clear H9
            by_cases hj2 : j < 2
            · have hqj : decide ((j : Int) < 2) = true := by simp; omega
              go_wp2_with fail
              (refine (out_any pw v' T L wr HH9.out.A.wr (by omega)).mono ?_; rintro e wc ⟨rfl, OZ, CZ, SZ⟩)
              obtain ⟨labc, Hc, ac, nc⟩ := HH9.out.fresh CZ 6
              have hzl : ∀ q, (Value.slice (some ⟨wr.heap.size, 0, none⟩) L.length L.length).ownBlock = some q → labc q = 6 := fun q hq => nc q (by simp [Value.ownBlock] at hq; omega)
              have HHc := Lib.hid Hc
              have HZL := Lib.hid hzl
              have HOZ := Lib.hid OZ
              clear OZ CZ SZ Hc ac nc hzl HH9
              go_wp2_with fail
              (refine (addF_any _ _ L wc HHc.out.F HOZ.out (Own.rd HHc.out.A.held) (fun q hq => ⟨fun e => by have h1 := HZL.out q hq; have h2 := HHc.out.lP q e; omega, fun e => by have h1 := HZL.out q hq; have h2 := HHc.out.lO q e; omega, HHc.out.ge (by have h1 := HZL.out q hq; omega)⟩) (fun q hq e => by have h1 := HHc.out.lA q (.inr (.inr (rdb_own hq))); have h2 := HHc.out.lP q e; omega) (by omega) (by omega) HHc.out.ch.size).mono ?_; rintro e wd ⟨rfl, P4, Fd, Cd, hP4⟩)
              obtain ⟨labd, Hd, _⟩ := HHc.out.book (Value.slice (some ⟨wr.heap.size, 0, none⟩) L.length L.length).ownBlock Fd (Cd.mono fun _ _ e => .inr e) (fun q hq => by have := HZL.out q hq; omega) (fun b hb => .inl hb) (fun b hb => .inr (hP4 b hb))
              have HHd := Lib.hid Hd
              clear Fd Cd hP4 Hd HZL HOZ HHc
              go_wp2_with fail
              go_roundw
              case rel => exact ⟨j + 1, P4, labd, by omega, by go_num, HHd.out.more (by omega)⟩
              case measure => simp [intOf]; omega
            · have hqj : decide ((j : Int) < 2) = false := by simp; omega
              have HHT := Lib.hid (HH9.out.more (show 4 * k + 1 + 1 + j ≤ 4 * (k + 1) by omega))
              clear HH9
              go_wp2_with fail
              have K6 := HHT.out.F
              (refine (settleF_any 6 _ K6 (by omega) (by omega) HHT.out.ch.size).mono ?_; rintro e wa ⟨rfl, Oa, Pa, Fa, Ca, hOa, hPa⟩)
              obtain ⟨laba, Ha, _⟩ := HHT.out.book none Fa Ca (fun _ e => by cases e) (fun b hb => (hOa b hb).elim .inl fun e => e.elim (fun e => .inr (.inl e)) fun e => .inr (.inr (.inr e))) (fun b hb => .inr (.inl (hPa b hb)))
              have HHa := Lib.hid Ha
              clear K6 Fa Ca hOa hPa Ha HHT
              go_wp2_with fail
              (refine (lookF_any wa HHa.out.F (by omega) HHa.out.ch.size).mono ?_; rintro e wb ⟨rfl, Ob, Fb, Cb, hOb⟩)
              obtain ⟨labb, Hb, _⟩ := HHa.out.book none Fb (Cb.mono fun _ _ e => .inl e) (fun _ e => by cases e) (fun b hb => (hOb b hb).elim .inl fun e => .inr (.inr (.inr e))) (fun b hb => .inr (.inl hb))
              have HHb := Lib.hid Hb
              clear Fb Cb hOb Hb HHa
              go_wp2_with fail
              go_roundw
              case rel => exact ⟨k + 1, _, L, _, _, _, labb, by omega, by omega, by go_num, HHb.out, HLEN2.out, HSLT.out⟩
              case measure => simp [intOf]; omega
        · have hq5 : (ok == 5) = false := beq_eq_false_iff_ne.2 h5
          by_cases h6 : ok = 6
          · subst h6
            have c2 : w8.cell? ⟨bo, 2, none⟩ = some (.int .i64 om) := by rw [HBO8.out.cell]; rfl
            go_wp2_with fail
            (refine (rdbytes_any pb rv RT s om w8 HH2.out.R hom).mono ?_; rintro e w9 ⟨x, rfl, X9, hx9, R9, C9⟩)
            have hn9 : ¬ bo = pb := fun e => by have h1 := HH2.out.lR bo (.inl e); have h2 := HLB2.out; omega
            have HBO9 := Lib.hid (HBO8.out.kept C9 hn9)
            obtain ⟨lab3, H3, a3, n3⟩ := HH2.out.read R9 C9 6
            have hxl3 : ∀ q, x.ownBlock = some q → lab3 q = 6 := fun q hq => n3 q (hx9 q hq)
            have HLB3 := Lib.hid ((a3 bo HBO8.out.lt).trans HLB2.out)
            have HH3 := Lib.hid H3
            have HX9 := Lib.hid X9
            have HXL3 := Lib.hid hxl3
            obtain ⟨xa1, xc1, rfl, _⟩ := X9.form
            have c29 : w9.cell? ⟨bo, 2, none⟩ = some (.int .i64 om) := by rw [HBO9.out.cell]; rfl
            have htl := RS.text_len s om
            have htl2 := RS.text_l s om
            have HTL2 := Lib.hid (htl2.trans HSL.out)
            have hsl0 := HSL.out
            have htlb : (s.text om).1.length ≤ 2000000 := by rw [hsl0] at htl; omega
            clear X9 hx9 R9 C9 hn9 a3 n3 H3 hxl3 c2 c8 HBO8 HH2 HLB2 htl htl2 hsl0
            go_wp2_with fail
            (refine (etext_any eb _ 56 s om w9 HH3.out.E hom).mono ?_; rintro e w10 ⟨t, rfl, T10, ht, E10, C10⟩)
            have hn10 : ∀ q, lab3 q ≠ 4 → ¬ q = eb := fun q hq e => hq (by rw [e]; exact HH3.out.lE)
            have HBO10 := Lib.hid (HBO9.out.kept C10 (hn10 bo (by have := HLB3.out; omega)))
            have HX10 := Lib.hid (HX9.out.kept C10 (fun q hq => hn10 q (by have := HXL3.out q hq; omega)))
            obtain ⟨lab4, H4, a4, n4⟩ := HH3.out.eye E10 C10 7
            have hxl4 : ∀ q, (Value.slice xa1 (s.text om).1.length xc1).ownBlock = some q → lab4 q = 6 := fun q hq => (a4 q (HX9.out.lt q hq)).trans (HXL3.out q hq)
            have htl4 : ∀ q, rdb t = some q → lab4 q = 7 := fun q hq => n4 q (ht q (rdb_own hq))
            have HLB4 := Lib.hid ((a4 bo HBO9.out.lt).trans HLB3.out)
            have HH4 := Lib.hid H4
            have HXL4 := Lib.hid hxl4
            have HTL4 := Lib.hid htl4
            have HT10 := Lib.hid (Own.rd T10)
            obtain ⟨ta1, tc1, rfl, _⟩ := T10.form
            clear T10 ht E10 C10 hn10 a4 n4 H4 hxl4 htl4 c29 HBO9 HH3 HLB3 HX9 HXL3
            go_wp2_with fail
            (refine (addF_any _ _ (s.text om).1 w10 HH4.out.F HX10.out HT10.out (fun q hq => ⟨fun e => by have h1 := HXL4.out q hq; have h2 := HH4.out.lP q e; omega, fun e => by have h1 := HXL4.out q hq; have h2 := HH4.out.lO q e; omega, HH4.out.ge (by have h1 := HXL4.out q hq; omega)⟩) (fun q hq e => by have h1 := HTL4.out q hq; have h2 := HH4.out.lP q e; omega) (by omega) (by omega) HH4.out.ch.size).mono ?_; rintro e w11 ⟨rfl, P1, F11, C11, hP1⟩)
            have HBO11 := Lib.hid (HBO10.out.kept C11 (fun e => by have h1 := HLB4.out; have h2 := HH4.out.lP bo e; omega))
            obtain ⟨lab5, H5, a5⟩ := HH4.out.book (Value.slice xa1 (s.text om).1.length xc1).ownBlock F11 (C11.mono fun _ _ e => .inr e) (fun q hq => by have := HXL4.out q hq; omega) (fun b hb => .inl hb) (fun b hb => .inr (hP1 b hb))
            have HLB5 := Lib.hid ((a5 bo HBO10.out.lt (fun e => by have h1 := HXL4.out bo e; have h2 := HLB4.out; omega)).trans HLB4.out)
            have HH5 := Lib.hid H5
            have c211 : w11.cell? ⟨bo, 2, none⟩ = some (.int .i64 om) := by rw [HBO11.out.cell]; rfl
            clear F11 C11 hP1 H5 a5 HBO10 HX10 HXL4 HTL4 HT10 HH4 HLB4
            generalize (s.text om).2 = s1 at *
            go_wp2_with fail
            (refine (into_any om 5 w11 (by omega) (by omega) hom).mono ?_; rintro e w' ⟨rfl, hww⟩; rw [← hww]; clear hww w')
            go_wp2_with fail
            (refine (rdraw_any pb rv RT s1 (om % 5) w11 HH5.out.R).mono ?_; rintro e w12 ⟨y, rfl, Y12, hy12, R12, C12⟩)
            have hn12 : ¬ bo = pb := fun e => by have h1 := HH5.out.lR bo (.inl e); have h2 := HLB5.out; omega
            have HBO12 := Lib.hid (HBO11.out.kept C12 hn12)
            obtain ⟨lab6, H6, a6, n6⟩ := HH5.out.read R12 C12 6
            have hyl6 : ∀ q, y.ownBlock = some q → lab6 q = 6 := fun q hq => n6 q (hy12 q hq)
            have HLB6 := Lib.hid ((a6 bo HBO11.out.lt).trans HLB5.out)
            have HH6 := Lib.hid H6
            have HY12 := Lib.hid Y12
            have HYL6 := Lib.hid hyl6
            obtain ⟨ya1, yc1, rfl, _⟩ := Y12.form
            have c212 : w12.cell? ⟨bo, 2, none⟩ = some (.int .i64 om) := by rw [HBO12.out.cell]; rfl
            have hrl := RS.raw_len s1 (om % 5)
            have hrl2 := RS.raw_l s1 (om % 5)
            have HSLT := Lib.hid (hrl2.trans HTL2.out)
            have hsl1 := HTL2.out
            have hrlb : (s1.raw (om % 5)).1.length ≤ 2000000 := by rw [hsl1] at hrl; omega
            clear Y12 hy12 R12 C12 hn12 a6 n6 H6 hyl6 c211 HBO11 HH5 HLB5 hrl hrl2 hsl1
            go_wp2_with fail
            (refine (into_any om 5 w12 (by omega) (by omega) hom).mono ?_; rintro e w' ⟨rfl, hww⟩; rw [← hww]; clear hww w')
            go_wp2_with fail
            (refine (eraw_any eb _ 56 s1 (om % 5) w12 HH6.out.E).mono ?_; rintro e w13 ⟨z, rfl, Z13, hz, E13, C13⟩)
            have hn13 : ∀ q, lab6 q ≠ 4 → ¬ q = eb := fun q hq e => hq (by rw [e]; exact HH6.out.lE)
            have HY13 := Lib.hid (HY12.out.kept C13 (fun q hq => hn13 q (by have := HYL6.out q hq; omega)))
            obtain ⟨lab7, H7, a7, n7⟩ := HH6.out.eye E13 C13 7
            have hyl7 : ∀ q, (Value.slice ya1 (s1.raw (om % 5)).1.length yc1).ownBlock = some q → lab7 q = 6 := fun q hq => (a7 q (HY12.out.lt q hq)).trans (HYL6.out q hq)
            have hzl7 : ∀ q, rdb z = some q → lab7 q = 7 := fun q hq => n7 q (hz q (rdb_own hq))
            have HH7 := Lib.hid H7
            have HYL7 := Lib.hid hyl7
            have HZL7 := Lib.hid hzl7
            have HZ13 := Lib.hid (Own.rd Z13)
            obtain ⟨za1, zc1, rfl, _⟩ := Z13.form
            clear Z13 hz E13 C13 hn13 a7 n7 H7 hyl7 hzl7 c212 HBO12 HH6 HLB6 HY12 HYL6
            go_wp2_with fail
            (refine (addF_any _ _ (s1.raw (om % 5)).1 w13 HH7.out.F HY13.out HZ13.out (fun q hq => ⟨fun e => by have h1 := HYL7.out q hq; have h2 := HH7.out.lP q e; omega, fun e => by have h1 := HYL7.out q hq; have h2 := HH7.out.lO q e; omega, HH7.out.ge (by have h1 := HYL7.out q hq; omega)⟩) (fun q hq e => by have h1 := HZL7.out q hq; have h2 := HH7.out.lP q e; omega) (by omega) (by omega) HH7.out.ch.size).mono ?_; rintro e w14 ⟨rfl, P2, F14, C14, hP2⟩)
            obtain ⟨lab8, H8, _⟩ := HH7.out.book (Value.slice ya1 (s1.raw (om % 5)).1.length yc1).ownBlock F14 (C14.mono fun _ _ e => .inr e) (fun q hq => by have := HYL7.out q hq; omega) (fun b hb => .inl hb) (fun b hb => .inr (hP2 b hb))
            have HH8 := Lib.hid H8
            clear F14 C14 hP2 H8 HY13 HYL7 HZL7 HZ13 HH7
            generalize (s1.raw (om % 5)).2 = s2 at *
            go_wp2_with fail
            go_loopw [15] (fun s15 wr => ∃ (j : Nat) (P : Nat → Prop) (lab : Nat → Nat), j ≤ 2 ∧ s15 = .int .i64 (j : Int) ∧
                St W wr #[.slice ia ls0.length ic, i1, .slice (some ⟨b, off, none⟩) ops.length oc] bk lk pw pb eb T RT 56 rv (.slice ia ls0.length ic) v' (.slice ha2 L.length hcap2) L s2 s2 O P (4 * k + 1 + 1 + j) lab) (fun s15 _ => 2 - (intOf s15).toNat)
            case atStart => exact ⟨0, P2, lab8, by omega, rfl, HH8.out⟩
            case round =>
              clear HH8
              obtain ⟨j, P3, lab9, hj, rfl, H9⟩ := hrel
              have HH9 := Lib.hid H9
              clear H9
              by_cases hj2 : j < 2
              · have hqj : decide ((j : Int) < 2) = true := by simp; omega
                go_wp2_with fail
                (refine (out_any pw v' T L wr HH9.out.A.wr (by omega)).mono ?_; rintro e wc ⟨rfl, OZ, CZ, SZ⟩)
                obtain ⟨labc, Hc, ac, nc⟩ := HH9.out.fresh CZ 6
                have hzl : ∀ q, (Value.slice (some ⟨wr.heap.size, 0, none⟩) L.length L.length).ownBlock = some q → labc q = 6 := fun q hq => nc q (by simp [Value.ownBlock] at hq; omega)
                have HHc := Lib.hid Hc
                have HZL := Lib.hid hzl
                have HOZ := Lib.hid OZ
                clear OZ CZ SZ Hc ac nc hzl HH9
                go_wp2_with fail
                (refine (addF_any _ _ L wc HHc.out.F HOZ.out (Own.rd HHc.out.A.held) (fun q hq => ⟨fun e => by have h1 := HZL.out q hq; have h2 := HHc.out.lP q e; omega, fun e => by have h1 := HZL.out q hq; have h2 := HHc.out.lO q e; omega, HHc.out.ge (by have h1 := HZL.out q hq; omega)⟩) (fun q hq e => by have h1 := HHc.out.lA q (.inr (.inr (rdb_own hq))); have h2 := HHc.out.lP q e; omega) (by omega) (by omega) HHc.out.ch.size).mono ?_; rintro e wd ⟨rfl, P4, Fd, Cd, hP4⟩)
                obtain ⟨labd, Hd, _⟩ := HHc.out.book (Value.slice (some ⟨wr.heap.size, 0, none⟩) L.length L.length).ownBlock Fd (Cd.mono fun _ _ e => .inr e) (fun q hq => by have := HZL.out q hq; omega) (fun b hb => .inl hb) (fun b hb => .inr (hP4 b hb))
                have HHd := Lib.hid Hd
                clear Fd Cd hP4 Hd HZL HOZ HHc
                go_wp2_with fail
                go_roundw
                case rel => exact ⟨j + 1, P4, labd, by omega, by go_num, HHd.out.more (by omega)⟩
                case measure => simp [intOf]; omega
              · have hqj : decide ((j : Int) < 2) = false := by simp; omega
                have HHT := Lib.hid (HH9.out.more (show 4 * k + 1 + 1 + j ≤ 4 * (k + 1) by omega))
                clear HH9
                go_wp2_with fail
                have K6 := HHT.out.F
                (refine (settleF_any 6 _ K6 (by omega) (by omega) HHT.out.ch.size).mono ?_; rintro e wa ⟨rfl, Oa, Pa, Fa, Ca, hOa, hPa⟩)
                obtain ⟨laba, Ha, _⟩ := HHT.out.book none Fa Ca (fun _ e => by cases e) (fun b hb => (hOa b hb).elim .inl fun e => e.elim (fun e => .inr (.inl e)) fun e => .inr (.inr (.inr e))) (fun b hb => .inr (.inl (hPa b hb)))
                have HHa := Lib.hid Ha
                clear K6 Fa Ca hOa hPa Ha HHT
                go_wp2_with fail
                (refine (lookF_any wa HHa.out.F (by omega) HHa.out.ch.size).mono ?_; rintro e wb ⟨rfl, Ob, Fb, Cb, hOb⟩)
                obtain ⟨labb, Hb, _⟩ := HHa.out.book none Fb (Cb.mono fun _ _ e => .inl e) (fun _ e => by cases e) (fun b hb => (hOb b hb).elim .inl fun e => .inr (.inr (.inr e))) (fun b hb => .inr (.inl hb))
                have HHb := Lib.hid Hb
                clear Fb Cb hOb Hb HHa
                go_wp2_with fail
                go_roundw
                case rel => exact ⟨k + 1, _, L, _, _, _, labb, by omega, by omega, by go_num, HHb.out, HLEN2.out, HSLT.out⟩
                case measure => simp [intOf]; omega
          · have hq6 : (ok == 6) = false := beq_eq_false_iff_ne.2 h6
            have HHT := Lib.hid (HH2.out.more (show 4 * k ≤ 4 * (k + 1) by omega))
            have HSLT := HSL
            clear HH2 HBO8 HLB2
            go_wp2_with fail

            have K6 := HHT.out.F
            (refine (settleF_any 6 _ K6 (by omega) (by omega) HHT.out.ch.size).mono ?_; rintro e wa ⟨rfl, Oa, Pa, Fa, Ca, hOa, hPa⟩)
            obtain ⟨laba, Ha, _⟩ := HHT.out.book none Fa Ca (fun _ e => by cases e) (fun b hb => (hOa b hb).elim .inl fun e => e.elim (fun e => .inr (.inl e)) fun e => .inr (.inr (.inr e))) (fun b hb => .inr (.inl (hPa b hb)))
            have HHa := Lib.hid Ha
            clear K6 Fa Ca hOa hPa Ha HHT
            go_wp2_with fail
            (refine (lookF_any wa HHa.out.F (by omega) HHa.out.ch.size).mono ?_; rintro e wb ⟨rfl, Ob, Fb, Cb, hOb⟩)
            obtain ⟨labb, Hb, _⟩ := HHa.out.book none Fb (Cb.mono fun _ _ e => .inl e) (fun _ e => by cases e) (fun b hb => (hOb b hb).elim .inl fun e => .inr (.inr (.inr e))) (fun b hb => .inr (.inl hb))
            have HHb := Lib.hid Hb
            clear Fb Cb hOb Hb HHa
            go_wp2_with fail
            go_roundw
            case rel => exact ⟨k + 1, _, L, _, _, _, labb, by omega, by omega, by go_num, HHb.out, HLEN2.out, HSLT.out⟩
            case measure => simp [intOf]; omega
      · have hq2 : decide ((k : Int) < 400) = false := by simp; omega
        go_wp2_with fail
        have K6 := HH.out.F
        (refine (settleF_any 0 wr K6 (by omega) (by omega) HH.out.ch.size).mono ?_; rintro e wa ⟨rfl, Oa, Pa, Fa, Ca, hOa, hPa⟩)
        obtain ⟨laba, Ha, _⟩ := HH.out.book none Fa Ca (fun _ e => by cases e) (fun b hb => (hOa b hb).elim .inl fun e => e.elim (fun e => .inr (.inl e)) fun e => .inr (.inr (.inr e))) (fun b hb => .inr (.inl (hPa b hb)))
        have HHa := Lib.hid Ha
        clear K6 Fa Ca hOa hPa Ha HH
        go_wp2_with fail
        (refine (out_any pw v T l wa HHa.out.A.wr (by omega)).mono ?_; rintro e wc ⟨rfl, OZ, CZ, SZ⟩)
        have HZ := Lib.hid (Own.rd OZ)
        have HL := Lib.hid (HHa.out.A.held.kept CZ (fun _ _ => id))
        have HCE := Lib.hid (HHa.out.ch.trans CZ (fun _ _ h => h))
        clear OZ CZ SZ HHa
        go_wp2_with fail
        (refine (eq_self_any _ _ l wc HZ.out (Own.rd HL.out) (by omega)).mono ?_; rintro e wd ⟨rfl, hd⟩)
        have HCF := Lib.hid (HCE.out.trans (hd.chg (fun _ => False)) (fun _ _ h => h))
        clear hd
        go_wp2_with fail
        go_ret
        exact ⟨rfl, HCF.out⟩
    · have hq1 : decide ((k : Int) < (ops.length : Int)) = false := by simp; omega
      go_wp2_with fail
      have K6 := HH.out.F
      (refine (settleF_any 0 wr K6 (by omega) (by omega) HH.out.ch.size).mono ?_; rintro e wa ⟨rfl, Oa, Pa, Fa, Ca, hOa, hPa⟩)
      obtain ⟨laba, Ha, _⟩ := HH.out.book none Fa Ca (fun _ e => by cases e) (fun b hb => (hOa b hb).elim .inl fun e => e.elim (fun e => .inr (.inl e)) fun e => .inr (.inr (.inr e))) (fun b hb => .inr (.inl (hPa b hb)))
      have HHa := Lib.hid Ha
      clear K6 Fa Ca hOa hPa Ha HH
      go_wp2_with fail
      (refine (out_any pw v T l wa HHa.out.A.wr (by omega)).mono ?_; rintro e wc ⟨rfl, OZ, CZ, SZ⟩)
      have HZ := Lib.hid (Own.rd OZ)
      have HL := Lib.hid (HHa.out.A.held.kept CZ (fun _ _ => id))
      have HCE := Lib.hid (HHa.out.ch.trans CZ (fun _ _ h => h))
      clear OZ CZ SZ HHa
      go_wp2_with fail
      (refine (eq_self_any _ _ l wc HZ.out (Own.rd HL.out) (by omega)).mono ?_; rintro e wd ⟨rfl, hd⟩)
      have HCF := Lib.hid (HCE.out.trans (hd.chg (fun _ => False)) (fun _ _ h => h))
      clear hd
      go_wp2_with fail
      go_ret
      exact ⟨rfl, HCF.out⟩
end Go.Proofs.Ytnfmeaifbankjaa
