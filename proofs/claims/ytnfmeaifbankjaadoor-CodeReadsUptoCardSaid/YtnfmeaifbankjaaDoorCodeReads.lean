import Derived.Test.YtnfmeaifbankjaaDoorPairs
set_option linter.unusedVariables false
namespace Go.Proofs.YtnfmeaifbankjaaDoor
open Go Go.RowKit Go.Sat

def ptrV (b : Nat) : Value := .pointer (some ⟨b, 0, none⟩)
/-- What stands between the rounds of the statement's first loop. -/
structure Mid (W w : World) (k : Nat) (P : Nat → Pt) (s : Nat → RS) (lab : Nat → Nat) (i0 i1 vo c0 c1 d0 d1 : Value) : Prop where
  prs : Pairs W w k P s lab
  box : Blk w W.heap.size 26 #[i0, i1, vo]
  ra : Blk w (W.heap.size + 1) 28 #[c0, c1]
  ea : Blk w (W.heap.size + 1 + 1) 30 #[d0, d1]
  l0 : lab W.heap.size = 0
  l1 : lab (W.heap.size + 1) = 0
  l2 : lab (W.heap.size + 1 + 1) = 0
  f0 : 0 < k → c0 = ptrV (P 0).pb ∧ d0 = ptrV (P 0).eb
  f1 : 1 < k → c1 = ptrV (P 1).pb ∧ d1 = ptrV (P 1).eb

set_option maxRecDepth 100000 in
set_option maxHeartbeats 1600000 in
theorem codeReads_walk (i0 i1 vo : Value) (ls0 ls1 : List UInt8) (ops : List OpV) (W : World) (hr0 : Rd W i0 ls0) (hr1 : Rd W i1 ls1) (hb0 : ls0.length ≤ 2000000) (hb1 : ls1.length ≤ 2000000) (hops : RdOps W vo ops) (hT : Errnos W) :
    Calls Tryd.prog 3 #[.agg #[i0, i1, vo]] W fun e w' => e = .returned (.bool true) ∧ Chg (fun _ => False) W w' := by
  obtain ⟨ia0, ic0, rfl, _⟩ := hr0.form
  obtain ⟨ia1, ic1, rfl, _⟩ := hr1.form
  obtain ⟨oa, oc, rfl⟩ := hops.form
  go_enter Tryd.func3, Tryd.ntmps3
  go_wp2_with fail
  have B0 := ((Blk.new W 26 #[.slice ia0 ls0.length ic0, .slice ia1 ls1.length ic1, .slice oa ops.length oc]).alloc (.cells #[.pointer none, .pointer none] 28)).alloc (.cells #[.pointer none, .pointer none] 30)
  have B1 := (Blk.new (W.alloc (.cells #[.slice ia0 ls0.length ic0, .slice ia1 ls1.length ic1, .slice oa ops.length oc] 26)) 28 #[.pointer none, .pointer none]).alloc (.cells #[.pointer none, .pointer none] 30)
  have B2 := Blk.new ((W.alloc (.cells #[.slice ia0 ls0.length ic0, .slice ia1 ls1.length ic1, .slice oa ops.length oc] 26)).alloc (.cells #[.pointer none, .pointer none] 28)) 30 #[.pointer none, .pointer none]
  simp only [World.size_alloc] at B1 B2
  have C0 := (((Chg.refl (fun _ => False) W).alloc (.cells #[.slice ia0 ls0.length ic0, .slice ia1 ls1.length ic1, .slice oa ops.length oc] 26)).alloc (.cells #[.pointer none, .pointer none] 28)).alloc (.cells #[.pointer none, .pointer none] 30)
  generalize ((W.alloc (.cells #[.slice ia0 ls0.length ic0, .slice ia1 ls1.length ic1, .slice oa ops.length oc] 26)).alloc (.cells #[.pointer none, .pointer none] 28)).alloc (.cells #[.pointer none, .pointer none] 30) = w0 at *
  go_loopw [5] (fun i wr => ∃ (k : Nat) (P : Nat → Pt) (s : Nat → RS) (lab : Nat → Nat) (c0 c1 d0 d1 : Value), k ≤ 2 ∧ i = .int .i64 k ∧
      Mid W wr k P s lab (.slice ia0 ls0.length ic0) (.slice ia1 ls1.length ic1) (.slice oa ops.length oc) c0 c1 d0 d1) (fun i _ => 2 - (intOf i).toNat)
  case atStart =>
    exact ⟨0, fun _ => ⟨0, .pointer none, 0, 0, .pointer none, 0⟩, fun _ => ⟨[], 0, 0⟩, fun _ => 0, _, _, _, _, by omega, rfl, ⟨⟨fun i hi => by omega, fun i hi => by omega, fun i hi => by omega, fun _ _ => rfl, C0, by omega, hT⟩, B0, B1, B2, rfl, rfl, rfl, fun h => by omega, fun h => by omega⟩⟩
  case round =>
    obtain ⟨k, P, s, lab, c0, c1, d0, d1, hk, rfl, M⟩ := hrel
    by_cases hlt : k < 2
    · obtain ⟨x, l, hx, hl, hrd, hsel⟩ : ∃ x l, (x = Value.slice ia0 ls0.length ic0 ∧ k = 0 ∨ x = Value.slice ia1 ls1.length ic1 ∧ k = 1) ∧ l.length ≤ 2000000 ∧ Rd W x l ∧ wr.cell? ⟨W.heap.size, k, none⟩ = some x := by
        rcases (by omega : k = 0 ∨ k = 1) with rfl | rfl
        · exact ⟨_, ls0, .inl ⟨rfl, rfl⟩, hb0, hr0, M.box.cell 0⟩
        · exact ⟨_, ls1, .inr ⟨rfl, rfl⟩, hb1, hr1, M.box.cell 1⟩
      obtain ⟨xa, xc, rfl, _⟩ := hrd.form
      have hrdr := hrd.kept M.prs.ch (fun _ _ => id)
      have hWr := M.prs.ch.size
      have hx1 := M.ea.lt
      have HX := Lib.hid hx
      clear hx
      go_wp2_with fail
      refine (lend_any _ l _ hrdr (by omega)).mono ?_
      rintro e w1 ⟨g, cap, rfl, L1, hc1, hg⟩
      go_wp2_with fail
      refine (read_any _ l _ L1.rd (by omega)).mono ?_
      rintro e w2 ⟨pb, v, T, rfl, R2, hc2, hpb, hrv⟩
      have A2 := (M.ra.kept hc1 id).kept hc2 id
      have hs1 := hc1.size
      have hs2 := hc2.size
      have hgl := L1.own.lt g rfl
      have hpblt := R2.blk.lt
      have z1 : ∃ z, w2.cell? ⟨W.heap.size + 1, k, none⟩ = some z := by
        rcases (by omega : k = 0 ∨ k = 1) with rfl | rfl
        · exact ⟨c0, A2.cell 0⟩
        · exact ⟨c1, A2.cell 1⟩
      obtain ⟨z1, hz1⟩ := z1
      have fz1 := A2.free k
      have c12 := hc1.trans hc2 fun _ _ h => h
      have kx : w2.cell? ⟨W.heap.size, k, none⟩ = some (.slice xa l.length xc) := by rw [c12.cell (p := ⟨W.heap.size, k, none⟩) M.box.lt id]; exact hsel
      go_wp2_with fail
      have c3 := setCell_chg w2 ⟨W.heap.size + 1, k, none⟩ (ptrV pb)
      have A3 := A2.set k (ptrV pb)
      have c03 : Chg (fun z => z = W.heap.size + 1 ∨ z = W.heap.size + 1 + 1) wr (w2.setCell ⟨W.heap.size + 1, k, none⟩ (ptrV pb)) := (c12.mono fun _ _ h => h.elim).trans c3 fun _ _ h => .inl h
      have hrd3 := hrd.kept (M.prs.ch.trans c03 fun q hq h => by omega) (fun _ _ => id)
      have hs3 := c03.size
      have R3 := R2.kept c3 (by show ¬ pb = W.heap.size + 1; omega) (fun z hz e => by have := hrv z hz; have e : z = W.heap.size + 1 := e; omega)
      have L3 : Lent (w2.setCell ⟨W.heap.size + 1, k, none⟩ (ptrV pb)) g cap l := ⟨(L1.own.kept hc2 (fun _ _ => id)).kept c3 (fun z hz e => by simp [Value.ownBlock] at hz; have e : z = W.heap.size + 1 := e; omega)⟩
      have E3 := (M.ea.kept c12 id).kept c3 (by show ¬ W.heap.size + 1 + 1 = W.heap.size + 1; omega)
      have X3 := (M.box.kept c12 id).kept c3 (by show ¬ W.heap.size = W.heap.size + 1; omega)
      have hpb3 : pb < (w2.setCell ⟨W.heap.size + 1, k, none⟩ (ptrV pb)).heap.size := R3.blk.lt
      have hrv3 : ∀ z, rdb v = some z → z < (w2.setCell ⟨W.heap.size + 1, k, none⟩ (ptrV pb)).heap.size := fun z hz => Rd.lt R3.rd hz
      have hg3 : g < (w2.setCell ⟨W.heap.size + 1, k, none⟩ (ptrV pb)).heap.size := L3.own.lt g rfl
      show Calls _ _ _ (w2.setCell ⟨W.heap.size + 1, k, none⟩ (ptrV pb)) _
      generalize w2.setCell ⟨W.heap.size + 1, k, none⟩ (ptrV pb) = w3 at *
      clear hz1 fz1 kx c3 hc2 A2 R2 hs2
      refine (copy_any _ l _ hrd3 (by omega)).mono ?_
      rintro e w4 ⟨rfl, O4, c4, hs4⟩
      have E4 := E3.kept c4 id
      have hz2 : ∃ z, w4.cell? ⟨W.heap.size + 1 + 1, k, none⟩ = some z := by
        rcases (by omega : k = 0 ∨ k = 1) with rfl | rfl
        · exact ⟨d0, E4.cell 0⟩
        · exact ⟨d1, E4.cell 1⟩
      obtain ⟨z2, hz2⟩ := hz2
      have fz2 := E4.free k
      have kA : w4.cell? ⟨W.heap.size + 1, k, none⟩ = some (ptrV pb) := by
        rw [(A3.kept c4 id).cell]
        rcases (by omega : k = 0 ∨ k = 1) with rfl | rfl <;> rfl
      have kx : w4.cell? ⟨W.heap.size, k, none⟩ = some (.slice xa l.length xc) := by
        rw [c4.cell (p := ⟨W.heap.size, k, none⟩) X3.lt id, X3.cell]
        rcases HX.out with ⟨e, rfl⟩ | ⟨e, rfl⟩ <;> rw [e] <;> rfl
      unfold ptrV at kA
      have hlt2 : W.heap.size + 1 + 1 < w4.heap.size := by omega
      have hlt1 : W.heap.size + 1 < w4.heap.size := by omega
      have hlt0 : W.heap.size < w4.heap.size := by omega
      have c5 := setCell_chg w4 ⟨W.heap.size + 1 + 1, k, none⟩ (ptrV w4.heap.size)
      have c6 := (Chg.refl (fun _ => False) (w4.setCell ⟨W.heap.size + 1 + 1, k, none⟩ (ptrV w4.heap.size))).alloc (.cells #[.slice (some ⟨w3.heap.size, 0, none⟩) l.length l.length, .int .i64 0, .int .i64 0] 34)
      have O5 := O4.kept c5 (fun z hz e => by simp [Value.ownBlock] at hz; have e : z = W.heap.size + 1 + 1 := e; omega)
      have EY := newEye (w1 := w4) O5 (by omega)
      simp only [World.size_setCell] at EY
      have c56 : Chg (fun z => z = W.heap.size + 1 + 1) w4 ((w4.setCell ⟨W.heap.size + 1 + 1, k, none⟩ (ptrV w4.heap.size)).alloc (.cells #[.slice (some ⟨w3.heap.size, 0, none⟩) l.length l.length, .int .i64 0, .int .i64 0] 34)) := c5.trans c6 fun _ _ h => h.elim
      have L6 : Lent ((w4.setCell ⟨W.heap.size + 1 + 1, k, none⟩ (ptrV w4.heap.size)).alloc (.cells #[.slice (some ⟨w3.heap.size, 0, none⟩) l.length l.length, .int .i64 0, .int .i64 0] 34)) g cap l := ⟨(L3.own.kept c4 (fun _ _ => id)).kept c56 (fun z hz e => by simp [Value.ownBlock] at hz; have e : z = W.heap.size + 1 + 1 := e; omega)⟩
      have R6 := (R3.kept c4 id (fun _ _ => id)).kept c56 (by show ¬ pb = W.heap.size + 1 + 1; omega) (fun z hz e => by have := hrv z hz; have e : z = W.heap.size + 1 + 1 := e; omega)
      have A6 := (A3.kept c4 id).kept c56 (by show ¬ W.heap.size + 1 = W.heap.size + 1 + 1; omega)
      have X6 := (X3.kept c4 id).kept c56 (by show ¬ W.heap.size = W.heap.size + 1 + 1; omega)
      have E6 := ((E4.set k (ptrV w4.heap.size))).alloc (.cells #[.slice (some ⟨w3.heap.size, 0, none⟩) l.length l.length, .int .i64 0, .int .i64 0] 34)
      have c06 : Chg (fun z => z = W.heap.size + 1 ∨ z = W.heap.size + 1 + 1) wr ((w4.setCell ⟨W.heap.size + 1 + 1, k, none⟩ (ptrV w4.heap.size)).alloc (.cells #[.slice (some ⟨w3.heap.size, 0, none⟩) l.length l.length, .int .i64 0, .int .i64 0] 34)) := (c03.trans c4 fun _ _ h => h.elim).trans c56 fun _ _ h => .inr h
      have hrd6 := hrd.kept (M.prs.ch.trans c06 fun q hq h => by omega) (fun _ _ => id)
      go_wp2_with fail
      show Calls _ _ _ ((w4.setCell ⟨W.heap.size + 1 + 1, k, none⟩ (ptrV w4.heap.size)).alloc (.cells #[.slice (some ⟨w3.heap.size, 0, none⟩) l.length l.length, .int .i64 0, .int .i64 0] 34)) _
      have hs6 := c6.size
      simp only [World.size_setCell] at hs6
      generalize (w4.setCell ⟨W.heap.size + 1 + 1, k, none⟩ (ptrV w4.heap.size)).alloc (.cells #[.slice (some ⟨w3.heap.size, 0, none⟩) l.length l.length, .int .i64 0, .int .i64 0] 34) = w6 at *
      clear c5 c6 c56 hz2 fz2 kA kx O4 O5 E4
      have hpair : Pair w6 pb v T w4.heap.size (.slice (some ⟨w3.heap.size, 0, none⟩) l.length l.length) 34 ⟨l, 0, 0⟩ := by
        refine ⟨R6, EY, by omega, fun z hz e => ?_, fun z hz e => ?_, ⟨by omega, by omega⟩, ?_⟩
        · have := hrv3 z hz; omega
        · have h1 := rdb_own hz
          simp [Value.ownBlock] at h1; omega
        · exact M.prs.tab.kept (M.prs.ch.trans c06 fun q hq h => by omega) id
      refine (intact_any g cap _ l _ L6 hrd6 (by omega)).mono ?_
      rintro e w' ⟨rfl, rfl⟩
      go_wp2_with fail
      go_loopw [7] (fun i wr7 => ∃ (j : Nat) (xs : List Value), j ≤ l.length ∧ i = .int .i64 j ∧ Own wr7 5 1 (.slice (some ⟨g, 0, none⟩) (l.length + 3) cap) (l.length + 3) xs ∧ Chg (fun z => z = g) w6 wr7) (fun i _ => l.length - (intOf i).toNat)
      case atStart => exact ⟨0, _, Nat.zero_le _, rfl, L6.own, Chg.refl _ _⟩
      case round =>
        obtain ⟨j, xs, hj, rfl, ho, hcr⟩ := hrel
        by_cases hlt2 : j < l.length
        · obtain ⟨ho1, hf, hcell⟩ := ho.store (i := j) (by omega) (.int .u8 238)
          have hxl := ho.1
          rw [List.getElem?_eq_getElem (by omega)] at hcell
          go_wp2_with fail
          go_roundw
          case rel => exact ⟨j + 1, _, by omega, by go_num, ho1, hcr.setCell (.inr rfl) _⟩
          case measure => simp [intOf]; omega
        · have hpair7 : Pair wr pb v T w4.heap.size (.slice (some ⟨w3.heap.size, 0, none⟩) l.length l.length) 34 ⟨l, 0, 0⟩ := hpair.kept hcr fun z hz e => by
            have e : z = g := e
            subst e
            rcases hz with h | h | h | h | h
            · omega
            · omega
            · omega
            · have := hrv _ h; omega
            · have h1 := rdb_own h
              simp [Value.ownBlock] at h1; omega
          have A7 := A6.kept hcr (by show ¬ W.heap.size + 1 = g; omega)
          have X7 := X6.kept hcr (by show ¬ W.heap.size = g; omega)
          have E7 := E6.kept hcr (by show ¬ W.heap.size + 1 + 1 = g; omega)
          have kA : wr.cell? ⟨W.heap.size + 1, k, none⟩ = some (ptrV pb) := by
            rw [A7.cell]
            rcases (by omega : k = 0 ∨ k = 1) with rfl | rfl <;> rfl
          have kx : wr.cell? ⟨W.heap.size, k, none⟩ = some (.slice xa l.length xc) := by
            rw [X7.cell]
            rcases HX.out with ⟨e, rfl⟩ | ⟨e, rfl⟩ <;> rw [e] <;> rfl
          unfold ptrV at kA
          go_wp2_with fail
          refine wp_region_pin (fun _ => false) [7] [4] (Same (fun _ => False) wr) mixed (by kernel_rfl) (fun _ _ h e => h.ext e) (Same.refl _ _).drew ?_
          simp only [wpSegs, List.take_succ_cons, List.take_zero, List.drop_succ_cons, List.drop_zero]
          go_wp2_with fail
          refine (rleft_any pb v T met ⟨l, 0, 0⟩ _ (hpair7.r.calm ((Chg.refl _ _).drew))).mono ?_
          rintro e w8 ⟨rfl, hd8⟩
          have c8 : Chg (fun _ => False) wr w8 := ((Chg.refl _ wr).drew).trans (hd8.chg (fun _ => False)) fun _ _ h => h
          have kx8 : w8.cell? ⟨W.heap.size, k, none⟩ = some (.slice xa l.length xc) := by rw [c8.cell (p := ⟨W.heap.size, k, none⟩) X7.lt id]; exact kx
          have hleft : (RS.mk l 0 0).left = l.length := by simp [RS.left]
          rw [hleft]
          go_wp2_with fail
          refine SegQ.normal ⟨fun z o h _ => c8.keep h id, ?_⟩
          go_wp2_with fail
          refine TQ.normal (by kernel_rfl) ⟨⟨PinAt.cell rfl rfl rfl kx id (fun X h => by go_simp), trivial⟩, ?_⟩
          go_wp2_with fail
          have cF := (c06.trans hcr (T := fun z => z = g) fun q hq h => by omega).trans c8 fun _ _ h => h.elim
          have l0 := M.l0
          have l1 := M.l1
          have l2 := M.l2
          have Q := M.prs.add (by omega) ⟨pb, v, T, w4.heap.size, .slice (some ⟨w3.heap.size, 0, none⟩) l.length l.length, 34⟩ ⟨l, 0, 0⟩ (hpair7.calm c8) (cF.mono fun z _ hz => by
            rcases hz with rfl | rfl
            · exact ⟨l1, by omega⟩
            · exact ⟨l2, by omega⟩) (by show _ ≤ pb; omega) (by show _ ≤ w4.heap.size; omega) (fun z hz => by have := hrv z hz; omega) (fun z hz => by
            have h1 := rdb_own hz
            simp [Value.ownBlock] at h1; omega)
          have hbx := M.box.lt
          have f0 := M.f0
          have f1 := M.f1
          rcases (by omega : k = 0 ∨ k = 1) with rfl | rfl
          · go_roundw
            case rel => exact ⟨1, _, _, _, ptrV pb, c1, ptrV w4.heap.size, d1, by omega, rfl, ⟨Q, X7.kept c8 id, A7.kept c8 id, E7.kept c8 id, by simp [hbx, l0], by simp [M.ra.lt, l1], by simp [M.ea.lt, l2], fun _ => by rw [upd2_self]; exact ⟨rfl, rfl⟩, fun h => by omega⟩⟩
            case measure => simp [intOf]
          · go_roundw
            case rel => exact ⟨2, _, _, _, c0, ptrV pb, d0, ptrV w4.heap.size, by omega, rfl, ⟨Q, X7.kept c8 id, A7.kept c8 id, E7.kept c8 id, by simp [hbx, l0], by simp [M.ra.lt, l1], by simp [M.ea.lt, l2], fun _ => by rw [upd2_other _ _ _ _ (by omega)]; exact f0 (by omega), fun _ => by rw [upd2_self]; exact ⟨rfl, rfl⟩⟩⟩
            case measure => simp [intOf]
    · have hk2 : k = 2 := by omega
      obtain ⟨rfl, rfl⟩ := M.f0 (by omega)
      obtain ⟨rfl, rfl⟩ := M.f1 (by omega)
      have M2 := M
      rw [hk2] at M2
      clear hk2 M
      have M := M2
      clear M2
      have cB := M.box.cell 2
      go_wp2_with fail
      go_loopw [8] (fun i wr3 => ∃ (j : Nat) (s : Nat → RS) (lab : Nat → Nat), j ≤ ops.length ∧ j ≤ 400 ∧ i = .int .i64 j ∧
        Mid W wr3 2 P s lab (.slice ia0 ls0.length ic0) (.slice ia1 ls1.length ic1) (.slice oa ops.length oc) (ptrV (P 0).pb) (ptrV (P 1).pb) (ptrV (P 0).eb) (ptrV (P 1).eb)) (fun i _ => 400 - (intOf i).toNat)
      case atStart => exact ⟨0, s, lab, Nat.zero_le _, Nat.zero_le _, rfl, M⟩
      case round =>
        clear M cB s lab
        obtain ⟨j, s, lab, hj1, hj2, rfl, M⟩ := hrel
        have cB : wr.cell? ⟨W.heap.size, 2, none⟩ = some (.slice oa ops.length oc) := M.box.cell 2
        have a0 : wr.cell? ⟨W.heap.size + 1, 0, none⟩ = some (.pointer (some ⟨(P 0).pb, 0, none⟩)) := M.ra.cell 0
        have a1 : wr.cell? ⟨W.heap.size + 1, 1, none⟩ = some (.pointer (some ⟨(P 1).pb, 0, none⟩)) := M.ra.cell 1
        have q0 : wr.cell? ⟨W.heap.size + 1 + 1, 0, none⟩ = some (.pointer (some ⟨(P 0).eb, 0, none⟩)) := M.ea.cell 0
        have q1 : wr.cell? ⟨W.heap.size + 1 + 1, 1, none⟩ = some (.pointer (some ⟨(P 1).eb, 0, none⟩)) := M.ea.cell 1
        have hx0 := M.box.lt
        have hx1 := M.ra.lt
        have hx2 := M.ea.lt
        by_cases hlt : j < ops.length ∧ j < 400
        · obtain ⟨hl1, hl2⟩ := hlt
          rcases hops.2 with ⟨h, _⟩ | ⟨b, off, c, hpv, hb, hcell⟩
          · rw [h] at hl1; simp at hl1
          injection hpv with e1 e2 e3
          subst e1 e3
          have ho := hops.1 ops[j] (List.getElem_mem _)
          have hcell := hcell j hl1
          generalize ops[j] = o at *
          obtain ⟨ok, owh, om, on, ox, ob⟩ := o
          obtain ⟨xa, xc, hx, _⟩ := ho.rd.form
          simp only at hx
          subst hx
          have hbw : b < wr.heap.size := by have := M.prs.ch.size; omega
          have cc : ∀ i u, (OpV.cells ⟨ok, owh, om, on, .slice xa ob.length xc, ob⟩)[i]? = some u → wr.cell? ⟨b, off + j * 5 + i, none⟩ = some u := fun i u hu => by
            rw [M.prs.ch.cell (p := ⟨b, off + j * 5 + i, none⟩) hb id]; exact hcell i u hu
          have e0 : wr.cell? ⟨b, off + j * 5, none⟩ = some (.int .i64 ok) := cc 0 _ rfl
          have e1 : wr.cell? ⟨b, off + j * 5 + 1, none⟩ = some (.int .i64 owh) := cc 1 _ rfl
          have e2 : wr.cell? ⟨b, off + j * 5 + 2, none⟩ = some (.int .i64 om) := cc 2 _ rfl
          have e3 : wr.cell? ⟨b, off + j * 5 + 3, none⟩ = some (.int .u64 on) := cc 3 _ rfl
          have e4 : wr.cell? ⟨b, off + j * 5 + 4, none⟩ = some (.slice xa ob.length xc) := cc 4 _ rfl
          have hwh := ho.wh
          have hom := ho.m
          have hon := ho.n
          have HM := Lib.hid M
          clear cc hcell ho M
          go_wp2_with fail
          refine (into_any owh 2 _ (by omega) (by omega) hwh).mono ?_
          rintro e w3 ⟨rfl, rfl⟩
          have h2 : owh % 2 = 0 ∨ owh % 2 = 1 := by omega
          rcases h2 with h2 | h2
          · rw [h2]
            go_wp2_with fail
            have cal := (Chg.refl (fun _ => False) wr).alloc (.cells #[.int .i64 ok, .int .i64 owh, .int .i64 om, .int .u64 on, .slice xa ob.length xc] 39)
            have cald := cal.drew
            have Q0 := HM.out.prs.turn (fun _ _ => rfl) (cald.mono fun z _ hz => hz.elim)
            refine wp_region_text mixed (by kernel_rfl) ?_
            go_wp2_with fail
            refine (reads_any (P 0).pb (P 0).eb (P 0).v (P 0).ev (.slice xa ob.length xc) (P 0).T (P 0).ET (s 0) ok owh om on _ (Q0.pr 0 (by omega)) hom hon).mono ?_
            rintro e w4 ⟨rfl, s', hsl, hp4, hc4⟩
            go_wp2_with fail
            refine TQ.normal (by kernel_rfl) ?_
            go_wp2_with fail
            have Q4 := Q0.step (i := 0) (by omega) hp4 hc4
            have c04 : Chg (fun z => z = (P 0).pb ∨ z = (P 0).eb) wr w4 := (cald.mono fun _ _ h => h.elim).trans hc4 fun _ _ h => h
            have hno : ∀ z, lab z = 0 → ¬ (z = (P 0).pb ∨ z = (P 0).eb) := fun z hz h => by
              have h1 := HM.out.prs.lp 0 (by omega)
              rcases h with rfl | rfl
              · have := h1.1; omega
              · have := h1.2; omega
            go_roundw
            case rel => exact ⟨j + 1, upd2 s 0 s', lab, by omega, by omega, by go_num, ⟨Q4, HM.out.box.kept c04 (hno _ HM.out.l0), HM.out.ra.kept c04 (hno _ HM.out.l1), HM.out.ea.kept c04 (hno _ HM.out.l2), HM.out.l0, HM.out.l1, HM.out.l2, fun _ => ⟨rfl, rfl⟩, fun _ => ⟨rfl, rfl⟩⟩⟩
            case measure => simp [intOf]; omega
          · rw [h2]
            go_wp2_with fail
            have cal := (Chg.refl (fun _ => False) wr).alloc (.cells #[.int .i64 ok, .int .i64 owh, .int .i64 om, .int .u64 on, .slice xa ob.length xc] 39)
            have cald := cal.drew
            have Q0 := HM.out.prs.turn (fun _ _ => rfl) (cald.mono fun z _ hz => hz.elim)
            refine wp_region_text mixed (by kernel_rfl) ?_
            go_wp2_with fail
            refine (reads_any (P 1).pb (P 1).eb (P 1).v (P 1).ev (.slice xa ob.length xc) (P 1).T (P 1).ET (s 1) ok owh om on _ (Q0.pr 1 (by omega)) hom hon).mono ?_
            rintro e w4 ⟨rfl, s', hsl, hp4, hc4⟩
            go_wp2_with fail
            refine TQ.normal (by kernel_rfl) ?_
            go_wp2_with fail
            have Q4 := Q0.step (i := 1) (by omega) hp4 hc4
            have c04 : Chg (fun z => z = (P 1).pb ∨ z = (P 1).eb) wr w4 := (cald.mono fun _ _ h => h.elim).trans hc4 fun _ _ h => h
            have hno : ∀ z, lab z = 0 → ¬ (z = (P 1).pb ∨ z = (P 1).eb) := fun z hz h => by
              have h1 := HM.out.prs.lp 1 (by omega)
              rcases h with rfl | rfl
              · have := h1.1; omega
              · have := h1.2; omega
            go_roundw
            case rel => exact ⟨j + 1, upd2 s 1 s', lab, by omega, by omega, by go_num, ⟨Q4, HM.out.box.kept c04 (hno _ HM.out.l0), HM.out.ra.kept c04 (hno _ HM.out.l1), HM.out.ea.kept c04 (hno _ HM.out.l2), HM.out.l0, HM.out.l1, HM.out.l2, fun _ => ⟨rfl, rfl⟩, fun _ => ⟨rfl, rfl⟩⟩⟩
            case measure => simp [intOf]; omega
        · have HM := Lib.hid M
          have ha := M.prs.pr 0 (by omega)
          have hb := M.prs.pr 1 (by omega)
          have e0p := ha.e.facts.2.1
          have e0b := ha.e.facts.2.2.1
          have HA := Lib.hid ha
          have HB := Lib.hid hb
          clear M ha hb
          rcases (by omega : ¬ j < ops.length ∨ (j < ops.length ∧ ¬ j < 400)) with h1 | ⟨h1, h2⟩
          all_goals
            clear hlt
            go_wp2_with fail
            refine wp_region_pin (fun _ => false) [4, 7, 15, 18, 27] [3, 10, 1, 11, 1] (Same (fun _ => False) wr) mixed (by kernel_rfl) (fun _ _ h e => h.ext e) (Same.refl _ _).drew ?_
            simp only [wpSegs, List.take_succ_cons, List.take_zero, List.drop_succ_cons, List.drop_zero]
            go_wp2_with fail
            have cd : Chg (fun _ => False) wr wr.drew := (Chg.refl _ wr).drew
            refine (rat_any (P 0).pb (P 0).v (P 0).T met (s 0) _ (HA.out.r.calm cd)).mono ?_
            rintro e w1 ⟨rfl, rfl⟩
            go_wp2_with fail
            refine SegQ.normal ⟨(Same.refl _ _).drew, ?_⟩
            go_wp2_with fail
            refine (rfault_any (P 0).pb (P 0).v (P 0).T (s 0) _ (HA.out.r.calm cd) (HA.out.tab.kept cd id)).mono ?_
            rintro e w1 ⟨rfl, rfl⟩
            go_wp2_with fail
            refine SegQ.normal ⟨(Same.refl _ _).drew, ?_⟩
            go_wp2_with fail
            refine (num_any _ _).mono ?_
            rintro e w1 ⟨rfl, rfl⟩
            go_wp2_with fail
            refine SegQ.normal ⟨(Same.refl _ _).drew, ?_⟩
            go_wp2_with fail
            refine (rend_any (P 1).pb (P 1).v (P 1).T (s 1) _ (HB.out.r.calm cd) (HB.out.tab.kept cd id)).mono ?_
            rintro e w1 ⟨rfl, hd1⟩
            have c1 : Chg (fun _ => False) wr w1 := cd.trans (hd1.chg (fun _ => False)) fun _ _ h => h
            have k1 : w1.cell? ⟨W.heap.size + 1 + 1, 1, none⟩ = some (.pointer (some ⟨(P 1).eb, 0, none⟩)) := by rw [c1.cell (p := ⟨W.heap.size + 1 + 1, 1, none⟩) hx2 id]; exact q1
            go_wp2_with fail
            refine SegQ.normal ⟨fun z o h _ => c1.keep h id, ?_⟩
            go_wp2_with fail
            refine (num_any _ _).mono ?_
            rintro e w1' ⟨rfl, rfl⟩
            go_wp2_with fail
            refine SegQ.normal ⟨fun z o h _ => c1.keep h id, ?_⟩
            go_wp2_with fail
            refine (eend_any (P 1).eb (P 1).ev (P 1).ET (s 1) _ (HB.out.e.calm c1)).mono ?_
            rintro e w2 ⟨rfl, hd2⟩
            go_wp2_with fail
            refine TQ.normal (by kernel_rfl) ⟨⟨PinAt.cell rfl rfl rfl q0 id (fun X h => by go_simp), PinAt.cell rfl rfl rfl e0p id (fun X h => by go_simp), PinAt.cell rfl rfl rfl q0 id (fun X h => by go_simp), PinAt.cell rfl rfl rfl e0b id (fun X h => by go_simp), PinAt.cell rfl rfl rfl q1 id (fun X h => by go_simp), trivial⟩, ?_⟩
            go_wp2_with fail
            go_ret
            exact ⟨rfl, (HM.out.prs.ch.trans c1 fun _ _ h => h).trans (hd2.chg (fun _ => False)) fun _ _ h => h⟩
end Go.Proofs.YtnfmeaifbankjaaDoor
