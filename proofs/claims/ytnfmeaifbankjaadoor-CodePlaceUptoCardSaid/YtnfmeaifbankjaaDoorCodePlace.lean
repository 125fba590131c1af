import Derived.Test.YtnfmeaifbankjaaDoorPlaceRead
set_option linter.unusedVariables false
namespace Go.Proofs.YtnfmeaifbankjaaDoor
open Go Go.RowKit Go.Sat
/-- What CodePlace holds while it walks: the argument's box, the lent bytes, the others, the Writer. -/
structure PM (W w : World) (i0 i1 vo : Value) (g cap : Nat) (lg : List UInt8) (v2 : Value) (l2 : List UInt8) (pbw : Nat) (vw : Value) (Tw : TypeId) (lw : List UInt8) : Prop where
  box : Blk w W.heap.size 26 #[i0, i1, vo]
  lent : Lent w g cap lg
  oth : Own w 5 1 v2 l2.length (bcells l2)
  wr : IsW w pbw vw Tw lw
  ch : Chg (fun _ => False) W w
  hg : W.heap.size < g
  h2 : ∀ k, v2.ownBlock = some k → W.heap.size < k ∧ k ≠ g ∧ k ≠ pbw
  hp : W.heap.size < pbw ∧ pbw ≠ g
  hw : ∀ k, vw.ownBlock = some k → W.heap.size < k ∧ k ≠ g ∧ v2.ownBlock ≠ some k
  pos : 0 < W.heap.size
section
variable {W w w1 : World} {i0 i1 vo : Value} {g cap : Nat} {lg : List UInt8} {v2 : Value} {l2 : List UInt8} {pbw : Nat} {vw : Value} {Tw : TypeId} {lw : List UInt8}
theorem PM.calm (h : PM W w i0 i1 vo g cap lg v2 l2 pbw vw Tw lw) (hc : Chg (fun _ => False) w w1) : PM W w1 i0 i1 vo g cap lg v2 l2 pbw vw Tw lw :=
  ⟨h.box.kept hc id, ⟨h.lent.own.kept hc fun _ _ => id⟩, h.oth.kept hc fun _ _ => id, h.wr.kept hc id fun _ _ => id, h.ch.trans hc fun _ _ h => h, h.hg, h.h2, h.hp, h.hw, h.pos⟩
theorem PM.other (h : PM W w i0 i1 vo g cap lg v2 l2 pbw vw Tw lw) {pf : Nat} (hc : Chg (fun k => k = pf) w w1) (hf : W.heap.size < pf ∧ pf ≠ g ∧ pf ≠ pbw ∧ v2.ownBlock ≠ some pf ∧ vw.ownBlock ≠ some pf) : PM W w1 i0 i1 vo g cap lg v2 l2 pbw vw Tw lw :=
  ⟨h.box.kept hc (fun e => by have := hf.1; have e : W.heap.size = pf := e; omega), ⟨h.lent.own.kept hc fun k hk e => by simp [Value.ownBlock] at hk; subst hk; exact hf.2.1 e.symm⟩,
    h.oth.kept hc fun k hk e => hf.2.2.2.1 (by rw [hk]; exact congrArg some e), h.wr.kept hc (fun e => hf.2.2.1 e.symm) fun k hk e => hf.2.2.2.2 (by rw [hk]; exact congrArg some e), h.ch.trans hc fun q hq e => by have := hf.1; omega, h.hg, h.h2, h.hp, h.hw, h.pos⟩
theorem PM.step (h : PM W w i0 i1 vo g cap lg v2 l2 pbw vw Tw lw) {l3 : List UInt8} (hs : WStep w pbw vw Tw lw l3 w1) : ∃ vw', PM W w1 i0 i1 vo g cap lg v2 l2 pbw vw' Tw (lw ++ l3) ∧ Chg (fun k => k = pbw ∨ vw.ownBlock = some k) w w1 ∧ ∀ k, vw'.ownBlock = some k → vw.ownBlock = some k ∨ w.heap.size ≤ k := by
  obtain ⟨vw', iw, hc, hb⟩ := hs
  have hp := h.hp
  have hg := h.hg
  have hgl := h.lent.own.lt g rfl
  refine ⟨vw', ⟨h.box.kept hc fun e => ?_, ⟨h.lent.own.kept hc fun k hk e => ?_⟩, h.oth.kept hc fun k hk e => ?_, iw, h.ch.trans hc fun q hq e => ?_, h.hg, h.h2, h.hp, fun k hk => ?_, h.pos⟩, hc, hb⟩
  · rcases e with e | e
    · have e : W.heap.size = pbw := e; omega
    · have := (h.hw _ e).1; omega
  · simp [Value.ownBlock] at hk; subst hk
    rcases e with e | e
    · exact hp.2 e.symm
    · exact (h.hw _ e).2.1 rfl
  · rcases e with e | e
    · exact (h.h2 k hk).2.2 e
    · exact (h.hw _ e).2.2 hk
  · rcases e with e | e
    · omega
    · have := (h.hw _ e).1; omega
  · rcases hb k hk with e | e
    · exact h.hw k e
    · refine ⟨by have := h.ch.size; have := h.box.lt; omega, by omega, fun e2 => ?_⟩
      have := h.oth.lt k e2
      omega
theorem PM.into (h : PM W w i0 i1 vo g cap lg v2 l2 pbw vw Tw lw) {l3 : List UInt8} (hl : Lent w1 g cap l3) (hc : Chg (fun k => k = g) w w1) : PM W w1 i0 i1 vo g cap l3 v2 l2 pbw vw Tw lw :=
  ⟨h.box.kept hc (fun e => by have := h.hg; have e : W.heap.size = g := e; omega), hl, h.oth.kept hc fun k hk e => (h.h2 k hk).2.1 e, h.wr.kept hc (fun e => h.hp.2 e) fun k hk e => (h.hw k hk).2.1 e, h.ch.trans hc fun q hq e => by have := h.hg; omega, h.hg, h.h2, h.hp, h.hw, h.pos⟩
end
theorem raw_all (l : List UInt8) : ((RS.mk l 0 0).raw (l.length : Int)).1 = l := by
  unfold RS.raw RS.next
  simp [RS.left]
  rw [if_neg (by omega)]

set_option maxRecDepth 100000 in
set_option maxHeartbeats 1600000 in
theorem codePlace_walk (i0 i1 vo : Value) (ls0 ls1 : List UInt8) (ops : List OpV) (W : World) (hr0 : Rd W i0 ls0) (hlt0 : ∀ k, rdb i0 = some k → k < W.heap.size) (hb0 : ls0.length ≤ 2000000) (hops : RdOps W vo ops) (hT : Errnos W) (hr1 : Rd W i1 ls1) :
    Calls Tryd.prog 5 #[.agg #[i0, i1, vo]] W fun e w' => e = .returned (.bool true) ∧ Chg (fun _ => False) W w' := by
  obtain ⟨ia0, ic0, rfl, _⟩ := hr0.form
  obtain ⟨ia1, ic1, rfl, _⟩ := hr1.form
  obtain ⟨oa, oc, rfl⟩ := hops.form
  have cbox := (Chg.refl (fun _ => False) W).alloc (.cells #[.slice ia0 ls0.length ic0, .slice ia1 ls1.length ic1, .slice oa ops.length oc] 26)
  have B0 := Blk.new W 26 #[.slice ia0 ls0.length ic0, .slice ia1 ls1.length ic1, .slice oa ops.length oc]
  have hpos : 0 < W.heap.size := World.block_lt_of_cell? W _ (hT 0 (by omega))
  have hrd : ∀ {w : World}, Chg (fun _ => False) W w → Rd w (.slice ia0 ls0.length ic0) ls0 := fun h => hr0.kept h fun _ _ => id
  go_enter Tryd.func5, Tryd.ntmps5
  go_wp2_with fail
  refine (lend_any _ ls0 _ (hrd cbox) (by omega)).mono ?_
  rintro e w1 ⟨g, cap, rfl, L1, hc1, hg⟩
  have C1 := cbox.trans hc1 fun _ _ h => h
  have B1 := B0.kept hc1 id
  have k1 : w1.cell? ⟨W.heap.size, 0, none⟩ = some (.slice ia0 ls0.length ic0) := B1.cell 0
  have hgW : W.heap.size < g := by simp at hg; omega
  clear B0 cbox hc1 hg
  go_wp2_with fail
  refine (other_any _ ls0 _ (hrd C1) (by omega)).mono ?_
  rintro e w2 ⟨l2, v2, hl2, rfl, O2, hc2, hf2⟩
  have C2 := C1.trans hc2 fun _ _ h => h
  have hg1 := L1.own.lt g rfl
  obtain ⟨va, vc, rfl, _⟩ := O2.form
  rw [hl2] at O2 hf2 ⊢
  go_wp2_with fail
  refine (new_any _).mono ?_
  rintro e w3 ⟨T, rfl, I3, hc3, hs3⟩
  have C3 := C2.trans hc3 fun _ _ h => h
  have hs1 := hc2.size
  have hsb := B1.lt
  have M3 : PM W w3 (.slice ia0 ls0.length ic0) (.slice ia1 ls1.length ic1) (.slice oa ops.length oc) g cap ls0 (.slice va ls0.length vc) l2 w2.heap.size (.slice none 0 0) T [] :=
    ⟨(B1.kept hc2 id).kept hc3 id, ⟨(L1.own.kept hc2 fun _ _ => id).kept hc3 fun _ _ => id⟩, (by rw [hl2]; exact O2.kept hc3 fun _ _ => id), I3, C3, hgW,
      fun k hk => ⟨by have := hf2 k hk; omega, by have := hf2 k hk; omega, by have := O2.lt k hk; omega⟩, ⟨by omega, by omega⟩, (by simp [Value.ownBlock]), hpos⟩
  have HN := Lib.hid hl2
  generalize w2.heap.size = pbw at *
  clear L1 C1 B1 k1 hl2 O2 hc2 hf2 C2 hg1 I3 hc3 hs3 C3 hs1 hsb
  have k0 : w3.cell? ⟨W.heap.size, 0, none⟩ = some (.slice ia0 ls0.length ic0) := M3.box.cell 0
  have k2 : w3.cell? ⟨W.heap.size, 2, none⟩ = some (.slice oa ops.length oc) := M3.box.cell 2
  go_wp2_with fail
  refine (readlaw_any _ _ _ ls0 ops _ M3.lent.rd (hrd M3.ch) (by omega) (hops.kept0 M3.ch) (hT.kept M3.ch id)).mono ?_
  rintro e w4 ⟨rfl, hc4⟩
  have M4 := M3.calm hc4
  clear M3 hc4 k0 k2
  go_wp2_with fail
  refine (wbytes_any pbw _ _ T [] ls0 _ M4.wr M4.lent.rd (fun k hk => ⟨fun e => ?_, ?_⟩) (by simp) (by omega)).mono ?_
  · have := rdb_own hk
    simp [Value.ownBlock] at this; subst this; exact M4.hp.2 e.symm
  · simp [Value.ownBlock]
  rintro e w5 ⟨rfl, st5⟩
  obtain ⟨vw5, M5, c5, b5⟩ := M4.step st5
  clear M4 st5 c5 b5
  rw [List.nil_append] at M5
  go_wp2_with fail
  have hgl5 := M5.lent.own.lt g rfl
  have hpw5 : pbw < w5.heap.size := (Array.getElem?_eq_some_iff.1 M5.wr.blk).1
  have hlw5 := M5.wr.own.lt
  have hl25 := M5.oth.lt
  have hbx5 := M5.box.lt
  refine (read_any _ ls0 _ M5.lent.rd (by omega)).mono ?_
  rintro e w6 ⟨pf, vf, Tf, rfl, R6, hc6, hpf, hrf⟩
  have M6 := M5.calm hc6
  have sep : W.heap.size < pf ∧ pf ≠ g ∧ pf ≠ pbw ∧ (Value.slice va ls0.length vc).ownBlock ≠ some pf ∧ vw5.ownBlock ≠ some pf :=
    ⟨by omega, by omega, by omega, fun e => by have := hl25 _ e; omega, fun e => by have := hlw5 _ e; omega⟩
  have sep2 : ∀ k, rdb vf = some k → k ≠ g ∧ k ≠ pbw ∧ vw5.ownBlock ≠ some k := fun k hk => by
    have := hrf k hk
    exact ⟨by omega, by omega, fun e => by have := hlw5 _ e; omega⟩
  clear M5 hc6 hgl5 hpw5 hlw5 hl25 hbx5 hpf hrf
  have hoth : ∀ {w : World} {lg : List UInt8} {vw : Value} {lw : List UInt8}, PM W w (.slice ia0 ls0.length ic0) (.slice ia1 ls1.length ic1) (.slice oa ops.length oc) g cap lg (.slice va ls0.length vc) l2 pbw vw T lw → Rd w (.slice va ls0.length vc) l2 := fun h => Own.rd h.oth
  go_wp2_with fail
  refine (into2_any g cap _ ls0 l2 _ M6.lent (hoth M6) HN.out (fun k hk => (M6.h2 k (rdb_own hk)).2.1) (by omega)).mono ?_
  rintro e w7 ⟨rfl, L7, hc7⟩
  have M7 := M6.into L7 hc7
  have R7 := R6.kept hc7 sep.2.1 fun k hk => (sep2 k hk).1
  clear M6 R6 hc7 L7
  have k2 : w7.cell? ⟨W.heap.size, 2, none⟩ = some (.slice oa ops.length oc) := M7.box.cell 2
  have hlrd : ∀ {w : World}, Lent w g cap l2 → Rd w (.slice (some ⟨g, 0, none⟩) ls0.length cap) l2 := fun h => by have := h.rd; rwa [HN.out] at this
  go_wp2_with fail
  refine (readlaw_any _ _ _ l2 ops _ (hlrd M7.lent) (hoth M7) (by rw [HN.out]; omega) (hops.kept0 M7.ch) (hT.kept M7.ch id)).mono ?_
  rintro e w8 ⟨rfl, hc8⟩
  have M8 := M7.calm hc8
  have R8 := R7.calm hc8
  clear M7 R7 hc8 k2
  go_wp2_with fail
  have hv := varB_len ls0.length (by omega)
  refine (raw_any pbw _ _ T _ l2 _ M8.wr (hlrd M8.lent) (by simp; omega) (by rw [HN.out]; omega)).mono ?_
  rintro e w9 ⟨rfl, st9⟩
  obtain ⟨vw9, M9, c9, b9⟩ := M8.step st9
  have R9 := R8.kept c9 (fun e => by
    rcases e with e | e
    · exact sep.2.2.1 e
    · exact sep.2.2.2.2 e) fun k hk e => by
    rcases e with e | e
    · exact (sep2 k hk).2.1 e
    · exact (sep2 k hk).2.2 e
  have sep9 : vw9.ownBlock ≠ some pf := fun e => by
    rcases b9 _ e with h | h
    · exact sep.2.2.2.2 h
    · have := R8.blk.lt; omega
  clear M8 R8 st9 c9 b9
  have k0 : w9.cell? ⟨W.heap.size, 0, none⟩ = some (.slice ia0 ls0.length ic0) := M9.box.cell 0
  go_wp2_with fail
  have hi2 := into2_any g cap (.slice ia0 ls0.length ic0) l2 ls0 w9 M9.lent (hrd M9.ch) HN.out.symm (fun k hk e => by have := hlt0 k hk; omega) (by rw [HN.out]; omega)
  rw [HN.out] at hi2
  refine hi2.mono ?_
  rintro e w10 ⟨rfl, L10, hc10⟩
  have M10 := M9.into L10 hc10
  have R10 := R9.kept hc10 sep.2.1 fun k hk => (sep2 k hk).1
  clear M9 R9 hc10 L10 hi2 k0
  have k0 : w10.cell? ⟨W.heap.size, 0, none⟩ = some (.slice ia0 ls0.length ic0) := M10.box.cell 0
  have k2 : w10.cell? ⟨W.heap.size, 2, none⟩ = some (.slice oa ops.length oc) := M10.box.cell 2
  go_wp2_with fail
  refine wp_region_pin (fun _ => false) [15] [7, 6] (Same (fun z => z = pf) w10) mixed (by kernel_rfl) (fun _ _ h e => h.ext e) (Same.refl _ _).drew ?_
  simp only [wpSegs, List.take_succ_cons, List.take_zero, List.drop_succ_cons, List.drop_zero]
  have M10d := M10.calm ((Chg.refl _ w10).drew)
  go_wp2_with fail
  refine (readlaw_any _ _ _ ls0 ops _ M10d.lent.rd (hrd M10d.ch) (by omega) (hops.kept0 M10d.ch) (hT.kept M10d.ch id)).mono ?_
  rintro e w11 ⟨rfl, hc11⟩
  have c11 : Chg (fun _ => False) w10 w11 := ((Chg.refl _ w10).drew).trans hc11 fun _ _ h => h
  have M11 := M10.calm c11
  have R11 := R10.calm c11
  clear M10d hc11
  go_wp2_with fail
  refine SegQ.normal ⟨fun z o h hz => c11.keep h id, ?_⟩
  go_wp2_with fail
  refine (rdraw_any pf vf Tf _ _ _ R11).mono ?_
  rw [raw_all]
  rintro e w12 ⟨y, rfl, Y12, hy12, R12, hc12⟩
  have M12 := M11.other hc12 ⟨sep.1, sep.2.1, sep.2.2.1, sep.2.2.2.1, sep9⟩
  have k3 : w12.cell? ⟨W.heap.size, 0, none⟩ = some (.slice ia0 ls0.length ic0) := M12.box.cell 0
  obtain ⟨ya, yc, rfl, _⟩ := Y12.form
  go_wp2_with fail
  refine SegQ.normal ⟨fun z o h hz => hc12.keep (c11.keep h id) hz, ?_⟩
  go_wp2_with fail
  refine (eq_any _ _ ls0 ls0 _ (Own.rd Y12) (hrd M12.ch) (by omega) (by omega)).mono ?_
  rintro e w13 ⟨rfl, hd13⟩
  have heq : eqB ls0 ls0 = true := by simp [eqB]
  rw [heq]
  have M13 := M12.calm (hd13.chg _)
  clear M11 R11 M10 R10 M12 R12 hc12 Y12 k3 heq
  go_wp2_with fail
  refine TQ.normal (by kernel_rfl) ⟨⟨PinAt.cell rfl rfl rfl k0 (by show ¬ W.heap.size = pf; have := sep.1; omega) (fun X h => by go_simp), trivial⟩, ?_⟩
  have k4 : w13.cell? ⟨W.heap.size, 0, none⟩ = some (.slice ia0 ls0.length ic0) := M13.box.cell 0
  go_wp2_with fail
  refine wp_region_pin (fun _ => false) [4] [2] (Same (fun _ => False) w13) mixed (by kernel_rfl) (fun _ _ h e => h.ext e) (Same.refl _ _).drew ?_
  simp only [wpSegs, List.take_succ_cons, List.take_zero, List.drop_succ_cons, List.drop_zero]
  have M13d := M13.calm ((Chg.refl _ w13).drew)
  go_wp2_with fail
  refine (out_any pbw _ T _ _ M13d.wr (by simp; rw [HN.out]; omega)).mono ?_
  rintro e w14 ⟨rfl, O14, hc14, hs14⟩
  have c14 : Chg (fun _ => False) w13 w14 := ((Chg.refl _ w13).drew).trans hc14 fun _ _ h => h
  have M14 := M13.calm c14
  have k5 : w14.cell? ⟨W.heap.size, 0, none⟩ = some (.slice ia0 ls0.length ic0) := M14.box.cell 0
  go_wp2_with fail
  refine SegQ.normal ⟨fun z o h hz => c14.keep h id, ?_⟩
  go_wp2_with fail
  refine (rtext_any _ ls0 _ (hrd M14.ch) (by omega)).mono ?_
  rintro e w15 ⟨v15, rfl, O15, hc15, hb15⟩
  have M15 := M14.calm hc15
  have O15b : Own w15 5 1 v15 ((varB ls0.length).length + ls0.length) (bcells (varB ls0.length ++ ls0)) := O15.cast (by simp) rfl
  have hsrc := M15.oth
  rw [HN.out] at hsrc
  have hsl : Sl w15 1 (.slice va ls0.length vc) ls0.length (bcells l2) := hsrc.sl (bcells_one l2)
  obtain ⟨xa, xc, rfl, _⟩ := O15b.form
  go_wp2_with ((with_reducible show wpList _ _ _ (⟨some 80, _, _, _, _, _⟩ :: _) _ _); refine wpl_append (o := ⟨some 80, _, _, _, _, _⟩) rfl (.tmp 78) (.tmp 79) 22 rfl tyBytes (O15b) (hsl) rfl rfl (by unfold maxLen; omega) (by omega) ?_; intro na nc w16 O16 hgr16 hblk16)
  have c16 : Chg (fun _ => False) w14 w16 := hc15.grown hgr16 fun z hz => .inl (hb15 z hz)
  have O14b := O14.kept c16 fun _ _ => id
  have e1 : (varB ls0.length ++ ls0 ++ l2).length = (varB ls0.length).length + ls0.length + ls0.length := by simp [HN.out]; omega
  have O16b : Rd w16 (.slice na ((varB ls0.length).length + ls0.length + ls0.length) nc) (varB ls0.length ++ ls0 ++ l2) := Own.rd (O16.cast e1.symm (by simp))
  have hO := Own.rd O14b
  simp only [List.length_append, Nat.add_assoc] at hO
  refine (eq_any _ _ _ _ _ hO O16b (by rw [e1]; omega) (by rw [e1]; omega)).mono ?_
  rintro e w17 ⟨rfl, hd17⟩
  have heq : eqB (varB ls0.length ++ ls0 ++ l2) (varB ls0.length ++ ls0 ++ l2) = true := by simp [eqB]
  rw [heq]
  go_wp2_with fail
  refine TQ.normal (by kernel_rfl) ⟨⟨PinAt.cell rfl rfl rfl k4 id (fun X h => by go_simp), trivial⟩, ?_⟩
  go_wp2_with fail
  go_ret
  exact ⟨rfl, (M14.ch.trans c16 fun _ _ h => h).trans (hd17.chg (fun _ => False)) fun _ _ h => h⟩
end Go.Proofs.YtnfmeaifbankjaaDoor
