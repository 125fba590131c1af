import Derived.Test.YtlanabocdoacgaaDoorDPlaced
set_option linter.unusedVariables false
namespace Go.Proofs.YtlanabocdoacgaaDoor
open Go Go.RowKit Go.Sat
/-- What stands at a place of placed. -/
structure Pl (W w : World) (bb : Nat) (vb vd : Value) (gb cb gd cd : Nat) (b d : List UInt8) : Prop where
  E : Errnos w
  lb : Lent w gb cb b
  ld : Lent w gd cd d
  bx : Blk w bb 27 #[vb, vd]
  chg : Chg (fun k => k = gb ∨ k = gd) W w
  ne : gb ≠ gd
  gb : 0 < gb ∧ gb ≠ bb
  gd : 0 < gd ∧ gd ≠ bb
namespace Pl
variable {W w w' : World} {bb : Nat} {vb vd : Value} {gb cb gd cd : Nat} {b d : List UInt8}
theorem kept (h : Pl W w bb vb vd gb cb gd cd b d) (c : Chg (fun _ => False) w w') : Pl W w' bb vb vd gb cb gd cd b d :=
  ⟨h.E.kept c id, h.lb.kept c id, h.ld.kept c id, h.bx.kept c id, h.chg.trans c (fun _ _ h => h.elim), h.ne, h.gb, h.gd⟩
theorem setB (h : Pl W w bb vb vd gb cb gd cd b d) {b' : List UInt8} (l : Lent w' gb cb b') (c : Chg (fun k => k = gb) w w') : Pl W w' bb vb vd gb cb gd cd b' d := by
  have h1 := h.gb; have h2 := h.ne
  exact ⟨h.E.kept c (by omega), l, h.ld.kept c (by omega), h.bx.kept c (by omega), h.chg.trans c (fun q _ e => .inl e), h.ne, h.gb, h.gd⟩
theorem setD (h : Pl W w bb vb vd gb cb gd cd b d) {d' : List UInt8} (l : Lent w' gd cd d') (c : Chg (fun k => k = gd) w w') : Pl W w' bb vb vd gb cb gd cd b d' := by
  have h1 := h.gd; have h2 := h.ne
  exact ⟨h.E.kept c (by omega), h.lb.kept c (by omega), l, h.bx.kept c (by omega), h.chg.trans c (fun q _ e => .inr e), h.ne, h.gb, h.gd⟩
end Pl
set_option maxRecDepth 100000 in
set_option maxHeartbeats 6400000 in
theorem placed_any (vb vd : Value) (gb cb gd cd : Nat) (b d : List UInt8) (W : World) (hE : Errnos W) (hlb : Lent W gb cb b) (hld : Lent W gd cd d) (hb : Rd W vb b) (hd : Rd W vd d) (hsb : ∀ k, rdb vb = some k → k ≠ gb ∧ k ≠ gd) (hsd : ∀ k, rdb vd = some k → k ≠ gb ∧ k ≠ gd) (hne : gb ≠ gd) (hg0 : 0 < gb ∧ 0 < gd) (hbl : b.length ≤ 2000000) (hdl : d.length ≤ 2000000) :
    Calls Tryd.prog 17 #[.slice (some ⟨gb, 0, none⟩) b.length cb, .slice (some ⟨gd, 0, none⟩) d.length cd, .agg #[vb, vd]] W fun e w' => e = .returned (.bool true) ∧ Chg (fun k => k = gb ∨ k = gd) W w' := by
  have hgbl := hlb.own.lt gb rfl
  have hgdl := hld.own.lt gd rfl
  obtain ⟨ba, bc, rfl, _⟩ := hb.form
  obtain ⟨da, dc, rfl, _⟩ := hd.form
  have C0 : Chg (fun _ => False) W (W.alloc (.cells #[.slice ba b.length bc, .slice da d.length dc] 27)) := (Chg.refl _ W).alloc _
  have P0 : Pl W (W.alloc (.cells #[.slice ba b.length bc, .slice da d.length dc] 27)) W.heap.size (.slice ba b.length bc) (.slice da d.length dc) gb cb gd cd b d :=
    ⟨hE.kept C0 id, hlb.kept C0 id, hld.kept C0 id, Blk.new W _ _, C0.mono (fun _ _ h => h.elim), hne, ⟨hg0.1, by omega⟩, ⟨hg0.2, by omega⟩⟩
  have rb0 : ∀ w, Chg (fun k => k = gb ∨ k = gd) W w → Rd w (.slice ba b.length bc) b := fun w c => hb.kept c (fun k hk h => by rcases h with h | h; exact (hsb k hk).1 h; exact (hsb k hk).2 h)
  have rd0 : ∀ w, Chg (fun k => k = gb ∨ k = gd) W w → Rd w (.slice da d.length dc) d := fun w c => hd.kept c (fun k hk h => by rcases h with h | h; exact (hsd k hk).1 h; exact (hsd k hk).2 h)
  have RB := Lib.hid rb0
  have RD := Lib.hid rd0
  obtain ⟨bb, hbb⟩ : ∃ bb, bb = W.heap.size := ⟨_, rfl⟩
  rw [← hbb] at P0
  have cB0 : (W.alloc (.cells #[.slice ba b.length bc, .slice da d.length dc] 27)).cell? ⟨bb, 0, none⟩ = some (.slice ba b.length bc) := by rw [P0.bx.cell]; rfl
  clear hE hlb hld hb hd hsb hsd rb0 rd0 C0
  go_enter Tryd.func17, Tryd.ntmps17
  go_wp2_with ((with_reducible show wpList _ _ _ (⟨some 20, _, _, _, _, _⟩ :: _) _ _); refine Shut.out ?_)
  show wpList _ _ _ _ _ _
  rw [← hbb]
  clear hbb
  generalize W.alloc (.cells #[.slice ba b.length bc, .slice da d.length dc] 27) = w0 at *
  go_wp2_with fail
  (refine (other_any _ b w0 (RB.out _ P0.chg) (by omega)).mono ?_; rintro e w1 ⟨o, vo, hol, rfl, OO, C1, hob⟩)
  have P1 := P0.kept C1
  have hgb0 := P0.lb.own.lt gb rfl
  have hgd0 := P0.ld.own.lt gd rfl
  have hbb0 := P0.bx.lt
  have hvo : ∀ k, rdb vo = some k → k ≠ gb ∧ k ≠ gd ∧ k ≠ bb := fun k hk => by have := hob k (rdb_own hk); exact ⟨by omega, by omega, by omega⟩
  have RO1 : Rd w1 vo o := Own.rd OO
  obtain ⟨oa, oc, rfl, _⟩ := RO1.form
  have HOL := Lib.hid hol
  have HVO := Lib.hid hvo
  clear P0 cB0 OO C1 hob hol hvo hgb0 hgd0 hbb0
  go_wp2_with fail
  (refine (intoN gb cb b.length _ b o w1 P1.lb rfl RO1 HOL.out (fun k hk => (HVO.out k hk).1) (by omega)).mono ?_; rintro e w2 ⟨rfl, l2, C2⟩)
  have P2 := P1.setB l2 C2
  have RO2 := RO1.kept C2 (fun k hk => (HVO.out k hk).1)
  have hol6 : o.length ≤ 2000000 := by rw [HOL.out]; omega
  clear P1 RO1 C2 l2
  go_wp2_with fail
  (refine (apply_any _ _ o d _ P2.E (P2.lb.rdN HOL.out) (P2.ld.rdN rfl) (by first | omega | (have := HOL.out; omega)) (by first | omega | (have := HML.out; omega))).mono ?_; rintro e w3 ⟨y3, rfl, O3, hb3, C3⟩)
  have P3 := P2.kept C3
  have RY3 : Rd w3 y3 (appR o d).1 := Own.rd O3
  obtain ⟨ya3, yc3, rfl, _⟩ := RY3.form
  have RO3 := RO2.kept C3 (fun _ _ => id)
  have L3 := appR_len o d
  have cD3 : w3.cell? ⟨bb, 1, none⟩ = some (.slice da d.length dc) := by rw [P3.bx.cell]; rfl
  clear P2 RO2 C3 O3 hb3
  go_wp2_with fail
  (refine (rapply_any _ _ o d w3 RO3 (RD.out _ P3.chg) (by omega) (by omega)).mono ?_; rintro e w4 ⟨y4, rfl, O4, hb4, C4⟩)
  have P4 := P3.kept C4
  have RU4 : Rd w4 y4 (appR o d).1 := Own.rd O4
  have RY4 := RY3.kept C4 (fun _ _ => id)
  have RO4 := RO3.kept C4 (fun _ _ => id)
  obtain ⟨ua4, uc4, rfl, _⟩ := RU4.form
  clear P3 RO3 C4 O4 hb4 RY3 cD3
  generalize appR o d = r1 at *
  obtain ⟨t1, f1⟩ := r1
  simp only at L3 RY4 RU4 ⊢
  go_wp2_with fail
  (refine (dnum_any (f1 : Int) w4).mono ?_; rintro e w' ⟨rfl, rfl⟩)
  go_wp2_with fail
  (refine (eqT_any _ _ t1 w4 RY4 RU4 L3).mono ?_; rintro e w5 ⟨rfl, C5⟩)
  have P5 := P4.kept C5
  have RO5 := RO4.kept C5 (fun _ _ => id)
  have cD5 : w5.cell? ⟨bb, 1, none⟩ = some (.slice da d.length dc) := by rw [P5.bx.cell]; rfl
  clear P4 RO4 C5 RY4 RU4
  go_wp2_with fail
  (refine (other_any _ d w5 (RD.out _ P5.chg) (by omega)).mono ?_; rintro e w6 ⟨m, vm, hml, rfl, OM, C6, hmb⟩)
  have P6 := P5.kept C6
  have hgb5 := P5.lb.own.lt gb rfl
  have hgd5 := P5.ld.own.lt gd rfl
  have hbb5 := P5.bx.lt
  have hvm : ∀ k, rdb vm = some k → k ≠ gb ∧ k ≠ gd ∧ k ≠ bb := fun k hk => by have := hmb k (rdb_own hk); exact ⟨by omega, by omega, by omega⟩
  have RM6 : Rd w6 vm m := Own.rd OM
  have RO6 := RO5.kept C6 (fun _ _ => id)
  obtain ⟨ma, mc, rfl, _⟩ := RM6.form
  have HML := Lib.hid hml
  have HVM := Lib.hid hvm
  clear P5 cD5 OM C6 hmb hml hvm hgb5 hgd5 hbb5 RO5
  go_wp2_with fail
  (refine (intoN gd cd d.length _ d m w6 P6.ld rfl RM6 HML.out (fun k hk => (HVM.out k hk).2.1) (by omega)).mono ?_; rintro e w7 ⟨rfl, l7, C7⟩)
  have P7 := P6.setD l7 C7
  have RM7 := RM6.kept C7 (fun k hk => (HVM.out k hk).2.1)
  have RO7 := RO6.kept C7 (fun k hk => (HVO.out k hk).2.1)
  have hml6 : m.length ≤ 2000000 := by rw [HML.out]; omega
  clear P6 RM6 RO6 C7 l7
  go_wp2_with fail
  (refine (apply_any _ _ o m _ P7.E (P7.lb.rdN HOL.out) (P7.ld.rdN HML.out) (by first | omega | (have := HOL.out; omega)) (by first | omega | (have := HML.out; omega))).mono ?_; rintro e w8 ⟨y8, rfl, O8, hb8, C8⟩)
  have P8 := P7.kept C8
  have RY8 : Rd w8 y8 (appR o m).1 := Own.rd O8
  obtain ⟨ya8, yc8, rfl, _⟩ := RY8.form
  have RO8 := RO7.kept C8 (fun _ _ => id)
  have RM8 := RM7.kept C8 (fun _ _ => id)
  have L8 := appR_len o m
  clear P7 RO7 RM7 C8 O8 hb8
  go_wp2_with fail
  (refine (rapply_any _ _ o m w8 RO8 RM8 (by omega) (by omega)).mono ?_; rintro e w9 ⟨y9, rfl, O9, hb9, C9⟩)
  have P9 := P8.kept C9
  have RU9 : Rd w9 y9 (appR o m).1 := Own.rd O9
  have RY9 := RY8.kept C9 (fun _ _ => id)
  have RM9 := RM8.kept C9 (fun _ _ => id)
  obtain ⟨ua9, uc9, rfl, _⟩ := RU9.form
  clear P8 RO8 RM8 C9 O9 hb9 RY8
  generalize appR o m = r2 at *
  obtain ⟨t2, f2⟩ := r2
  simp only at L8 RY9 RU9 ⊢
  go_wp2_with fail
  (refine (size_any _ m w9 P9.E (P9.ld.rdN HML.out) (by omega)).mono ?_; rintro e w10 ⟨rfl, C10⟩)
  have P10 := P9.kept C10
  have RU10 := RU9.kept C10 (fun _ _ => id)
  have RY10 := RY9.kept C10 (fun _ _ => id)
  have RM10 := RM9.kept C10 (fun _ _ => id)
  clear P9 RU9 RY9 RM9 C10
  go_wp2_with fail
  (refine (rsize_any _ m w10 RM10 (by omega)).mono ?_; rintro e w11 ⟨rfl, C11⟩)
  have P11 := P10.kept C11
  have RU11 := RU10.kept C11 (fun _ _ => id)
  have RY11 := RY10.kept C11 (fun _ _ => id)
  clear P10 RU10 RY10 RM10 C11
  generalize sizeR m = r3 at *
  obtain ⟨s1, s2, s3⟩ := r3
  simp only
  go_wp2_with fail
  (refine (dnum_any (f2 : Int) w11).mono ?_; rintro e w' ⟨rfl, rfl⟩)
  go_wp2_with fail
  (refine (eqT_any _ _ t2 w11 RY11 RU11 L8).mono ?_; rintro e w12 ⟨rfl, C12⟩)
  have P12 := P11.kept C12
  clear P11 C12 RY11 RU11
  go_wp2_with fail
  (refine (dnum_any (s3 : Int) w12).mono ?_; rintro e w' ⟨rfl, rfl⟩)
  go_wp2_with fail
  go_ret
  exact ⟨rfl, P12.chg⟩
end Go.Proofs.YtlanabocdoacgaaDoor
