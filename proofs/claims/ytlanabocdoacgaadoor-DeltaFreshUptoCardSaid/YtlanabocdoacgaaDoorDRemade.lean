import Derived.Test.YtlanabocdoacgaaDoorDBound
import Derived.Test.YtlanabocdoacgaaDoorDPlaced2
set_option linter.unusedVariables false
namespace Go.Proofs.YtlanabocdoacgaaDoor
open Go Go.RowKit Go.Sat
theorem makeS_any (x y : Value) (base target : List UInt8) (W : World) (hx : Rd W x base) (hy : Rd W y target) (hbl : base.length ≤ 65536) (htl : target.length ≤ 65536) :
    Calls Tryd.prog 18 #[x, y] W (AppP W (makeR base target, 0)) := by
  have h := make_any x y base target W hx hy (by omega) (by omega)
  rw [if_pos ⟨hbl, htl⟩] at h
  exact h
theorem makeL_any (x y : Value) (base target : List UInt8) (W : World) (hx : Rd W x base) (hy : Rd W y target) (hbl : base.length ≤ 2000000) (htl : target.length ≤ 2000000) (hn : ¬ (base.length ≤ 65536 ∧ target.length ≤ 65536)) :
    Calls Tryd.prog 18 #[x, y] W (AppP W ([], 73)) := by
  have h := make_any x y base target W hx hy (by omega) (by omega)
  rw [if_neg hn] at h
  exact h
theorem make_le (base target : List UInt8) (hb : base.length ≤ 65536) (ht : target.length ≤ 65536) : (makeR base target).length ≤ 65568 := by
  have := make_len base target hb ht
  omega
theorem applyS_any (x y : Value) (base target : List UInt8) (W : World) (hE : Errnos W) (hx : Rd W x base) (hy : Rd W y (makeR base target)) (hbl : base.length ≤ 65536) (htl : target.length ≤ 65536) :
    Calls Tryd.prog 10 #[x, y] W (AppP W (target, 0)) := by
  have h := apply_any x y base (makeR base target) W hE hx hy (by omega) (by have := make_le base target hbl htl; omega)
  rw [make_good base target hbl htl] at h
  exact h
theorem sizeS_any (y : Value) (base target : List UInt8) (W : World) (hE : Errnos W) (hy : Rd W y (makeR base target)) (hbl : base.length ≤ 65536) (htl : target.length ≤ 65536) :
    Calls Tryd.prog 12 #[y] W (SizeP W (base.length, target.length, 0)) := by
  have h := size_any y (makeR base target) W hE hy (by have := make_le base target hbl htl; omega)
  rw [make_size base target hbl htl] at h
  exact h
theorem eqM_any (x y : Value) (l : List UInt8) (w : World) (hx : Rd w x l) (hy : Rd w y l) (hl : l.length ≤ 1000000) :
    Calls Tryd.prog 15 #[x, y] w fun e w' => e = .returned (.bool true) ∧ Chg (fun _ => False) w w' :=
  (eq_self_any x y l w hx hy (by omega)).mono fun e w' ⟨h1, h2⟩ => ⟨h1, h2.chg _⟩
set_option maxRecDepth 100000 in
set_option maxHeartbeats 6400000 in
theorem remade_any (vb vd : Value) (gb cb gd cd : Nat) (b d : List UInt8) (W : World) (hE : Errnos W) (hlb : Lent W gb cb b) (hld : Lent W gd cd d) (hb : Rd W vb b) (hd : Rd W vd d) (hsb : ∀ k, rdb vb = some k → k ≠ gb ∧ k ≠ gd) (hsd : ∀ k, rdb vd = some k → k ≠ gb ∧ k ≠ gd) (hne : gb ≠ gd) (hg0 : 0 < gb ∧ 0 < gd) (hbl : b.length ≤ 65536) (hdl : d.length ≤ 65536) :
    Calls Tryd.prog 29 #[.slice (some ⟨gb, 0, none⟩) b.length cb, .slice (some ⟨gd, 0, none⟩) d.length cd, .agg #[vb, vd]] W fun e w' => e = .returned (.bool true) ∧ Chg (fun k => k = gb ∨ k = gd) W w' := by
  have hgbl := hlb.own.lt gb rfl
  have hgdl := hld.own.lt gd rfl
  obtain ⟨ba, bc, rfl, _⟩ := hb.form
  obtain ⟨da, dc, rfl, _⟩ := hd.form
  have C0 : Chg (fun _ => False) W (W.alloc (.cells #[.slice ba b.length bc, .slice da d.length dc] 27)) := (Chg.refl _ W).alloc _
  have P0 : Pl W (W.alloc (.cells #[.slice ba b.length bc, .slice da d.length dc] 27)) W.heap.size (.slice ba b.length bc) (.slice da d.length dc) gb cb gd cd b d :=
    ⟨hE.kept C0 id, hlb.kept C0 id, hld.kept C0 id, Blk.new W _ _, C0.mono (fun _ _ h => h.elim), hne, ⟨hg0.1, by omega⟩, ⟨hg0.2, by omega⟩⟩
  have rb0 : ∀ w, Chg (fun k => k = gb ∨ k = gd) W w → Rd w (.slice ba b.length bc) b := fun w c => hb.kept c (fun k hk h => by rcases h with h | h; exact (hsb k hk).1 h; exact (hsb k hk).2 h)
  have rd0 : ∀ w, Chg (fun k => k = gb ∨ k = gd) W w → Rd w (.slice da d.length dc) d := fun w c => hd.kept c (fun k hk h => by rcases h with h | h; exact (hsd k hk).1 h; exact (hsd k hk).2 h)
  have RB := Lib.hid rb0
  have RD := Lib.hid rd0
  obtain ⟨bb, hbb⟩ : ∃ bb, bb = W.heap.size := ⟨_, rfl⟩
  rw [← hbb] at P0
  have cD0 : (W.alloc (.cells #[.slice ba b.length bc, .slice da d.length dc] 27)).cell? ⟨bb, 1, none⟩ = some (.slice da d.length dc) := by rw [P0.bx.cell]; rfl
  clear hE hlb hld hb hd hsb hsd rb0 rd0 C0
  go_enter Tryd.func29, Tryd.ntmps29
  go_wp2_with ((with_reducible show wpList _ _ _ (⟨some 12, _, _, _, _, _⟩ :: _) _ _); refine Shut.out ?_)
  show wpList _ _ _ _ _ _
  rw [← hbb]
  clear hbb
  generalize W.alloc (.cells #[.slice ba b.length bc, .slice da d.length dc] 27) = w0 at *
  go_wp2_with fail
  (refine (other_any _ d w0 (RD.out _ P0.chg) (by omega)).mono ?_; rintro e w1 ⟨o, vo, hol, rfl, OO, C1, hob⟩)
  have P1 := P0.kept C1
  have hgb0 := P0.lb.own.lt gb rfl
  have hgd0 := P0.ld.own.lt gd rfl
  have hbb0 := P0.bx.lt
  have hvo : ∀ k, rdb vo = some k → k ≠ gb ∧ k ≠ gd ∧ k ≠ bb := fun k hk => by have := hob k (rdb_own hk); exact ⟨by omega, by omega, by omega⟩
  have RO1 : Rd w1 vo o := Own.rd OO
  obtain ⟨oa, oc, rfl, _⟩ := RO1.form
  have HOL := Lib.hid hol
  have HVO := Lib.hid hvo
  clear P0 cD0 OO C1 hob hol hvo hgb0 hgd0 hbb0
  go_wp2_with fail
  (refine (intoN gd cd d.length _ d o w1 P1.ld rfl RO1 HOL.out (fun k hk => (HVO.out k hk).2.1) (by omega)).mono ?_; rintro e w2 ⟨rfl, l2, C2⟩)
  have P2 := P1.setD l2 C2
  have RO2 := RO1.kept C2 (fun k hk => (HVO.out k hk).2.1)
  have hol6 : o.length ≤ 65536 := by rw [HOL.out]; omega
  clear P1 RO1 C2 l2
  go_wp2_with fail
  (refine (makeS_any _ _ b o w2 P2.lb.rd (P2.ld.rdN HOL.out) hbl hol6).mono ?_; rintro e w3 ⟨y3, rfl, O3, hb3, C3⟩)
  have P3 := P2.kept C3
  have RY3 : Rd w3 y3 (makeR b o) := Own.rd O3
  obtain ⟨ya3, yc3, rfl, _⟩ := RY3.form
  have RO3 := RO2.kept C3 (fun _ _ => id)
  clear P2 RO2 C3 O3 hb3
  simp only
  go_wp2_with fail
  (refine (applyS_any _ _ b o w3 P3.E P3.lb.rd RY3 hbl hol6).mono ?_; rintro e w4 ⟨y4, rfl, O4, hb4, C4⟩)
  have P4 := P3.kept C4
  have RU4 : Rd w4 y4 o := Own.rd O4
  obtain ⟨ua4, uc4, rfl, _⟩ := RU4.form
  have RO4 := RO3.kept C4 (fun _ _ => id)
  have hml := make_len b o hbl hol6
  clear P3 RO3 C4 O4 hb4 RY3
  generalize makeR b o = mk at *
  simp only
  go_wp2_with fail
  (refine (dnum_any ((0 : Nat) : Int) w4).mono ?_; rintro e w' ⟨rfl, rfl⟩)
  go_wp2_with fail
  (refine (dnum_any ((0 : Nat) : Int) w4).mono ?_; rintro e w' ⟨rfl, rfl⟩)
  go_wp2_with fail
  (refine (eqM_any _ _ o w4 RU4 RO4 (by omega)).mono ?_; rintro e w5 ⟨rfl, C5⟩)
  have P5 := P4.kept C5
  have RO5 := RO4.kept C5 (fun _ _ => id)
  have cB5 : w5.cell? ⟨bb, 0, none⟩ = some (.slice ba b.length bc) := by rw [P5.bx.cell]; rfl
  clear P4 RO4 C5 RU4
  go_wp2_with fail
  (refine (bound_any _ _ b o w5 (RB.out _ P5.chg) RO5 (by omega) (by omega)).mono ?_; rintro e w6 ⟨rfl, C6⟩)
  have P6 := P5.kept C6
  have hle : decide ((mk.length : Int) ≤ (o.length : Int) - (lcp b o : Int) - (backR b o : Int) + 32) = true := by simp; omega
  go_wp2_with fail
  go_ret
  exact ⟨rfl, P6.chg⟩
end Go.Proofs.YtlanabocdoacgaaDoor
