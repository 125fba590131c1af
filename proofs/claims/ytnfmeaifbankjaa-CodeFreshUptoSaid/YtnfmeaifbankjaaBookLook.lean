import Derived.Test.YtnfmeaifbankjaaBookPlain
import Derived.Test.YtnfmeaifbankjaaBookNone
set_option linter.unusedVariables false
namespace Go.Proofs.Ytnfmeaifbankjaa
open Go Go.RowKit Go.Sat
set_option maxRecDepth 100000 in
set_option maxHeartbeats 3200000 in
theorem grow_any (bk : Nat) (T : TypeId) (O : Nat → Prop) (xs : List En) (lo tn dn : Nat) (w : World) (h : BkI w bk T O xs lo lo xs.length tn dn) (htn : tn ≤ 9000) (hlo : lo ≤ xs.length) (hc : xs.length + 9 * (xs.length - lo) ≤ 10 * tn) :
    Calls Try.prog 50 #[.pointer (some ⟨bk, 0, none⟩)] w fun e w' => e = .returned (.tuple #[]) ∧ ∃ xs', BkI w' bk T (fun b => O b ∨ w.heap.size ≤ b) xs' xs'.length xs'.length xs'.length tn tn ∧ Chg O w w' ∧ xs'.length ≤ 10 * tn := by
  have hObk : O bk := by
    obtain ⟨bs, bo, us, h1, h2, h3, h4, h5⟩ := h.ex
    exact h4 _ (.inl rfl)
  have H := Lib.hid h
  clear h
  go_enter Try.func50, Try.ntmps50
  go_wp2_with fail
  refine (growBytes_any bk T O xs lo tn dn w H.out htn hlo hc).mono ?_
  rintro e w0 ⟨rfl, ys, I, C, hy⟩
  obtain ⟨bs, bo, us, h1, h2, h3, h4, h5⟩ := I.ex
  have HK := Lib.hid h3
  have HO := Lib.hid h4
  have HE := Lib.hid h5
  have HC := Lib.hid C
  have CC0 := Lib.hid (Chg.refl (fun k => k = bk) w0)
  have B0 := Lib.hid h3.blk
  clear I C h3 h4 h5
  generalize hY : ys.length = Y at *
  go_wp2_with fail
  refine (growRows_any bk T bs bo (Y : Int) (tn : Int) (dn : Int) us _ B0.out).mono ?_
  rintro e w1 ⟨rfl, b1, k1⟩
  have B1 := Lib.hid b1
  have CC1 := Lib.hid (CC0.out.trans k1 fun _ _ e => e)
  clear b1 k1 CC0 B0
  go_wp2_with fail
  refine (growIds_any bk T bs bo (Y : Int) (tn : Int) (dn : Int) us _ B1.out).mono ?_
  rintro e w2 ⟨rfl, b2, k2⟩
  have B2 := Lib.hid b2
  have CC2 := Lib.hid (CC1.out.trans k2 fun _ _ e => e)
  clear b2 k2 CC1 B1
  go_wp2_with fail
  refine (growTexts_any bk T bs bo (Y : Int) (tn : Int) (dn : Int) us _ B2.out).mono ?_
  rintro e w3 ⟨rfl, b3, k3⟩
  have B3 := Lib.hid b3
  have CC3 := Lib.hid (CC2.out.trans k3 fun _ _ e => e)
  clear b3 k3 CC2 B2
  go_wp2_with fail
  refine (growRefs_any bk T bs bo (Y : Int) (tn : Int) (dn : Int) us _ B3.out).mono ?_
  rintro e w4 ⟨rfl, b4, k4⟩
  have B4 := Lib.hid b4
  have CC4 := Lib.hid (CC3.out.trans k4 fun _ _ e => e)
  clear b4 k4 CC3 B3
  go_wp2_with fail
  refine (growStamps_any bk T bs bo (Y : Int) (tn : Int) (dn : Int) us _ B4.out).mono ?_
  rintro e w5 ⟨rfl, b5, k5⟩
  have B5 := Lib.hid b5
  have CC5 := Lib.hid (CC4.out.trans k5 fun _ _ e => e)
  clear b5 k5 CC4 B4
  go_wp2_with fail
  refine (growMoves_any bk T bs bo (Y : Int) (tn : Int) (dn : Int) us _ B5.out).mono ?_
  rintro e w6 ⟨rfl, b6, k6⟩
  have B6 := Lib.hid b6
  have CC6 := Lib.hid (CC5.out.trans k6 fun _ _ e => e)
  clear b6 k6 CC5 B5
  go_wp2_with fail
  refine (growLinks_any bk T bs bo (Y : Int) (tn : Int) (dn : Int) us _ B6.out).mono ?_
  rintro e w7 ⟨rfl, b7, k7⟩
  have B7 := Lib.hid b7
  have CC7 := Lib.hid (CC6.out.trans k7 fun _ _ e => e)
  clear b7 k7 CC6 B6
  go_wp2_with fail
  refine (growFiles_any bk T bs bo (Y : Int) (tn : Int) (dn : Int) us _ B7.out).mono ?_
  rintro e w8 ⟨rfl, b8, k8⟩
  have B8 := Lib.hid b8
  have CC8 := Lib.hid (CC7.out.trans k8 fun _ _ e => e)
  clear b8 k8 CC7 B7
  go_wp2_with fail
  refine (growEntries_any bk T bs bo (Y : Int) (tn : Int) (dn : Int) us _ B8.out).mono ?_
  rintro e w9 ⟨rfl, b9, k9⟩
  have B9 := Lib.hid b9
  have CC9 := Lib.hid (CC8.out.trans k9 fun _ _ e => e)
  clear b9 k9 CC8 B8
  go_wp2_with fail
  refine (growNotes_any bk T bs bo (Y : Int) (tn : Int) (dn : Int) us _ B9.out).mono ?_
  rintro e w10 ⟨rfl, b10, k10⟩
  have B10 := Lib.hid b10
  have CC10 := Lib.hid (CC9.out.trans k10 fun _ _ e => e)
  clear b10 k10 CC9 B9
  have c33 : w10.cell? ⟨bk, 33, none⟩ = some (.int .i64 (tn : Int)) := by rw [B10.out.cell]; rfl
  have c34 : w10.cell? ⟨bk, 34, none⟩ = some (.int .i64 (dn : Int)) := by rw [B10.out.cell]; rfl
  have f34 := B10.out.free 34
  have hset : Blk (w10.setCell ⟨bk, 34, none⟩ (.int .i64 (tn : Int))) bk T (bookC bs bo (Y : Int) (tn : Int) (tn : Int) us) := B10.out.set 34 _
  have HS := Lib.hid hset
  clear hset
  go_wp2_with fail
  refine bodyPost_end (results_none rfl _ _ _) rfl ?_
  have C9 : Chg (fun k => k = bk) w0 (w10.setCell ⟨bk, 34, none⟩ (.int .i64 (tn : Int))) := CC10.out.setCell (.inr (show (⟨bk, 34, none⟩ : Addr).block = bk from rfl)) _
  have hn1 : ∀ k, bs.ownBlock = some k → ¬ k = bk := fun k hk e => HK.out.ne1 (by rw [hk, e])
  have hn2 : ∀ k, bo.ownBlock = some k → ¬ k = bk := fun k hk e => HK.out.ne2 (by rw [hk, e])
  refine ⟨rfl, ys, ?_, HC.out.trans C9 (fun x _ e => by rw [e]; exact hObk), by rw [hY]; exact hy⟩
  · rw [hY]
    exact ⟨bs, bo, us, h1, h2, by rw [hY]; exact ⟨HS.out, HK.out.own1.kept C9 hn1, HK.out.own2.kept C9 hn2, HK.out.ne1, HK.out.ne2, HK.out.ne12⟩, HO.out, HE.out.kept C9 (fun b hb => hb.2.1)⟩
set_option maxRecDepth 100000 in
theorem holds_any (bk : Nat) (T : TypeId) (O : Nat → Prop) (xs : List En) (at_ lo hi tn dn : Nat) (w : World) (h : BkI w bk T O xs at_ lo hi tn dn) (hx9 : xs.length ≤ 100000) :
    Calls Try.prog 49 #[.pointer (some ⟨bk, 0, none⟩)] w fun e w' => e = .returned (.bool true) ∧ Chg (fun _ => False) w w' := by
  have H := Lib.hid h
  clear h
  go_enter Try.func49, Try.ntmps49
  go_wp2_with fail
  refine (plain_any bk T O xs at_ lo hi tn dn w H.out hx9).mono ?_
  rintro e w1 ⟨rfl, C⟩
  obtain ⟨bs, bo, us, h1, h2, h3, h4, h5⟩ := H.out.ex
  have B := Lib.hid (h3.blk.kept C id)
  have HC := Lib.hid C
  clear h3 h4 h5 C
  go_wp2_with fail
  (refine (kept_any bk T bs bo _ _ _ _ _ B.out).mono ?_; rintro e w' ⟨rfl, hww⟩; rw [← hww]; clear hww w')
  go_wp2_with fail
  (refine (told_any bk T bs bo _ _ _ _ _ B.out).mono ?_; rintro e w' ⟨rfl, hww⟩; rw [← hww]; clear hww w')
  go_wp2_with fail
  (refine (held_any bk T bs bo _ _ _ _ _ B.out).mono ?_; rintro e w' ⟨rfl, hww⟩; rw [← hww]; clear hww w')
  go_wp2_with fail
  go_ret
  exact ⟨rfl, HC.out⟩
set_option maxRecDepth 100000 in
theorem look_any (bk : Nat) (T : TypeId) (O : Nat → Prop) (xs : List En) (lo tn dn : Nat) (w : World) (h : BkI w bk T O xs lo lo xs.length tn dn) (htn : tn ≤ 9000) (hdn : dn ≤ 9000) (hlo : lo ≤ xs.length) (hc : xs.length + 9 * (xs.length - lo) ≤ 10 * tn) :
    Calls Try.prog 26 #[.pointer (some ⟨bk, 0, none⟩)] w fun e w' => e = .returned (.bool true) ∧ ∃ xs' lo' dn', BkI w' bk T (fun b => O b ∨ w.heap.size ≤ b) xs' lo' lo' xs'.length tn dn' ∧ dn' ≤ 9000 ∧ Chg O w w' ∧ lo' ≤ xs'.length ∧ xs'.length + 9 * (xs'.length - lo') ≤ 10 * tn := by
  have H := Lib.hid h
  clear h
  go_enter Try.func26, Try.ntmps26
  go_wp2_with fail
  refine (holds_any bk T O xs _ _ _ tn dn w H.out (by omega)).mono ?_
  rintro e w1 ⟨rfl, C⟩
  have I := H.out.kept C (fun _ _ => id)
  obtain ⟨bs, bo, us, h1, h2, h3, h4, h5⟩ := I.ex
  have c34 : w1.drew.cell? ⟨bk, 34, none⟩ = some (.int .i64 (dn : Int)) := by rw [h3.blk.drew.cell]; rfl
  have c33 : w1.drew.cell? ⟨bk, 33, none⟩ = some (.int .i64 (tn : Int)) := by rw [h3.blk.drew.cell]; rfl
  have HI := Lib.hid (I.kept ((Chg.refl (fun _ => False) w1).drew) (fun _ _ => id))
  have HC := Lib.hid (C.drew)
  clear I C h3 h4 h5
  by_cases hd : dn = tn
  · have hq2 : ((dn : Int) == (tn : Int)) = true := by simp; omega
    clear hd
    go_wp2_with fail
    refine wp_region_text mixed (by kernel_rfl) ?_
    go_wp2_with fail
    refine TQ.normal (by kernel_rfl) ?_
    go_wp2_with fail
    go_ret
    exact ⟨rfl, xs, lo, dn, HI.out.wide (fun b hb => .inl hb), hdn, HC.out.mono (fun _ _ h => h.elim), hlo, hc⟩
  · have hq2 : ((dn : Int) == (tn : Int)) = false := beq_eq_false_iff_ne.2 (by omega)
    clear hd
    go_wp2_with fail
    refine wp_region_text mixed (by kernel_rfl) ?_
    go_wp2_with fail
    refine TQ.normal (by kernel_rfl) ?_
    go_wp2_with fail
    refine (grow_any bk T O xs lo tn dn _ HI.out htn hlo hc).mono ?_
    rintro e w2 ⟨rfl, ys, I2, C2, hy⟩
    have HI2 := Lib.hid I2
    have HC2 := Lib.hid C2
    clear I2 C2 c34 c33
    go_wp2_with fail
    refine (holds_any bk T _ ys _ _ _ tn tn w2 HI2.out (by omega)).mono ?_
    rintro e w3 ⟨rfl, C3⟩
    have HC3 := Lib.hid C3
    clear C3
    go_wp2_with fail
    go_ret
    refine ⟨rfl, ys, ys.length, tn, (HI2.out.kept HC3.out (fun _ _ => id)).wide (fun b hb => ?_), htn, ((HC.out.mono (T := O) (fun _ _ h => h.elim)).trans HC2.out (fun _ _ h => h)).trans HC3.out (fun _ _ h => h.elim), Nat.le_refl _, by omega⟩
    rcases hb with hb | hb
    · exact .inl hb
    · exact .inr (Nat.le_trans HC.out.size hb)
end Go.Proofs.Ytnfmeaifbankjaa
