import Derived.Test.YtnfmeaifbankjaaCodeW
import Derived.BigQuiet
import Derived.Deep.QuietTactic
namespace Go.Proofs.Ytnfmeaifbankjaa
open Go Go.RowKit Go.Sat

/-! ### The helpers of the statements -/
theorem ret_int {k : IntKind} {a b : Int} (h : a = b) : Ending.returned (.int k a) = .returned (.int k b) := by rw [h]
theorem into_any (n m : Int) (w : World) (hm : 0 < m) (hm1 : m ≤ 1000000000) (hn : -9223372036854775808 ≤ n ∧ n ≤ 9223372036854775807) :
    Calls Try.prog 7 #[.int .i64 n, .int .i64 m] w fun e w' => e = .returned (.int .i64 (n % m)) ∧ w = w' := by
  obtain ⟨h1, h2, h3, h4⟩ := into_cases n m hm
  have H3 := Lib.hid h3
  have H4 := Lib.hid h4
  clear h3 h4
  obtain ⟨hn0, hn1⟩ := hn
  have hz : (m == 0) = false := by simp; omega
  go_enter Try.func7, Try.ntmps7
  by_cases hneg : n.tmod m < 0
  · go_wp2
    go_ret
    exact ⟨ret_int (by rw [← H3.out hneg]), rfl⟩
  · go_wp2
    go_ret
    exact ⟨ret_int (by rw [← H4.out (by omega)]), rfl⟩

/-- The world is as it was but for answers drawn. -/
def Drawn (w w' : World) : Prop := ∃ n, w' = w.drewN n
theorem Drawn.refl (w : World) : Drawn w w := ⟨0, rfl⟩
theorem Drawn.drew {w w' : World} (h : Drawn w w') : Drawn w w'.drew := by obtain ⟨n, rfl⟩ := h; exact ⟨n + 1, by simp [World.drewN, World.drew, Nat.add_assoc]⟩
theorem Drawn.chg {w w' : World} (h : Drawn w w') (S : Nat → Prop) : Chg S w w' := by obtain ⟨n, rfl⟩ := h; exact (Chg.refl S w).drewN n

set_option maxRecDepth 100000 in
set_option maxHeartbeats 800000 in
theorem cmp_any (x y : Value) (l r : List UInt8) (w : World) (hx : Rd w x l) (hy : Rd w y r) (hl : l.length ≤ 1000000000) (hr : r.length ≤ 1000000000) :
    Calls Try.prog 36 #[x, y] w fun e w' => e = .returned (.int .i64 (cmpB l r)) ∧ Drawn w w' := by
  obtain ⟨ao, c, hxv, hlc⟩ := hx.form
  obtain ⟨bo, d, hyv, hrd⟩ := hy.form
  subst hxv hyv
  go_enter Try.func36, Try.ntmps36
  go_wp2_with fail
  go_loopw [5] (fun i wr => ∃ k : Nat, k ≤ l.length ∧ k ≤ r.length ∧ l.take k = r.take k ∧ i = .int .i64 k ∧ Drawn w wr) (fun i _ => (l.length - (intOf i).toNat))
  case atStart => exact ⟨0, Nat.zero_le _, Nat.zero_le _, rfl, rfl, Drawn.refl _⟩
  case round =>
    obtain ⟨k, hk1, hk2, hal, rfl, hw⟩ := hrel
    have hx1 := hx.kept (hw.chg (fun _ => False)) (fun _ _ => id)
    have hy1 := hy.kept (hw.chg (fun _ => False)) (fun _ _ => id)
    by_cases hlt : k < l.length ∧ k < r.length
    · obtain ⟨h1, h2⟩ := hlt
      obtain ⟨b, off, c', e1, _, hb1⟩ := hx1.addr (by omega)
      cases e1
      obtain ⟨b', off', d', e2, _, hb2⟩ := hy1.addr (by omega)
      cases e2
      have c1 := hx1.cell h1
      have c2 := hy1.cell h2
      have hat := cmpB_at h1 h2 hal
      have HA := Lib.hid hat
      clear hat
      by_cases g1 : l[k].toNat < r[k].toNat
      · go_wp2_with fail
        refine wp_region_text mixed (by kernel_rfl) ?_
        go_wp2_with fail
        refine TQ.normal (by kernel_rfl) ?_
        go_wp2_with fail
        go_ret
        exact ⟨ret_int (by rw [HA.out, if_pos g1]), hw.drew⟩
      · go_wp2_with fail
        refine wp_region_text mixed (by kernel_rfl) ?_
        go_wp2_with fail
        refine TQ.normal (by kernel_rfl) ?_
        go_wp2_with fail
        by_cases g2 : r[k].toNat < l[k].toNat
        · refine wp_region_text mixed (by kernel_rfl) ?_
          go_wp2_with fail
          refine TQ.normal (by kernel_rfl) ?_
          go_wp2_with fail
          go_ret
          exact ⟨ret_int (by rw [HA.out, if_neg g1, if_pos g2]), hw.drew.drew⟩
        · have hal' := take_alike h1 h2 hal g1 g2
          have HL := Lib.hid hal'
          clear hal'
          refine wp_region_text mixed (by kernel_rfl) ?_
          go_wp2_with fail
          refine TQ.normal (by kernel_rfl) ?_
          go_wp2_with fail
          go_roundw
          case rel => exact ⟨k + 1, by omega, by omega, HL.out, by go_num, hw.drew.drew⟩
          case measure => simp [intOf]; omega
    · have hend := cmpB_end hk1 hk2 hal (by omega)
      have HE := Lib.hid hend
      have HA := Lib.hid hal
      clear hend hal
      by_cases h1 : k < l.length
      · have g : r.length < l.length := by omega
        have h2 : ¬ k < r.length := by omega
        go_wp2_with fail
        go_ret
        exact ⟨ret_int (by rw [HE.out, if_neg (by omega), if_pos (by omega)]), hw⟩
      · by_cases g : l.length < r.length
        · go_wp2_with fail
          go_ret
          exact ⟨ret_int (by rw [HE.out, if_pos g]), hw⟩
        · have g2 : l.length = r.length ∨ r.length < l.length := by omega
          have g3 : k = l.length := by omega
          go_wp2_with fail
          all_goals go_ret
          all_goals exact ⟨ret_int (by rw [HE.out, if_neg g]; first | rw [if_pos (by omega)] | rw [if_neg (by omega)]), hw⟩

theorem ret_bool {a b : Bool} (h : a = b) : Ending.returned (.bool a) = .returned (.bool b) := by rw [h]
set_option maxRecDepth 100000 in
theorem eq_any (x y : Value) (l r : List UInt8) (w : World) (hx : Rd w x l) (hy : Rd w y r) (hl : l.length ≤ 1000000000) (hr : r.length ≤ 1000000000) :
    Calls Try.prog 9 #[x, y] w fun e w' => e = .returned (.bool (eqB l r)) ∧ Drawn w w' := by
  go_enter Try.func9, Try.ntmps9
  go_wp2_with (go_at_call 36; refine (cmp_any _ _ l r _ hx hy hl hr).mono ?_; rintro e w' ⟨rfl, hw⟩)
  go_ret
  exact ⟨ret_bool (cmpB_eqB l r), hw⟩

set_option maxRecDepth 100000 in
theorem copy_any (x : Value) (l : List UInt8) (w : World) (hx : Rd w x l) (hl : l.length ≤ 1000000000) :
    Calls Try.prog 17 #[x] w (Taken w l) := by
  obtain ⟨ao, c, hxv, _⟩ := hx.form
  subst hxv
  go_enter Try.func17, Try.ntmps17
  go_wp2_with (first | ((with_reducible show wpList _ _ _ (⟨some 6, _, _, _, _, _⟩ :: _) _ _); refine wpl_make (o := ⟨some 6, _, _, _, _, _⟩) rfl (.tmp 5) (.tmp 5) 22 rfl tyBytes rfl (l.length) rfl rfl (by unfold maxLen; omega) (by omega) ?_; intro w1 hown1 hc1 hs1) | ((with_reducible show wpList _ _ _ (⟨some 9, _, _, _, _, _⟩ :: _) _ _); refine wpl_copy (o := ⟨some 9, _, _, _, _, _⟩) rfl (.tmp 7) (.tmp 8) 22 rfl tyBytes (hown1) (hx.kept hc1 (fun _ _ => id)) rfl rfl ?_; intro w2 hown2 hc2))
  go_ret
  exact ⟨rfl, hown2, hc1.trans hc2 (fun k hk h => by simp [Value.ownBlock] at h; omega), Nat.lt_of_lt_of_le hs1 hc2.size⟩

set_option maxRecDepth 100000 in
theorem rvar_any (m : Nat) : ∀ (w : World), m ≤ 18446744073709551615 → Calls Try.prog 33 #[.int .u64 m] w (NewB 5 w (varB m)) := by
  induction m using Nat.strongRecOn with
  | _ m ih =>
    intro w hm
    by_cases hlt : m < 128
    · have hb : (m : Int) = ((UInt8.ofNat m).toNat : Int) := by simp; omega
      have HB := Lib.hid hb
      clear hb ih
      go_enter Try.func33, Try.ntmps33
      go_wp2_with fail
      go_ret
      refine ⟨_, rfl, ?_, (Chg.refl _ _).alloc _, fun k hk => by simp [Value.ownBlock] at hk; omega⟩
      rw [varB_lt hlt]
      exact (Own.built w #[.int .u8 m] _ 1 1 rfl (by unfold maxLen; omega)).cast rfl (by rw [HB.out]; rfl)
    · have hb : (128 : Int) + (m : Int) % 128 = ((UInt8.ofNat (128 + m % 128)).toNat : Int) := by simp; omega
      have HB := Lib.hid hb
      have hih := ih (m / 128) (by omega)
      have HI := Lib.hid hih
      have hv := varB_len m (by omega)
      have hv2 := varB_len (m / 128) (by omega)
      clear hb ih hih
      go_enter Try.func33, Try.ntmps33
      go_wp2_with fail
      refine (HI.out _ (by omega)).mono ?_
      rintro e w1 ⟨v, rfl, hown, hc, hb⟩
      have hl := (Own.built w #[.int .u8 ((128 : Int) + (m : Int) % 128)] 5 1 1 rfl (by unfold maxLen; omega)).kept hc (fun _ _ => id)
      go_wp2_with (at_builtin; refine wpl_append rfl (.tmp 14) (.tmp 17) 22 rfl tyBytes hl hown.rd rfl rfl (by unfold maxLen; omega) (by omega) ?_; intro ao cap w2 hown2 hgr hblk)
      go_ret
      have hge := varB_ge (n := m) (by omega)
      refine ⟨.slice ao (1 + (varB (m / 128)).length) cap, rfl, ?_, ?_, fun k hk => ?_⟩
      · exact hown2.cast (by rw [hge]; simp; omega) (by rw [hge, HB.out]; rfl)
      · exact Chg.grown (((Chg.refl _ _).alloc _).trans hc fun _ _ h => h) hgr fun k hk => .inl (by simp [Value.ownBlock] at hk; omega)
      · have := hc.size
        simp at this
        rcases hblk with h | h
        · rw [h] at hk; simp [Value.ownBlock] at hk; omega
        · rw [h] at hk; simp at hk; omega

set_option maxRecDepth 100000 in
theorem rtext_any (x : Value) (l : List UInt8) (w : World) (hx : Rd w x l) (hl : l.length ≤ 1000000000) :
    Calls Try.prog 15 #[x] w (NewB 5 w (varB l.length ++ l)) := by
  obtain ⟨ao, c, hxv, _⟩ := hx.form
  have hv := varB_len l.length (by omega)
  subst hxv
  go_enter Try.func15, Try.ntmps15
  go_wp2_with (first | (go_at_call 33; refine (rvar_any l.length _ (by omega)).mono ?_; rintro e w1 ⟨v, rfl, hown, hc, hb⟩) | (at_builtin; refine wpl_append rfl (.tmp 8) (.tmp 9) 22 rfl tyBytes hown (hx.kept hc (fun _ _ => id)) rfl rfl (by unfold maxLen; omega) (by omega) ?_; intro ao' cap w2 hown2 hgr hblk))
  go_ret
  refine ⟨.slice ao' ((varB l.length).length + l.length) cap, rfl, hown2.cast (by simp) (by simp), Chg.grown hc hgr fun k hk => .inl (hb k hk), fun k hk => ?_⟩
  rcases hblk with h | h
  · rw [h] at hk; exact hb k hk
  · rw [h] at hk; simp at hk; have := hc.size; omega

/-- What Lend hands out: the bytes, with the three marks behind them. -/
structure Lent (w : World) (g cap : Nat) (l : List UInt8) : Prop where
  own : Own w 5 1 (.slice (some ⟨g, 0, none⟩) (l.length + 3) cap) (l.length + 3) (bcells (l ++ [165, 90, 165]))
theorem Lent.rd {w : World} {g cap : Nat} {l : List UInt8} (h : Lent w g cap l) : Rd w (.slice (some ⟨g, 0, none⟩) l.length cap) l := by
  have h1 : Rd w (.slice (some ⟨g, 0, none⟩) (l.length + 3) cap) (l ++ [165, 90, 165]) := Own.rd (h.own.cast (by simp) rfl)
  rcases h1.val with ⟨h0, _⟩ | ⟨b, off, c, h0, hc, hm, hcell⟩
  · simp at h0
  · injection h0 with h1 h2 h3
    injection h1 with h1
    injection h1 with h4 h5
    subst h4 h5 h3
    simp at hc
    exact ⟨by simp, bcells_one _, .inr ⟨g, 0, cap, rfl, by omega, hm, fun j u hu => hcell j u (by rw [bcells_append, List.getElem?_append_left]; exact hu; exact (List.getElem?_eq_some_iff.1 hu).1)⟩⟩
set_option maxRecDepth 100000 in
theorem lend_any (x : Value) (l : List UInt8) (w : World) (hx : Rd w x l) (hl : l.length ≤ 1000000000) :
    Calls Try.prog 27 #[x] w fun e w' => ∃ g cap, e = .returned (.slice (some ⟨g, 0, none⟩) l.length cap) ∧ Lent w' g cap l ∧ Chg (fun _ => False) w w' ∧ w.heap.size ≤ g := by
  obtain ⟨ao, c, hxv, _⟩ := hx.form
  subst hxv
  go_enter Try.func27, Try.ntmps27
  go_wp2_with (first | ((with_reducible show wpList _ _ _ (⟨some 6, _, _, _, _, _⟩ :: _) _ _); refine wpl_append (o := ⟨some 6, _, _, _, _, _⟩) rfl (.tmp 4) (.tmp 5) 22 rfl tyBytes (World.ownsRow_nil _ 0 _ 1) (hx) rfl rfl (by unfold maxLen; omega) (by omega) ?_; intro ao' cap w2 hown2 hgr hblk; simp only [Nat.zero_add, List.nil_append] at hown2 hblk) | ((with_reducible show wpList _ _ _ (⟨some 9, _, _, _, _, _⟩ :: _) _ _); refine wpl_append (o := ⟨some 9, _, _, _, _, _⟩) rfl (.tmp 7) (.tmp 8) 22 rfl tyBytes (hown2.alloc _) (Sl.built w2 #[.int .u8 165, .int .u8 90, .int .u8 165] _ 1 3 rfl (by simp [Value.oneCell']) (by unfold maxLen; omega)) rfl rfl (by unfold maxLen; omega) (by omega) ?_; intro ao3 cap3 w3 hown3 hgr3 hblk3; obtain ⟨g, rfl, hg3⟩ := hown3.addr (by omega); have hcap3 := hown3.cap))
  go_ret
  refine ⟨g, cap3, rfl, ⟨hown3.cast rfl (by simp; rfl)⟩, ?_, ?_⟩
  · exact Chg.grown (((Chg.refl _ w).grown hgr (fun k hk => by simp [Value.ownBlock] at hk)).alloc _) hgr3 fun k hk => by
      rcases hblk with h | h
      · rw [h] at hk; simp [Value.ownBlock] at hk
      · rw [h] at hk; simp at hk; omega
  · have := hgr.size
    rcases hblk3 with h | h
    · rcases hblk with h' | h'
      · rw [h'] at h; simp [Value.ownBlock] at h
      · rw [h'] at h; simp [Value.ownBlock] at h; omega
    · simp [Value.ownBlock] at h; omega

set_option maxRecDepth 100000 in
theorem intact_any (g cap : Nat) (y : Value) (l : List UInt8) (w : World) (hx : Lent w g cap l) (hy : Rd w y l) (hl : l.length ≤ 1000000000) :
    Calls Try.prog 35 #[.slice (some ⟨g, 0, none⟩) l.length cap, y] w fun e w' => e = .returned (.bool true) ∧ w = w' := by
  obtain ⟨ao, c, hyv, _⟩ := hy.form
  subst hyv
  have hr := hx.rd
  obtain ⟨c0, c1, c2, hcap⟩ : w.cell? ⟨g, l.length, none⟩ = some (.int .u8 165) ∧ w.cell? ⟨g, l.length + 1, none⟩ = some (.int .u8 90) ∧ w.cell? ⟨g, l.length + 2, none⟩ = some (.int .u8 165) ∧ l.length + 3 ≤ cap := by
    have h1 : Rd w (.slice (some ⟨g, 0, none⟩) (l.length + 3) cap) (l ++ [165, 90, 165]) := Own.rd (hx.own.cast (by simp) rfl)
    obtain ⟨ao, c, e, hc⟩ := h1.form
    injection e with e1 e2 e3
    have q0 := h1.cell (j := l.length) (by simp)
    have q1 := h1.cell (j := l.length + 1) (by simp)
    have q2 := h1.cell (j := l.length + 2) (by simp)
    simp only [Nat.zero_add] at q0 q1 q2
    exact ⟨by rw [q0]; simp, by rw [q1]; simp, by rw [q2]; simp, by simp at hc; omega⟩
  go_enter Try.func35, Try.ntmps35
  go_wp2_with (first | ((with_reducible show wpList _ _ _ (⟨some 7, _, _, _, _, _⟩ :: _) _ _); refine wpl_str (o := ⟨some 7, _, _, _, _, _⟩) rfl 22 9 (.tmp 6) rfl Try.underlying22 Try.underlying5 Try.underlying9 (hr) rfl ?_) | ((with_reducible show wpList _ _ _ (⟨some 9, _, _, _, _, _⟩ :: _) _ _); refine wpl_str (o := ⟨some 9, _, _, _, _, _⟩) rfl 22 9 (.tmp 8) rfl Try.underlying22 Try.underlying5 Try.underlying9 (hy) rfl ?_))
  go_ret
  exact ⟨rfl, rfl⟩
end Go.Proofs.Ytnfmeaifbankjaa
