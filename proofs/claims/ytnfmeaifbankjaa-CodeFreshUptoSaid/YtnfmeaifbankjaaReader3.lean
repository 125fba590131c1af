import Derived.Test.YtnfmeaifbankjaaReader2
import Derived.Test.YtnfmeaifbankjaaPin
set_option linter.unusedVariables false
namespace Go.Proofs.Ytnfmeaifbankjaa
open Go Go.RowKit Go.Sat

/-- A call of it that answers bytes in new memory. -/
def RTake (w : World) (pb : Nat) (v : Value) (T : TypeId) (f : Nat → Int) (b : List UInt8) (s' : RS) (e : Ending) (w' : World) : Prop :=
  ∃ y, e = .returned y ∧ Own w' 5 1 y b.length (bcells b) ∧ (∀ k, y.ownBlock = some k → w.heap.size ≤ k) ∧ RStep w pb v T f s' w'
theorem RS.next_len (s : RS) (n : Int) : (s.next n).1.length ≤ s.l.length := by
  unfold RS.next
  split
  · simp
  · split
    · simp
    · simp; omega
theorem RS.next_l (s : RS) (n : Int) : (s.next n).2.l = s.l := by
  unfold RS.next RS.fall
  split
  · rfl
  · split <;> rfl
set_option maxRecDepth 100000 in
set_option maxHeartbeats 800000 in
theorem rdraw_any (pb : Nat) (v : Value) (T : TypeId) (s : RS) (n : Int) (w : World) (h : IsR w pb v T met s) :
    Calls Try.prog 23 #[.pointer (some ⟨pb, 0, none⟩), .int .i64 n] w (RTake w pb v T met (s.raw n).1 (s.raw n).2) := by
  have hlen := h.len
  obtain ⟨c0, c1, c2, -, -⟩ := h.facts
  rcases (by omega : (n < 0 ∧ s.met = 0) ∨ (n < 0 ∧ ¬ s.met = 0) ∨ ¬ n < 0) with ⟨hn, hm⟩ | ⟨hn, hm⟩ | hn
  · have hraw : s.raw n = (s.fall 4).next n := by simp [RS.raw, RS.next, RS.fall, hn, hm]
    rw [hraw]
    have hb : ((met s.met) == 0) = true := by simp [met, hm]
    have hfall := RS.fall_ok h.ok (m := 4) (by omega)
    have HR := Lib.hid h
    have HM := Lib.hid hm
    clear h hraw hm
    go_enter Try.func23, Try.ntmps23
    go_wp2_with fail
    refine (rstop_any pb v _ _ T s.p 4 _ HR.out.blk).mono ?_
    rintro e w1 ⟨rfl, hb1, hc1⟩
    have h1 : IsR w1 pb v T met (s.fall 4) := HR.out.put rfl hfall hb1 hc1
    go_wp2_with fail
    refine (rnext_any pb v T (s.fall 4) n _ h1 (fun e => by simp [RS.fall] at e)).mono ?_
    rintro e w2 ⟨y, rfl, hy, hyb, hR, hC⟩
    have hnl : ((s.fall 4).next n).1.length ≤ s.l.length := RS.next_len (s.fall 4) n
    go_wp2_with fail
    refine (taken_any y _ _ hy (by omega)).mono ?_
    rintro e w3 ⟨rfl, ho, hc, hs⟩
    have h13 := hc1.trans hC fun _ _ h => h
    go_wp2_with fail
    go_ret
    exact ⟨_, rfl, ho, fun k hk => by simp [Value.ownBlock] at hk; have := h13.size; omega, hR.calm hc, h13.trans hc fun _ _ h => h.elim⟩
  · have hraw : s.raw n = s.next n := by simp [RS.raw, hm]
    rw [hraw]
    have hb : ((met s.met) == 0) = false := by simp [met]; omega
    have HR := Lib.hid h
    have HM := Lib.hid hm
    clear h hraw hm
    go_enter Try.func23, Try.ntmps23
    go_wp2_with fail
    refine (rnext_any pb v T s n _ HR.out (fun e => (HM.out e).elim)).mono ?_
    rintro e w2 ⟨y, rfl, hy, hyb, hR, hC⟩
    have hnl := RS.next_len s n
    go_wp2_with fail
    refine (taken_any y _ _ hy (by omega)).mono ?_
    rintro e w3 ⟨rfl, ho, hc, hs⟩
    go_wp2_with fail
    go_ret
    exact ⟨_, rfl, ho, fun k hk => by simp [Value.ownBlock] at hk; have := hC.size; omega, hR.calm hc, hC.trans hc fun _ _ h => h.elim⟩
  · have hraw : s.raw n = s.next n := by simp [RS.raw, hn]
    rw [hraw]
    have HR := Lib.hid h
    clear h hraw
    go_enter Try.func23, Try.ntmps23
    go_wp2_with fail
    refine (rnext_any pb v T s n _ HR.out (fun _ => by omega)).mono ?_
    rintro e w2 ⟨y, rfl, hy, hyb, hR, hC⟩
    have hnl := RS.next_len s n
    go_wp2_with fail
    refine (taken_any y _ _ hy (by omega)).mono ?_
    rintro e w3 ⟨rfl, ho, hc, hs⟩
    go_wp2_with fail
    go_ret
    exact ⟨_, rfl, ho, fun k hk => by simp [Value.ownBlock] at hk; have := hC.size; omega, hR.calm hc, hC.trans hc fun _ _ h => h.elim⟩

set_option maxRecDepth 100000 in
set_option maxHeartbeats 1600000 in
theorem rdvar_any (pb : Nat) (v : Value) (T : TypeId) (s : RS) (most : Nat) (w : World) (h : IsR w pb v T met s) (hmost : most < 18446744073709551616) :
    Calls Try.prog 41 #[.pointer (some ⟨pb, 0, none⟩), .int .u64 most] w fun e w' => e = .returned (.int .u64 (s.var most).1) ∧ RStep w pb v T met (s.var most).2 w' := by
  have hlen := h.len
  have hle := h.ok.le
  obtain ⟨c0', c1, c2, -, -⟩ := h.facts
  by_cases hm : s.met = 0
  · have hvar : s.var most = s.aft (vr s.look most) := by simp [RS.var, hm]
    rw [hvar]
    have hb : ((met s.met) != 0) = false := by simp [met, hm]
    have hll := RS.look_len_eq h.ok
    generalize hLk : s.look = L at hll ⊢
    have HLK := Lib.hid hLk
    obtain ⟨ao, c0, rfl, hc⟩ := h.rd.form
    have hleft := RS.left_eq h.ok
    have HR := Lib.hid h
    have HM := Lib.hid hm
    have HL := Lib.hid hleft
    have HLL := Lib.hid hll
    clear h hvar hm hll hleft hLk
    go_enter Try.func41, Try.ntmps41
    go_wp2_with fail
    refine wp_region_pin (fun _ => false) [3, 7, 11] [14, 1] (Same (fun _ => False) w) mixed (by kernel_rfl) (fun _ _ h e => h.ext e) (Same.refl _ _).drew ?_
    simp only [wpSegs, List.take_succ_cons, List.take_zero, List.drop_succ_cons, List.drop_zero]
    go_wp2_with fail
    refine (rleft_any pb _ T met s _ (HR.out.calm (Chg.refl _ _).drew)).mono ?_
    rintro e w1 ⟨rfl, hd⟩
    have hd1 : Chg (fun _ => False) w w1 := (Chg.refl _ w).drew.trans (hd.chg _) fun _ _ h => h
    go_wp2_with fail
    refine SegQ.normal ⟨fun z o h _ => hd1.keep h id, ?_⟩
    go_wp2_with fail
    refine SegQ.normal ⟨fun z o h _ => hd1.keep h id, ?_⟩
    have hmin : min (10 : Int) (s.left : Int) = ((min 10 s.left : Nat) : Int) := by omega
    rw [hmin]
    clear hmin
    have hq : s.p + min 10 s.left ≤ s.l.length ∧ min 10 s.left ≤ 10 := by have := HL.out; omega
    have htake : (s.l.drop s.p).take (min 10 s.left) = L := by
      rw [← HLK.out]
      unfold RS.look RS.left
      rw [List.take_eq_take_iff]
      simp
    rw [← HLL.out] at hq htake ⊢
    obtain ⟨hq1, hq2⟩ := hq
    have HT := Lib.hid htake
    clear htake
    have h1 := HR.out.calm hd1
    go_wp2_with ((with_reducible show wpList _ _ _ (⟨some 30, _, _, _, _, _⟩ :: _) _ _); refine wpl_part rfl 22 (.tmp 17) (.tmp 21) (.tmp 29) rfl Try.underlying22 sizeU8 rfl h1.rd s.p (s.p + L.length) rfl rfl rfl (by omega) (by omega) hq1 ?_; intro y hy hyb; rw [show s.p + L.length - s.p = L.length from by omega, HT.out] at hy; obtain ⟨ya, yc, rfl, _⟩ := Rd.form hy)
    refine TQ.normal (by kernel_rfl) ⟨⟨PinAt.cell rfl rfl rfl c0' id (fun X h => by go_simp), PinAt.cell rfl rfl rfl c1 id (fun X h => by go_simp), PinAt.cell rfl rfl rfl c1 id (fun X h => by go_simp), trivial⟩, ?_⟩
    have HY := Lib.hid hy
    have H1 := Lib.hid h1
    clear hy h1 hyb c0' c1 c2
    go_wp2_with fail
    go_loop [5, 33] (fun n i => ∃ k : Nat, k ≤ L.length ∧ i = .int .i64 k ∧ n = .int .u64 (val (L.take k)) ∧ ∀ j (h : j < L.length), j < k → 128 ≤ L[j].toNat) (fun _ i => L.length - (intOf i).toNat)
    case atStart => exact ⟨0, Nat.zero_le _, rfl, rfl, fun j h h2 => by omega⟩
    case round =>
      obtain ⟨k, hk, rfl, rfl, hall⟩ := hrel
      by_cases hlt : k < L.length
      · obtain ⟨g, off, yc', e1, _, _⟩ := HY.out.addr (by omega)
        cases e1
        have c1 := HY.out.cell hlt
        have hvt := val_take_succ L k hlt
        have hvl := val_lt (L.take k)
        rw [List.length_take, Nat.min_eq_left hk] at hvl
        have HALL := Lib.hid hall
        clear hall
        generalize hc : L[k] = c at c1 hvt
        have HC := Lib.hid hc
        have HV := Lib.hid hvt
        have HVL := Lib.hid hvl
        have h127 := and127 c
        have hclt := c.toNat_lt
        have k1 : w1.cell? ⟨pb, 1, none⟩ = some (.int .i64 s.p) := H1.out.facts.2.1
        have hb1 := H1.out.blk
        have HB1 := Lib.hid hb1
        clear hc hvt hvl hb1
        have hfin : ∀ m : Nat, m ≤ 4 → ∀ w2, Blk w2 pb T #[.slice ao s.l.length c0, .int .i64 s.p, .int .i64 m] → Chg (fun k => k = pb) w1 w2 → RStep w pb (.slice ao s.l.length c0) T met (s.fall m) w2 := fun m hm w2 hb hc =>
          ⟨H1.out.put rfl (RS.fall_ok H1.out.ok hm) hb hc, (hd1.mono fun _ _ h => h.elim).trans hc fun _ _ h => h⟩
        have HFIN := Lib.hid hfin
        clear hfin
        by_cases hA : k = 9 ∧ 1 < c.toNat
        · obtain ⟨h9, hc1⟩ := hA
          have hk9 : ((k : Int) == 9) = true := by simp; omega
          have hres := vr_top most (by omega) hlt HALL.out h9 (by rw [HC.out]; exact hc1)
          have hL10 : 10 ≤ L.length := by omega
          have HRES := Lib.hid hres
          have H9 := Lib.hid h9
          clear hres h9
          go_wp2_with fail
          refine (rstop_any pb _ _ _ T s.p 2 _ HB1.out).mono ?_
          rintro e w2 ⟨rfl, hb2, hc2⟩
          go_wp2_with fail
          go_ret
          rw [HRES.out]
          exact ⟨rfl, HFIN.out 2 (by omega) _ hb2 hc2⟩
        · have hor := or_step (val (L.take k)) c.toNat k HVL.out (by have := hlt; omega)
          rw [← HV.out] at hor
          by_cases h128 : 128 ≤ c.toNat
          · have hand := and128_hi c h128
            have hk9 : ((k : Int) == 9) = false := by simp; omega
            go_wp2_with fail
            go_round
            case rel => exact ⟨k + 1, by omega, by go_num, rfl, fun j h hj => by
              by_cases e : j = k
              · subst e; rw [HC.out]; exact h128
              · exact HALL.out j h (by omega)⟩
            case measure => simp [intOf]; omega
          · have hand := and128_lo c (by omega)
            have hres := vr_at most hlt HALL.out (by rw [HC.out]; omega) (by rw [HC.out]; exact hA)
            rw [HC.out] at hres
            have hle9 : k ≠ 9 ∨ c.toNat ≤ 1 := by omega
            clear hA
            by_cases h0 : c.toNat = 0 ∧ 0 < k
            · rw [if_pos h0] at hres
              obtain ⟨hc0, hk0⟩ := h0
              have hcb : ((c.toNat : Int) == 0) = true := by simp; omega
              have HRES := Lib.hid hres
              have HC0 := Lib.hid hc0
              clear hres hc0
              rcases (by omega : k = 9 ∨ k ≠ 9) with h9 | h9
              · have hk9 : ((k : Int) == 9) = true := by simp; omega
                have hc1 : ¬ 1 < c.toNat := by have := HC0.out; omega
                have H9 := Lib.hid h9
                clear h9
                go_wp2_with fail
                refine (rstop_any pb _ _ _ T s.p 2 _ HB1.out).mono ?_
                rintro e w2 ⟨rfl, hb2, hc2⟩
                go_wp2_with fail
                go_ret
                rw [HRES.out]
                exact ⟨rfl, HFIN.out 2 (by omega) _ hb2 hc2⟩
              · have hk9 : ((k : Int) == 9) = false := by simp; omega
                go_wp2_with fail
                refine (rstop_any pb _ _ _ T s.p 2 _ HB1.out).mono ?_
                rintro e w2 ⟨rfl, hb2, hc2⟩
                go_wp2_with fail
                go_ret
                rw [HRES.out]
                exact ⟨rfl, HFIN.out 2 (by omega) _ hb2 hc2⟩
            · rw [if_neg h0] at hres
              have hz : ((c.toNat : Int) == 0) = false ∨ (((c.toNat : Int) == 0) = true ∧ ¬ 0 < k) := by
                by_cases e : c.toNat = 0
                · exact .inr ⟨by simp; omega, fun h => h0 ⟨e, h⟩⟩
                · exact .inl (by simp; omega)
              have h9' : ((k : Int) == 9) = false ∨ (((k : Int) == 9) = true ∧ ¬ 1 < c.toNat) := by
                by_cases e : k = 9
                · exact .inr ⟨by simp; omega, by omega⟩
                · exact .inl (by simp; omega)
              clear h0 hle9
              by_cases hmo : most < val (L.take (k + 1))
              · rw [if_pos hmo] at hres
                have HRES := Lib.hid hres
                clear hres
                rcases hz with hz | ⟨hz, hk0⟩
                all_goals rcases h9' with hk9 | ⟨hk9, hc1⟩
                all_goals
                  go_wp2_with fail
                  refine (rstop_any pb _ _ _ T s.p 3 _ HB1.out).mono ?_
                  rintro e w2 ⟨rfl, hb2, hc2⟩
                  go_wp2_with fail
                  go_ret
                  rw [HRES.out]
                  exact ⟨rfl, HFIN.out 3 (by omega) _ hb2 hc2⟩
              · rw [if_neg hmo] at hres
                have HRES := Lib.hid hres
                have f1 := H1.out.facts.2.2.2.1
                have hk2 : k + 1 ≤ L.length := hlt
                have hpl : s.p + (k + 1) ≤ s.l.length := by omega
                clear hres
                rcases hz with hz | ⟨hz, hk0⟩
                all_goals rcases h9' with hk9 | ⟨hk9, hc1⟩
                all_goals
                  go_wp2_with fail
                  go_ret
                  rw [HRES.out]
                  exact ⟨rfl, H1.out.put (s' := { s with p := s.p + (k + 1) }) rfl ⟨hpl, H1.out.ok.met⟩ (HB1.out.set 1 _) (setCell_chg w1 ⟨pb, 1, none⟩ _), (hd1.mono fun _ _ h => h.elim).trans (setCell_chg w1 ⟨pb, 1, none⟩ _) fun _ _ h => h⟩
      · have hres := vr_end most (fun j h => hall j h (by omega))
        have hfin : ∀ m : Nat, m ≤ 4 → ∀ w2, Blk w2 pb T #[.slice ao s.l.length c0, .int .i64 s.p, .int .i64 m] → Chg (fun k => k = pb) w1 w2 → RStep w pb (.slice ao s.l.length c0) T met (s.fall m) w2 := fun m hm w2 hb hc =>
          ⟨H1.out.put rfl (RS.fall_ok H1.out.ok hm) hb hc, (hd1.mono fun _ _ h => h.elim).trans hc fun _ _ h => h⟩
        have HFIN := Lib.hid hfin
        have k1 : w1.cell? ⟨pb, 1, none⟩ = some (.int .i64 s.p) := H1.out.facts.2.1
        have hb1 := H1.out.blk
        have HB1 := Lib.hid hb1
        clear hall hfin hb1
        by_cases hL : L.length < 10
        · rw [if_pos hL] at hres
          have HRES := Lib.hid hres
          clear hres
          go_wp2_with fail
          refine (rstop_any pb _ _ _ T s.p 1 _ HB1.out).mono ?_
          rintro e w2 ⟨rfl, hb2, hc2⟩
          go_wp2_with fail
          go_ret
          rw [HRES.out]
          exact ⟨rfl, HFIN.out 1 (by omega) _ hb2 hc2⟩
        · rw [if_neg hL] at hres
          have HRES := Lib.hid hres
          clear hres
          go_wp2_with fail
          refine (rstop_any pb _ _ _ T s.p 2 _ HB1.out).mono ?_
          rintro e w2 ⟨rfl, hb2, hc2⟩
          go_wp2_with fail
          go_ret
          rw [HRES.out]
          exact ⟨rfl, HFIN.out 2 (by omega) _ hb2 hc2⟩
  · have hvar : s.var most = (0, s) := by simp [RS.var, hm]
    rw [hvar]
    have hb : ((met s.met) != 0) = true := by simp [met]; omega
    have HR := Lib.hid h
    have HM := Lib.hid hm
    clear h hvar hm
    go_enter Try.func41, Try.ntmps41
    go_wp2_with fail
    go_ret
    exact ⟨rfl, HR.out, Chg.refl _ _⟩
end Go.Proofs.Ytnfmeaifbankjaa
