import Derived.Test.YtnfmeaifbankjaaReader4
set_option linter.unusedVariables false
namespace Go.Proofs.Ytnfmeaifbankjaa
open Go Go.RowKit Go.Sat

/-- The document's number of what was met. -/
def errO (m : Nat) : Int := if m = 0 then 0 else if m = 1 then 10 else if m = 2 then 11 else if m = 3 then 12 else 14
theorem errO_zero (m : Nat) : ((errO m) != 0) = (m != 0) := by
  unfold errO
  by_cases h : m = 0
  · simp [h]
  · have : (m != 0) = true := by simp [h]
    rw [this, if_neg h]
    repeat (first | rfl | split)

set_option maxRecDepth 100000 in
theorem eleft_any (pb : Nat) (v : Value) (T : TypeId) (f : Nat → Int) (s : RS) (w : World) (h : IsR w pb v T f s) :
    Calls Try.prog 45 #[.pointer (some ⟨pb, 0, none⟩)] w fun e w' => e = .returned (.int .i64 s.left) ∧ Drawn w w' := by
  obtain ⟨c0, c1, -, -, -⟩ := h.facts
  obtain ⟨ao, c, rfl, hc⟩ := h.rd.form
  have hle := h.ok.le
  have hlen := h.len
  have hleft := RS.left_eq h.ok
  clear h
  have HL := Lib.hid hleft
  clear hleft
  go_enter Try.func45, Try.ntmps45
  go_wp2_with fail
  refine wp_region_text mixed (by kernel_rfl) ?_
  go_wp2_with fail
  refine TQ.normal (by kernel_rfl) ?_
  go_wp2_with fail
  go_ret
  exact ⟨by rw [HL.out]; rfl, (Drawn.refl w).drew⟩

set_option maxRecDepth 100000 in
set_option maxHeartbeats 800000 in
theorem eraw_any (pb : Nat) (v : Value) (T : TypeId) (s : RS) (n : Int) (w : World) (h : IsR w pb v T errO s) :
    Calls Try.prog 24 #[.pointer (some ⟨pb, 0, none⟩), .int .i64 n] w (RTake w pb v T errO (s.raw n).1 (s.raw n).2) := by
  have hlen := h.len
  have hle := h.ok.le
  have hmet := h.ok.met
  obtain ⟨c0, c1, c2, f1, f2⟩ := h.facts
  by_cases hm : s.met = 0
  · have hb : ((errO s.met) != 0) = false := by rw [errO_zero]; simp [hm]
    by_cases hn : n < 0
    · have hraw : s.raw n = ([], s.fall 4) := by simp [RS.raw, hm, hn]
      rw [hraw]
      have HR := Lib.hid h
      have HM := Lib.hid hm
      clear h hraw hm
      go_enter Try.func24, Try.ntmps24
      go_wp2_with fail
      go_ret
      have hc := setCell_chg w ⟨pb, 2, none⟩ (.int .i64 14)
      exact ⟨_, rfl, World.ownsRow_nil _ _ _ _, fun k hk => by simp [Value.ownBlock] at hk, HR.out.put rfl (RS.fall_ok HR.out.ok (by omega)) (HR.out.blk.set 2 _) hc, hc⟩
    · have hraw : s.raw n = s.next n := by simp [RS.raw, hn]
      rw [hraw]
      by_cases hlt : (s.left : Int) < n
      · have hres : s.next n = ([], s.fall 1) := by simp [RS.next, hm, hlt]
        rw [hres]
        have HR := Lib.hid h
        have HM := Lib.hid hm
        clear h hraw hm hres
        go_enter Try.func24, Try.ntmps24
        go_wp2_with fail
        refine (eleft_any pb v T errO s _ HR.out).mono ?_
        rintro e w1 ⟨rfl, hd⟩
        have R1 := HR.out.calm (hd.chg _)
        obtain ⟨k0, k1, k2, g1, g2⟩ := R1.facts
        go_wp2_with fail
        go_ret
        have hc := setCell_chg w1 ⟨pb, 2, none⟩ (.int .i64 10)
        have hc2 := (hd.chg (fun k => k = pb)).trans hc fun _ _ h => h
        exact ⟨_, rfl, World.ownsRow_nil _ _ _ _, fun k hk => by simp [Value.ownBlock] at hk, R1.put rfl (RS.fall_ok R1.ok (by omega)) (R1.blk.set 2 _) hc, hc2⟩
      · obtain ⟨m, rfl⟩ := Int.eq_ofNat_of_zero_le (show 0 ≤ n by omega)
        have hleft := RS.left_eq h.ok
        have hres : s.next m = ((s.l.drop s.p).take m, { s with p := s.p + m }) := by simp [RS.next, hm]; omega
        rw [hres]
        obtain ⟨bb, hbb⟩ : ∃ bb, (s.l.drop s.p).take m = bb := ⟨_, rfl⟩
        rw [hbb]
        have hbl : bb.length ≤ s.l.length := by rw [← hbb]; simp; omega
        have HBB := Lib.hid hbb
        clear hbb
        have hm1 : s.p + m ≤ s.l.length := by omega
        have hm2 : (m : Int) ≤ s.left := by omega
        obtain ⟨ao, c, rfl, hc⟩ := h.rd.form
        have HR := Lib.hid h
        have HM := Lib.hid hm
        clear h hraw hm hres hleft hn hlt
        go_enter Try.func24, Try.ntmps24
        go_wp2_with fail
        refine (eleft_any pb _ T errO s _ HR.out).mono ?_
        rintro e w1 ⟨rfl, hd⟩
        have R1 := HR.out.calm (hd.chg _)
        obtain ⟨k0, k1, k2, g1, g2⟩ := R1.facts
        go_wp2_with fail
        refine wp_region_text mixed (by kernel_rfl) ?_
        go_wp2_with ((with_reducible show wpList _ _ _ (⟨some 40, _, _, _, _, _⟩ :: _) _ _); refine wpl_part rfl 22 (.tmp 29) (.tmp 33) (.tmp 39) rfl Try.underlying22 sizeU8 rfl R1.rd.drew s.p (s.p + m) rfl rfl rfl (by omega) (by omega) hm1 ?_; intro y hy hyb; rw [show s.p + m - s.p = m from by omega, HBB.out] at hy)
        refine (copy_any _ _ _ hy (by omega)).mono ?_
        rintro e w2 ⟨rfl, ho, hc2, hs2⟩
        go_wp2_with fail
        refine TQ.normal (by kernel_rfl) ?_
        have hd2 : Chg (fun _ => False) w1 w2 := ((Chg.refl (fun _ => False) w1).drew).trans hc2 fun _ _ h => h
        have R2 := R1.calm hd2
        obtain ⟨j0, j1, j2, i1, i2⟩ := R2.facts
        go_wp2_with fail
        go_ret
        have hc3 := setCell_chg w2 ⟨pb, 1, none⟩ (.int .i64 ((s.p : Int) + m))
        have hsz := hd2.size
        have hlt1 := R1.blk.lt
        have hwd : w.heap.size ≤ w1.heap.size := (hd.chg (fun _ => False)).size
        exact ⟨_, rfl, ho.kept hc3 (fun k hk e => by simp [Value.ownBlock] at hk; subst hk; have e : w1.heap.size = pb := e; omega), fun k hk => by simp [Value.ownBlock] at hk; omega, R2.put rfl ⟨hm1, hmet⟩ (R2.blk.set 1 _) hc3, (((hd.chg (fun k => k = pb)).trans hd2 fun _ _ h => h.elim).trans hc3 fun _ _ h => h)⟩
  · have hraw : s.raw n = ([], s) := by simp [RS.raw, RS.next, hm]
    rw [hraw]
    have hb : ((errO s.met) != 0) = true := by rw [errO_zero]; simp [hm]
    have HR := Lib.hid h
    clear h hraw hm
    go_enter Try.func24, Try.ntmps24
    go_wp2_with fail
    go_ret
    exact ⟨_, rfl, World.ownsRow_nil _ _ _ _, fun k hk => by simp [Value.ownBlock] at hk, HR.out, Chg.refl _ _⟩
end Go.Proofs.Ytnfmeaifbankjaa
