import Derived.Test.YtlanabocdoacgaaDoorDSize
import Derived.Test.YtlanabocdoacgaaDoorStruct
set_option linter.unusedVariables false
namespace Go.Proofs.YtlanabocdoacgaaDoor
open Go Go.RowKit Go.Sat
theorem widePiece : Wide Tryd.prog 88 3 := ⟨⟨_, Tryd.underlying88⟩, by kernel_rfl⟩
theorem one3 {a b c : Value} (ha : a.oneCell' = true) (hb : b.oneCell' = true) (hc : c.oneCell' = true) : (#[a, b, c].all (·.oneCell')) = true := by simp [ha, hb, hc]
/-- The cells of a piece. -/
def pcV : Pc → Value → List Value
  | .new b, y => [y, .int .i64 (-1), .int .i64 0]
  | .copy a n, _ => [.slice none 0 0, .int .i64 a, .int .i64 n]
/-- What satchelref7.one answers. -/
def OneP (w : World) (pb : Nat) (v : Value) (T : TypeId) (r : (Nat ⊕ Pc) × RS) (e : Ending) (w' : World) : Prop :=
  RStep w pb v T errO r.2 w' ∧ match r.1 with
    | .inl f => e = .returned (.tuple #[.agg #[.slice none 0 0, .int .i64 0, .int .i64 0], .int .i64 (f : Int)])
    | .inr (.new b) => ∃ y, e = .returned (.tuple #[.agg #[y, .int .i64 (-1), .int .i64 0], .int .i64 0]) ∧ Own w' 5 1 y b.length (bcells b) ∧ ∀ k, y.ownBlock = some k → w.heap.size ≤ k
    | .inr (.copy a n) => e = .returned (.tuple #[.agg #[.slice none 0 0, .int .i64 (a : Int), .int .i64 (n : Int)], .int .i64 0])
set_option maxRecDepth 100000 in
set_option maxHeartbeats 6400000 in
theorem one_any (pb : Nat) (v : Value) (T : TypeId) (s : RS) (base room : Nat) (w : World) (h : IsR w pb v T errO s) (hbl : base ≤ 2000000) (hroom : room ≤ 65536) :
    Calls Tryd.prog 51 #[.pointer (some ⟨pb, 0, none⟩), .int .i64 (base : Int), .int .i64 (room : Int)] w (OneP w pb v T (oneR s base room)) := by
  obtain ⟨o1, o2, o3⟩ := RS.var_ok h.ok M64
  obtain ⟨g, hg⟩ : ∃ g, g = w.heap.size := ⟨_, rfl⟩
  have C0 : Chg (fun _ => False) w (w.alloc (.cells #[.slice none 0 0, .int .i64 0, .int .i64 0] 88)) := (Chg.refl _ w).alloc _
  have B0 := Blk.new w 88 #[.slice none 0 0, .int .i64 0, .int .i64 0]
  have h0 := h.calm C0
  have hpb := h.blk.lt
  have hvrd := h.rd
  have hvar := evarM pb v T s _ h0
  rw [← hg] at B0
  have HG := Lib.hid hg
  unfold oneR
  generalize s.var M64 = r at *
  obtain ⟨c, s1⟩ := r
  simp only at o1 o2 o3 hvar ⊢
  have hc63 : c ≤ 18446744073709551615 := o2
  have HV := Lib.hid hvar
  have HWP := Lib.hid widePiece
  clear hvar h o2 o3 h0
  go_enter Tryd.func51, Tryd.ntmps51
  go_wp2_with fail
  rw [← hg]
  clear hg
  generalize w.alloc (.cells #[.slice none 0 0, .int .i64 0, .int .i64 0] 88) = w0 at *
  (refine HV.out.mono ?_; rintro e w1 ⟨rfl, R1, D1⟩)
  have C1 : Chg (fun k => k = pb) w w1 := (C0.mono fun _ _ h => h.elim).trans D1 (fun _ _ h => h)
  have B1 := B0.kept D1 (by have := HG.out; omega)
  have c2 := R1.facts.2.2.1
  have HRD := Lib.hid hvrd
  clear D1 B0 C0 hvrd
  by_cases hm : s1.met = 0
  · have he : (errO s1.met != 0) = false := by rw [errO_zero]; simp [hm]
    by_cases h2 : c < 2
    · have hone : oneC base room (c, s1) = (.inl 70, s1) := if_pos (.inr h2)
      have hz : decide ((c : Int) < 2) = true := by simp; omega
      have H1 := Lib.hid hone
      have HB1 := Lib.hid B1
      clear hone B1
      go_wp2_with (first
        | ((with_reducible show wpList _ _ _ (⟨none, .store _ (.tmp 6) (.tmp 23), _, _, _, _⟩ :: _) _ _); refine wpl_store_row (cs' := #[.slice none 0 0, .int .i64 0, .int .i64 0]) rfl 88 (.tmp 6) (.tmp 23) rfl rfl rfl HB1.out HWP.out.2 rfl (one3 rfl rfl rfl) ?_; intro w2 B2 C2)
        | fail)
      refine bodyPost_ret (results_wide_tmp rfl rfl B2 HWP.out rfl) rfl ?_
      rw [H1.out]
      have CC : Chg (fun k => k = pb) w w2 := C1.trans C2 (fun q hq h => by have := HG.out; have h' : q = g := h; omega)
      exact ⟨⟨R1.kept C2 (by have := HG.out; omega) (fun k hk h => by have h' : k = g := h; have := HG.out; subst h'; exact absurd (Rd.lt HRD.out hk) (by omega)), CC⟩, rfl⟩
    have hor : ¬ ((c, s1).2.met ≠ 0 ∨ (c, s1).1 < 2) := by simp only; omega
    have hz : decide ((c : Int) < 2) = false := by simp; omega
    by_cases hr : room < c / 2
    · have hone : oneC base room (c, s1) = (.inl 73, s1) := by unfold oneC; rw [if_neg hor, if_pos (by simp only; omega)]
      have hd : decide ((room : Int) < (c : Int) / 2) = true := by simp; omega
      have H1 := Lib.hid hone
      have HB1 := Lib.hid B1
      clear hone hor hr B1
      go_wp2_with (first
        | ((with_reducible show wpList _ _ _ (⟨none, .store _ (.tmp 6) (.tmp 30), _, _, _, _⟩ :: _) _ _); refine wpl_store_row (cs' := #[.slice none 0 0, .int .i64 0, .int .i64 0]) rfl 88 (.tmp 6) (.tmp 30) rfl rfl rfl HB1.out HWP.out.2 rfl (one3 rfl rfl rfl) ?_; intro w2 B2 C2)
        | fail)
      refine bodyPost_ret (results_wide_tmp rfl rfl B2 HWP.out rfl) rfl ?_
      rw [H1.out]
      have CC : Chg (fun k => k = pb) w w2 := C1.trans C2 (fun q hq h => by have := HG.out; have h' : q = g := h; omega)
      exact ⟨⟨R1.kept C2 (by have := HG.out; omega) (fun k hk h => by have h' : k = g := h; have := HG.out; subst h'; exact absurd (Rd.lt HRD.out hk) (by omega)), CC⟩, rfl⟩
    have hd : decide ((room : Int) < (c : Int) / 2) = false := by simp; omega
    have hcr : (c : Int) / 2 ≤ room := by omega
    obtain ⟨n, hn⟩ : ∃ n, n = c / 2 := ⟨_, rfl⟩
    have hcn : (c : Int) / 2 = (n : Int) := by omega
    have HN := Lib.hid hcn
    by_cases hpar : c % 2 = 0
    · have hone : oneC base room (c, s1) = newC (s1.raw (n : Int)) := by unfold oneC; rw [if_neg hor, if_neg (by simp only; omega), if_pos hpar, hn]
      have hb : ((c : Int) % 2 == 0) = true := by simp; omega
      have hraw := eraw_any pb v T s1 (n : Int) w1 R1
      generalize s1.raw (n : Int) = q at *
      obtain ⟨l, s2⟩ := q
      simp only at hraw
      have H1 := Lib.hid hone
      have HRAW := Lib.hid hraw
      have HB1 := Lib.hid B1
      clear hone hor hr hraw hn hcn hpar B1
      go_wp2_with fail
      rw [HN.out]
      (refine HRAW.out.mono ?_; rintro e w2 ⟨y, rfl, hy, hyb, R2, C2⟩)
      have CC2 : Chg (fun k => k = pb) w w2 := C1.trans C2 (fun _ _ h => h)
      have HB2 := Lib.hid (HB1.out.kept C2 (by have := HG.out; omega))
      have k2 := R2.facts.2.2.1
      have hgw1 := HB1.out.lt
      have hww1 := C1.size
      have HRD2 := Lib.hid R2.rd
      clear C1 C2 R1
      by_cases hm2 : s2.met = 0
      · have he2 : (errO s2.met != 0) = false := by rw [errO_zero]; simp [hm2]
        obtain ⟨ya, yc, rfl, hyc⟩ := hy.form
        have HY := Lib.hid hy
        clear hy
        go_wp2_with (first
          | ((with_reducible show wpList _ _ _ (⟨none, .store _ (.tmp 6) (.tmp 45), _, _, _, _⟩ :: _) _ _); refine wpl_store_row (cs' := #[.slice ya l.length yc, .int .i64 (-1), .int .i64 0]) rfl 88 (.tmp 6) (.tmp 45) rfl rfl rfl HB2.out HWP.out.2 rfl (one3 rfl rfl rfl) ?_; intro w3 B3 C3)
          | fail)
        refine bodyPost_ret (results_wide_tmp rfl rfl B3 HWP.out rfl) rfl ?_
        rw [H1.out]
        unfold newC
        rw [if_neg (by simp only; omega)]
        have CC : Chg (fun k => k = pb) w w3 := CC2.trans C3 (fun q hq h => by have := HG.out; have h' : q = g := h; omega)
        refine ⟨⟨R2.kept C3 (by have := HG.out; omega) (fun k hk h => ?_), CC⟩, _, rfl, HY.out.kept C3 (fun k hk h => ?_), fun k hk => by have := hyb k hk; omega⟩
        · have h' : k = g := h
          have := HG.out
          subst h'
          exact absurd (Rd.lt HRD.out hk) (by omega)
        · have h' : k = g := h
          have := hyb k hk
          omega
      · have he2 : (errO s2.met != 0) = true := by rw [errO_zero]; simp [hm2]
        go_wp2_with (first
          | ((with_reducible show wpList _ _ _ (⟨none, .store _ (.tmp 6) (.tmp 43), _, _, _, _⟩ :: _) _ _); refine wpl_store_row (cs' := #[.slice none 0 0, .int .i64 0, .int .i64 0]) rfl 88 (.tmp 6) (.tmp 43) rfl rfl rfl HB2.out HWP.out.2 rfl (one3 rfl rfl rfl) ?_; intro w3 B3 C3)
          | fail)
        refine bodyPost_ret (results_wide_tmp rfl rfl B3 HWP.out rfl) rfl ?_
        rw [H1.out]; unfold newC; rw [if_pos hm2]
        have CC : Chg (fun k => k = pb) w w3 := CC2.trans C3 (fun q hq h => by have := HG.out; have h' : q = g := h; omega)
        exact ⟨⟨R2.kept C3 (by have := HG.out; omega) (fun k hk h => by have h' : k = g := h; have := HG.out; subst h'; exact absurd (Rd.lt HRD.out hk) (by omega)), CC⟩, rfl⟩
    · have hone : oneC base room (c, s1) = copC base n (s1.var M64) := by unfold oneC; rw [if_neg hor, if_neg (by simp only; omega), if_neg hpar, hn]
      have hb : ((c : Int) % 2 == 0) = false := by simp; omega
      have hvar := evarM pb v T s1 w1 R1
      obtain ⟨a1, a2, a3⟩ := RS.var_ok o1 M64
      generalize s1.var M64 = q at *
      obtain ⟨at_, s2⟩ := q
      simp only at hvar a1 a2 a3
      have ha63 : at_ ≤ 18446744073709551615 := a2
      have H1 := Lib.hid hone
      have HVAR := Lib.hid hvar
      have HB1 := Lib.hid B1
      have hn1 : 0 ≤ (n : Int) := by omega
      have hnr : (n : Int) ≤ room := by omega
      clear hone hor hr hvar hn hcn hpar a2 a3 hcr B1
      go_wp2_with fail
      (refine HVAR.out.mono ?_; rintro e w2 ⟨rfl, R2, C2⟩)
      have CC2 : Chg (fun k => k = pb) w w2 := C1.trans C2 (fun _ _ h => h)
      have HB2 := Lib.hid (HB1.out.kept C2 (by have := HG.out; omega))
      have k2 := R2.facts.2.2.1
      have hgw1 := HB1.out.lt
      have hww1 := C1.size
      clear C1 C2 R1
      rw [HN.out] at hd
      by_cases hm2 : s2.met = 0
      · have he2 : (errO s2.met != 0) = false := by rw [errO_zero]; simp [hm2]
        by_cases h5 : base < at_
        · have hd5 : decide (base < at_) = true := by simp; omega
          have hcop : copC base n (at_, s2) = (.inl 72, s2) := by unfold copC; rw [if_neg (by simp only; omega), if_pos (.inl h5)]
          have H2 := Lib.hid hcop
          clear hcop h5
          go_wp2_with (first
            | ((with_reducible show wpList _ _ _ (⟨none, .store _ (.tmp 6) (.tmp 66), _, _, _, _⟩ :: _) _ _); refine wpl_store_row (cs' := #[.slice none 0 0, .int .i64 0, .int .i64 0]) rfl 88 (.tmp 6) (.tmp 66) rfl rfl rfl HB2.out HWP.out.2 rfl (one3 rfl rfl rfl) ?_; intro w3 B3 C3)
            | fail)
          refine bodyPost_ret (results_wide_tmp rfl rfl B3 HWP.out rfl) rfl ?_
          rw [H1.out, H2.out]
          have CC : Chg (fun k => k = pb) w w3 := CC2.trans C3 (fun q hq h => by have := HG.out; have h' : q = g := h; omega)
          exact ⟨⟨R2.kept C3 (by have := HG.out; omega) (fun k hk h => by have h' : k = g := h; have := HG.out; subst h'; exact absurd (Rd.lt HRD.out hk) (by omega)), CC⟩, rfl⟩
        · have hd5 : decide (base < at_) = false := by simp; omega
          have hal : (at_ : Int) ≤ base := by omega
          have hcb : 0 ≤ (c : Int) / 2 := by omega
          have hcb2 : (c : Int) / 2 ≤ 65536 := by have := HN.out; omega
          by_cases h6 : base - at_ < n
          · have hcop : copC base n (at_, s2) = (.inl 72, s2) := by unfold copC; rw [if_neg (by simp only; omega), if_pos (.inr h6)]
            have hd6 : decide ((base : Int) < at_ + (c : Int) / 2) = true := by rw [HN.out]; simp; omega
            have H2 := Lib.hid hcop
            clear hcop h6 h5
            go_wp2_with (first
              | ((with_reducible show wpList _ _ _ (⟨none, .store _ (.tmp 6) (.tmp 66), _, _, _, _⟩ :: _) _ _); refine wpl_store_row (cs' := #[.slice none 0 0, .int .i64 0, .int .i64 0]) rfl 88 (.tmp 6) (.tmp 66) rfl rfl rfl HB2.out HWP.out.2 rfl (one3 rfl rfl rfl) ?_; intro w3 B3 C3)
              | fail)
            refine bodyPost_ret (results_wide_tmp rfl rfl B3 HWP.out rfl) rfl ?_
            rw [H1.out, H2.out]
            have CC : Chg (fun k => k = pb) w w3 := CC2.trans C3 (fun q hq h => by have := HG.out; have h' : q = g := h; omega)
            exact ⟨⟨R2.kept C3 (by have := HG.out; omega) (fun k hk h => by have h' : k = g := h; have := HG.out; subst h'; exact absurd (Rd.lt HRD.out hk) (by omega)), CC⟩, rfl⟩
          · have hcop : copC base n (at_, s2) = (.inr (.copy at_ n), s2) := by unfold copC; rw [if_neg (by simp only; omega), if_neg (by simp only; omega)]
            have hd6 : decide ((base : Int) < at_ + (c : Int) / 2) = false := by rw [HN.out]; simp; omega
            have H2 := Lib.hid hcop
            clear hcop h6 h5
            go_wp2_with (first
              | ((with_reducible show wpList _ _ _ (⟨none, .store _ (.tmp 6) (.tmp 71), _, _, _, _⟩ :: _) _ _); refine wpl_store_row (cs' := #[.slice none 0 0, .int .i64 (at_ : Int), .int .i64 ((c : Int) / 2)]) rfl 88 (.tmp 6) (.tmp 71) rfl rfl rfl HB2.out HWP.out.2 rfl (one3 rfl rfl rfl) ?_; intro w3 B3 C3)
              | fail)
            refine bodyPost_ret (results_wide_tmp rfl rfl B3 HWP.out rfl) rfl ?_
            rw [H1.out, H2.out]
            have CC : Chg (fun k => k = pb) w w3 := CC2.trans C3 (fun q hq h => by have := HG.out; have h' : q = g := h; omega)
            exact ⟨⟨R2.kept C3 (by have := HG.out; omega) (fun k hk h => by have h' : k = g := h; have := HG.out; subst h'; exact absurd (Rd.lt HRD.out hk) (by omega)), CC⟩, by simp only; rw [HN.out]; rfl⟩
      · have he2 : (errO s2.met != 0) = true := by rw [errO_zero]; simp [hm2]
        go_wp2_with (first
          | ((with_reducible show wpList _ _ _ (⟨none, .store _ (.tmp 6) (.tmp 53), _, _, _, _⟩ :: _) _ _); refine wpl_store_row (cs' := #[.slice none 0 0, .int .i64 0, .int .i64 0]) rfl 88 (.tmp 6) (.tmp 53) rfl rfl rfl HB2.out HWP.out.2 rfl (one3 rfl rfl rfl) ?_; intro w3 B3 C3)
          | fail)
        refine bodyPost_ret (results_wide_tmp rfl rfl B3 HWP.out rfl) rfl ?_
        rw [H1.out]; unfold copC; rw [if_pos hm2]
        have CC : Chg (fun k => k = pb) w w3 := CC2.trans C3 (fun q hq h => by have := HG.out; have h' : q = g := h; omega)
        exact ⟨⟨R2.kept C3 (by have := HG.out; omega) (fun k hk h => by have h' : k = g := h; have := HG.out; subst h'; exact absurd (Rd.lt HRD.out hk) (by omega)), CC⟩, rfl⟩
  · have he : (errO s1.met != 0) = true := by rw [errO_zero]; simp [hm]
    have hone : oneC base room (c, s1) = (.inl 70, s1) := if_pos (.inl hm)
    have H1 := Lib.hid hone
    have HB1 := Lib.hid B1
    clear hone B1
    go_wp2_with (first
      | ((with_reducible show wpList _ _ _ (⟨none, .store _ (.tmp 6) (.tmp 23), _, _, _, _⟩ :: _) _ _); refine wpl_store_row (cs' := #[.slice none 0 0, .int .i64 0, .int .i64 0]) rfl 88 (.tmp 6) (.tmp 23) rfl rfl rfl HB1.out HWP.out.2 rfl (one3 rfl rfl rfl) ?_; intro w2 B2 C2)
      | fail)
    refine bodyPost_ret (results_wide_tmp rfl rfl B2 HWP.out rfl) rfl ?_
    rw [H1.out]
    have CC : Chg (fun k => k = pb) w w2 := C1.trans C2 (fun q hq h => by have := HG.out; have h' : q = g := h; omega)
    exact ⟨⟨R1.kept C2 (by have := HG.out; omega) (fun k hk h => by have h' : k = g := h; have := HG.out; subst h'; exact absurd (Rd.lt HRD.out hk) (by omega)), CC⟩, rfl⟩
end Go.Proofs.YtlanabocdoacgaaDoor
