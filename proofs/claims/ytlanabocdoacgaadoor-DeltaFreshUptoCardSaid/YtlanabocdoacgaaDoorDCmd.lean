import Derived.Test.YtlanabocdoacgaaDoorDPlain
import Derived.Test.YtlanabocdoacgaaDoorPlaceD
set_option linter.unusedVariables false
namespace Go.Sat
open Go Go.RowKit
/-- A part of a slice of bytes that reads. -/
theorem wpl_partK {P : Program} {ops : Array Oper} {rest : List Oper} {o : Oper} {a : Act} {Q : Exit → Act → World → Prop} {w : World} (hw : Region.wanted o (yielded ops a.tmps) = true) (t : TypeId) (x lo hi : Operand)
    (ho : o.op = .slice t x (some lo) (some hi) none) {e : TypeId} (ht : P.underlying t = some (.slice e)) (hsz : ∀ w, (sizeOf e).run P w = .ok 1 w) {ao : Option Addr} {n c : Nat} {l : List UInt8} (hx : a.eval x = .slice ao n c) (hr : Rd w (.slice ao n c) l)
    {i j : Int} (k1 k2 : IntKind) (l0 h0 : Nat) (hlo : a.eval lo = .int k1 i) (hhi : a.eval hi = .int k2 j) (hi0 : i = l0) (hj0 : j = h0) (h1 : l0 ≤ h0) (h2 : h0 ≤ l.length)
    (h : ∀ y, Rd w y ((l.drop l0).take (h0 - l0)) → (∀ k, rdb y = some k → rdb (.slice ao n c) = some k) → wpList P ops Q rest (a.put o.dst y) w) : wpList P ops Q (o :: rest) a w := by
  subst hi0 hj0
  have hp := hr.part h1 h2
  have hc : l.length ≤ c ∧ n = l.length := by
    obtain ⟨ao', c', e1, e2⟩ := hr.form
    injection e1 with e3 e4 e5
    omega
  have he : P.elem t = e := by simp [Program.elem, ht]
  have hrun : (Instr.slice t (.slice ao n c) (some (.int k1 (l0 : Int))) (some (.int k2 (h0 : Int))) none).run P w = .ok (.slice (ao.map fun a => if c = l0 then a else a.add l0) (h0 - l0) (c - l0)) w := by
    rw [run_slice_lh w t ao n c (by rw [he]; exact ht) k1 k2 l0 h0 (by omega) (by omega) (by omega), he, hsz]
    simp [sliced]
    split
    · cases ao <;> rfl
    · rfl
  have hrun2 : (Instr.sliceAt t (.slice ao n c) (some (.int k1 (l0 : Int))) (some (.int k2 (h0 : Int))) none).run P w = .ok (.slice (ao.map fun a => if c = l0 then a else a.add l0) (h0 - l0) (c - l0)) w := by
    rw [run_sliceAt_slice _ _ _ _ _ _ (by rw [he]; exact ht)]; exact hrun
  refine BigFrame.wpList_want hw fun K hK => ?_
  unfold Oper.wp execOp
  have := hK _ _ (h _ hp fun k hk => ?_)
  · simpa [ho, hlo, hhi, hx, hrun2, Oper.upon] using this
  · cases ao with
    | none => simp [rdb] at hk
    | some a =>
      simp only [rdb, Option.map_some] at hk ⊢
      split at hk
      · cases hk
      · rw [if_neg (by omega)]
        rw [← hk]
        split
        · rfl
        · unfold Addr.add; split <;> rfl
end Go.Sat
namespace Go.Proofs.YtlanabocdoacgaaDoor
open Go Go.RowKit Go.Sat
theorem RS.varOk {s : RS} (h : s.Ok) (most : Nat) : (s.var most).2.Ok ∧ (s.var most).1 ≤ most ∧ (s.var most).2.l = s.l := RS.var_ok h most
theorem dnum_any (n : Int) (w : World) : Calls Tryd.prog 14 #[.int .i64 n] w fun e w' => e = .returned (.int .i64 n) ∧ w = w' := by
  go_enter Tryd.func14, Tryd.ntmps14
  go_wp2_with fail
  go_ret
  exact ⟨rfl, rfl⟩
/-- What delta.command answers. -/
def CmdP (w : World) (pb : Nat) (v : Value) (T : TypeId) (base : List UInt8) (r : (Nat ⊕ Pc) × RS) (e : Ending) (w' : World) : Prop :=
  RStep w pb v T met r.2 w' ∧ match r.1 with
    | .inl f => e = .returned (.tuple #[.slice none 0 0, .int .i64 (f : Int)])
    | .inr p => ∃ y, e = .returned (.tuple #[y, .int .i64 0]) ∧ Rd w' y (p.bytes base)
theorem RStep.trans {w w1 w2 : World} {pb : Nat} {v : Value} {T : TypeId} {f : Nat → Int} {s1 s2 : RS} (h1 : RStep w pb v T f s1 w1) (h2 : RStep w1 pb v T f s2 w2) : RStep w pb v T f s2 w2 := ⟨h2.1, h1.2.trans h2.2 fun _ _ h => h⟩
theorem rdvarM (pb : Nat) (v : Value) (T : TypeId) (s : RS) (w : World) (h : IsR w pb v T met s) :
    Calls Tryd.prog 31 #[.pointer (some ⟨pb, 0, none⟩), .int .u64 18446744073709551615] w fun e w' => e = .returned (.int .u64 (s.var M64).1) ∧ RStep w pb v T met (s.var M64).2 w' := rdvar_any pb v T s M64 w h (by decide)
set_option maxRecDepth 100000 in
set_option maxHeartbeats 3200000 in
theorem command_any (pb : Nat) (v x : Value) (T : TypeId) (s : RS) (base : List UInt8) (room : Nat) (w : World) (h : IsR w pb v T met s) (hE : Errnos w) (hx : Rd w x base) (hs : ∀ k, rdb x = some k → k ≠ pb) (h0 : 0 < pb) (hbl : base.length ≤ 2000000) (hroom : room ≤ 65536) :
    Calls Tryd.prog 33 #[.pointer (some ⟨pb, 0, none⟩), x, .int .i64 (room : Int)] w (CmdP w pb v T base (oneR s base.length room)) := by
  obtain ⟨xa, xc, rfl, _⟩ := hx.form
  obtain ⟨o1, o2, o3⟩ := RS.var_ok h.ok M64
  have hvar := rdvarM pb v T s w h
  unfold oneR
  generalize s.var M64 = r at *
  obtain ⟨c, s1⟩ := r
  simp only at o1 o2 o3 hvar ⊢
  have hc63 : c ≤ 18446744073709551615 := o2
  have HV := Lib.hid hvar
  have HX := Lib.hid hx
  have HE := Lib.hid hE
  have HS := Lib.hid hs
  clear hvar hx hE hs h o2 o3
  go_enter Tryd.func33, Tryd.ntmps33
  go_wp2_with fail
  (refine HV.out.mono ?_; rintro e w1 ⟨rfl, R1, C1⟩)
  have E1 := HE.out.kept C1 (by omega)
  have X1 := HX.out.kept C1 HS.out
  have hf := rfault_any pb v T s1 w1 R1 E1
  by_cases hm : s1.met = 0
  · have he : (errO s1.met != 0) = false := by rw [errO_zero]; simp [hm]
    by_cases h2 : c < 2
    · have hone : oneC base.length room (c, s1) = (.inl 70, s1) := if_pos (.inr h2)
      have hz : ((c : Int) / 2 == 0) = true := by simp; omega
      have H1 := Lib.hid hone
      clear hone
      go_wp2_with fail
      (refine hf.mono ?_; rintro e w' ⟨rfl, rfl⟩)
      go_wp2_with fail
      go_ret2
      rw [H1.out]
      exact ⟨⟨R1, C1⟩, rfl⟩
    have hor : ¬ ((c, s1).2.met ≠ 0 ∨ (c, s1).1 < 2) := by simp only; omega
    have hz : ((c : Int) / 2 == 0) = false := by simp; omega
    have hc2 : 1 ≤ (c : Int) / 2 := by omega
    by_cases hr : room < c / 2
    · have hone : oneC base.length room (c, s1) = (.inl 73, s1) := by unfold oneC; rw [if_neg hor, if_pos (by simp only; omega)]
      have hd : decide ((room : Int) < (c : Int) / 2) = true := by simp; omega
      have H1 := Lib.hid hone
      clear hone hor hr
      go_wp2_with fail
      (refine hf.mono ?_; rintro e w' ⟨rfl, rfl⟩)
      go_wp2_with fail
      go_ret2
      rw [H1.out]
      exact ⟨⟨R1, C1⟩, rfl⟩
    have hd : decide ((room : Int) < (c : Int) / 2) = false := by simp; omega
    have hcr : (c : Int) / 2 ≤ room := by omega
    obtain ⟨n, hn⟩ : ∃ n, n = c / 2 := ⟨_, rfl⟩
    have hcn : (c : Int) / 2 = (n : Int) := by omega
    have HN := Lib.hid hcn
    by_cases hpar : c % 2 = 0
    · have hone : oneC base.length room (c, s1) = newC (s1.raw (n : Int)) := by unfold oneC; rw [if_neg hor, if_neg (by simp only; omega), if_pos hpar, hn]
      have hb : ((c : Int) % 2 == 0) = true := by simp; omega
      have hraw := rdraw_any pb v T s1 (n : Int) w1 R1
      have hlt : s1.Ok := o1
      generalize s1.raw (n : Int) = q at *
      obtain ⟨l, s2⟩ := q
      simp only at hraw
      have H1 := Lib.hid hone
      have HRAW := Lib.hid hraw
      clear hone hor hr hraw hn hcn hpar
      go_wp2_with fail
      (refine hf.mono ?_; rintro e w' ⟨rfl, rfl⟩)
      go_wp2_with fail
      rw [HN.out]
      (refine HRAW.out.mono ?_; rintro e w2 ⟨y, rfl, hy, hyb, R2, C2⟩)
      have E2 := E1.kept C2 (by omega)
      have hf2 := rfault_any pb v T s2 w2 R2 E2
      have RS2 : RStep w pb v T met s2 w2 := ⟨R2, C1.trans C2 fun _ _ h => h⟩
      clear C1 C2 R1 hf
      go_wp2_with fail
      (refine hf2.mono ?_; rintro e w' ⟨rfl, rfl⟩)
      by_cases hm2 : s2.met = 0
      · have he2 : (errO s2.met != 0) = false := by rw [errO_zero]; simp [hm2]
        go_wp2_with fail
        go_ret2
        rw [H1.out]
        unfold newC
        rw [if_neg (by simp only; omega)]
        exact ⟨RS2, y, rfl, Own.rd hy⟩
      · have he2 : (errO s2.met != 0) = true := by rw [errO_zero]; simp [hm2]
        go_wp2_with fail
        go_ret2
        rw [H1.out]
        unfold newC
        rw [if_pos hm2]
        exact ⟨RS2, rfl⟩
    · have hone : oneC base.length room (c, s1) = copC base.length n (s1.var M64) := by unfold oneC; rw [if_neg hor, if_neg (by simp only; omega), if_neg hpar, hn]
      have hb : ((c : Int) % 2 == 0) = false := by simp; omega
      have hvar := rdvarM pb v T s1 w1 R1
      obtain ⟨a1, a2, a3⟩ := RS.var_ok o1 M64
      generalize s1.var M64 = q at *
      obtain ⟨at_, s2⟩ := q
      simp only at hvar a1 a2 a3
      have ha63 : at_ ≤ 18446744073709551615 := a2
      have H1 := Lib.hid hone
      have HVAR := Lib.hid hvar
      have hn1 : 1 ≤ (n : Int) := by omega
      have hnr : (n : Int) ≤ room := by omega
      clear hone hor hr hvar hn hcn hpar a2 a3 hcr hc2
      go_wp2_with fail
      (refine hf.mono ?_; rintro e w' ⟨rfl, rfl⟩)
      go_wp2_with fail
      (refine HVAR.out.mono ?_; rintro e w2 ⟨rfl, R2, C2⟩)
      have E2 := E1.kept C2 (by omega)
      have hf2 := rfault_any pb v T s2 w2 R2 E2
      have RS2 : RStep w pb v T met s2 w2 := ⟨R2, C1.trans C2 fun _ _ h => h⟩
      have X2 := X1.kept C2 HS.out
      clear C1 C2 R1 hf
      go_wp2_with fail
      (refine hf2.mono ?_; rintro e w' ⟨rfl, rfl⟩)
      rw [HN.out] at hz hd
      by_cases hm2 : s2.met = 0
      · have he2 : (errO s2.met != 0) = false := by rw [errO_zero]; simp [hm2]
        by_cases h5 : base.length < at_
        · have hd5 : decide (base.length < at_) = true := by simp; omega
          have hcop : copC base.length n (at_, s2) = (.inl 72, s2) := by unfold copC; rw [if_neg (by simp only; omega), if_pos (.inl h5)]
          have H2 := Lib.hid hcop
          clear hcop h5
          go_wp2_with fail
          go_ret2
          rw [H1.out, H2.out]
          exact ⟨RS2, rfl⟩
        · have hd5 : decide (base.length < at_) = false := by simp; omega
          have hal : (at_ : Int) ≤ base.length := by omega
          by_cases h6 : base.length - at_ < n
          · have hcop : copC base.length n (at_, s2) = (.inl 72, s2) := by unfold copC; rw [if_neg (by simp only; omega), if_pos (.inr h6)]
            have hd6 : decide ((base.length : Int) - at_ < (c : Int) / 2) = true := by rw [HN.out]; simp; omega
            have H2 := Lib.hid hcop
            clear hcop h6 h5
            go_wp2_with fail
            go_ret2
            rw [H1.out, H2.out]
            exact ⟨RS2, rfl⟩
          · have hcop : copC base.length n (at_, s2) = (.inr (.copy at_ n), s2) := by unfold copC; rw [if_neg (by simp only; omega), if_neg (by simp only; omega)]
            have hd6 : decide ((base.length : Int) - at_ < (c : Int) / 2) = false := by rw [HN.out]; simp; omega
            have hcb : 0 ≤ (c : Int) / 2 := by omega
            have hcb2 : (c : Int) / 2 ≤ 65536 := by have := HN.out; omega
            have H2 := Lib.hid hcop
            have HAN : Hid (at_ + n ≤ base.length) := Lib.hid (by omega)
            clear hcop h6 h5
            go_wp2_with (first
              | ((with_reducible show wpList _ _ _ (⟨some 66, _, _, _, _, _⟩ :: _) _ _); refine wpl_partK rfl 24 (.tmp 61) (.tmp 62) (.tmp 65) rfl Tryd.underlying24 sizeU8 rfl X2 .u64 .u64 at_ (at_ + n) rfl rfl rfl (by have := HN.out; omega) (by omega) HAN.out ?_; intro y hy hyb; rw [show at_ + n - at_ = n from by omega] at hy)
              | fail)
            go_ret2
            rw [H1.out, H2.out]
            exact ⟨RS2, y, rfl, hy⟩
      · have he2 : (errO s2.met != 0) = true := by rw [errO_zero]; simp [hm2]
        go_wp2_with fail
        go_ret2
        rw [H1.out]
        unfold copC
        rw [if_pos hm2]
        exact ⟨RS2, rfl⟩
  · have he : (errO s1.met != 0) = true := by rw [errO_zero]; simp [hm]
    have hone : oneC base.length room (c, s1) = (.inl 70, s1) := if_pos (.inl hm)
    have H1 := Lib.hid hone
    clear hone
    go_wp2_with fail
    (refine hf.mono ?_; rintro e w' ⟨rfl, rfl⟩)
    go_wp2_with fail
    go_ret2
    rw [H1.out]
    exact ⟨⟨R1, C1⟩, rfl⟩
end Go.Proofs.YtlanabocdoacgaaDoor
