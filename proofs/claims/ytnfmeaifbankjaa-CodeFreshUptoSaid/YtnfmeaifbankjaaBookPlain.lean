import Derived.Test.YtnfmeaifbankjaaBookGrow
import Derived.Test.YtnfmeaifbankjaaPin
set_option linter.unusedVariables false
namespace Go.Proofs.Ytnfmeaifbankjaa
open Go Go.RowKit Go.Sat
theorem marks_at {m n k : Nat} (h : k < (marks m n).length) : (marks m n)[k] = markB m k := by simp [marks]
set_option maxRecDepth 100000 in
set_option maxHeartbeats 3200000 in
theorem plain_any (bk : Nat) (T : TypeId) (O : Nat → Prop) (xs : List En) (at_ lo hi tn dn : Nat) (w : World) (h : BkI w bk T O xs at_ lo hi tn dn) (hx9 : xs.length ≤ 100000) :
    Calls Try.prog 56 #[.pointer (some ⟨bk, 0, none⟩)] w fun e w' => e = .returned (.bool true) ∧ Chg (fun _ => False) w w' := by
  obtain ⟨bs, bo, us, h1, h2, h3, h4, h5⟩ := h.ex
  obtain ⟨ba, bc, rfl, _⟩ := h3.own1.form
  have HB := Lib.hid h3
  have HE := Lib.hid h5
  generalize hN : xs.length = N at *
  clear h h1 h2 h3 h4 h5
  go_enter Try.func56, Try.ntmps56
  go_wp2_with fail
  go_loopw [3] (fun s3 wr => ∃ i : Nat, i ≤ N ∧ s3 = .int .i64 (i : Int) ∧ Chg (fun _ => False) w wr) (fun s3 _ => N - (intOf s3).toNat)
  case atStart => exact ⟨0, by omega, rfl, Chg.refl _ _⟩
  case round =>
    obtain ⟨i, hi, rfl, C⟩ := hrel
    have B := HB.out.kept C id (fun _ _ => id) (fun _ _ => id)
    have c0 : wr.cell? ⟨bk, 0, none⟩ = some (.slice ba N bc) := by rw [B.blk.cell]; rfl
    by_cases hlt : i < N
    · have hq : decide ((i : Int) < (N : Int)) = true := by simp; omega
      obtain ⟨x, hx⟩ : ∃ x, xs[i]? = some x := ⟨_, List.getElem?_eq_getElem (by omega)⟩
      have HX := Lib.hid hx
      have HC := Lib.hid C
      clear hx C B
      go_wp2_with fail
      go_loopw [4] (fun s4 wr2 => ∃ k : Nat, k ≤ x.n ∧ s4 = .int .i64 (k : Int) ∧ Chg (fun _ => False) w wr2) (fun s4 _ => x.n - (intOf s4).toNat)
      case atStart => exact ⟨0, by omega, rfl, HC.out⟩
      case round =>
        clear c0
        obtain ⟨k, hk, rfl, C⟩ := hrel
        have B := HB.out.kept C id (fun _ _ => id) (fun _ _ => id)
        have E := HE.out.kept C (fun _ _ => id)
        obtain ⟨R, _, hxm, hxn⟩ := E.rd i x HX.out
        obtain ⟨Bs, bsc, hbs, cs, _⟩ := Own.at1 (i := i) (u := x.v) B.own1 (by simp [HX.out])
        obtain ⟨Bo, boc, hbo, co, _⟩ := Own.at1 (i := i) (u := .int .i64 (x.m : Int)) B.own2 (by simp [HX.out])
        injection hbs with hba _ hbc
        subst hba hbc
        have c0 : wr.cell? ⟨bk, 0, none⟩ = some (.slice (some ⟨Bs, 0, none⟩) N bc) := by rw [B.blk.cell]; rfl
        have c1 : wr.cell? ⟨bk, 1, none⟩ = some bo := by rw [B.blk.cell]; rfl
        subst hbo
        obtain ⟨xa, xc, hxv, hxc⟩ := R.form
        rw [marks_len] at hxv hxc
        by_cases hkn : k < x.n
        · have hqk : decide ((k : Int) < (x.n : Int)) = true := by simp; omega
          obtain ⟨xb, xo, xc', hxv', _, _⟩ := R.addr (by rw [marks_len]; omega)
          rw [hxv] at hxv'
          injection hxv' with hxa e1 e2
          clear e1 e2
          subst hxa
          rw [hxv] at R cs
          have cx := R.cell (j := k) (by rw [marks_len]; exact hkn)
          rw [marks_at] at cx
          have HCC := Lib.hid C
          clear R B E C hxv
          generalize x.m = mv at *
          generalize x.n = nv at *
          go_wp2_with fail
          refine wp_region_pin (fun _ => false) [3, 6, 9] [19] (Same (fun _ => False) wr) mixed (by kernel_rfl) (fun _ _ h e => h.ext e) (Same.refl _ _).drew ?_
          simp only [wpSegs, List.take_succ_cons, List.take_zero, List.drop_succ_cons, List.drop_zero]
          go_wp2_with fail
          (refine (at_any mv k _ (by omega) (by omega)).mono ?_; rintro e w' ⟨rfl, hww⟩; rw [← hww]; clear hww w')
          go_wp2_with fail
          refine SegQ.normal ⟨fun z o h _ => h, ?_⟩
          go_wp2_with fail
          refine TQ.normal (by kernel_rfl) ⟨⟨PinAt.cell rfl rfl rfl c0 id (fun X h => by go_simp), PinAt.cell rfl rfl rfl cs id (fun X h => by go_simp), PinAt.cell rfl rfl rfl cx id (fun X h => by go_simp), trivial⟩, ?_⟩
          go_wp2_with fail
          exact ⟨⟨k + 1, by omega, by go_num, HCC.out.drew⟩, by simp [intOf]; omega⟩
        · obtain rfl : k = x.n := by omega
          have hqk : decide ((x.n : Int) < (x.n : Int)) = false := by simp
          rw [hxv] at cs
          have HCC := Lib.hid C
          clear R B E C hxv hkn hk
          generalize x.n = nv at *
          go_wp2_with fail
          exact ⟨⟨i + 1, by omega, by go_num, HCC.out⟩, by simp [intOf]; omega⟩
    · have hq : decide ((i : Int) < (N : Int)) = false := by simp; omega
      obtain rfl : i = N := by omega
      have c3 : wr.cell? ⟨bk, 3, none⟩ = some (.slice none 0 0) := by rw [B.blk.cell]; rfl
      have HC := Lib.hid C
      clear C B hlt hi
      go_wp2_with fail
      go_loopw [5] (fun s5 wr2 => s5 = .int .i64 0 ∧ wr2 = wr) (fun _ _ => 0)
      case atStart => exact ⟨rfl, rfl⟩
      case round =>
        obtain ⟨rfl, hwr⟩ := hrel
        have hwr2 := hwr.symm
        clear hwr
        subst hwr2
        go_wp2_with fail
        go_ret
        exact ⟨rfl, HC.out⟩
end Go.Proofs.Ytnfmeaifbankjaa
