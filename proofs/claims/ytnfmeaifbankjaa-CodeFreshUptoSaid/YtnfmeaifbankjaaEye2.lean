import Derived.Test.YtnfmeaifbankjaaEye
set_option linter.unusedVariables false
namespace Go.Proofs.Ytnfmeaifbankjaa
open Go Go.RowKit Go.Sat

theorem look_get (s : RS) (k : Nat) (h : k < s.look.length) (h2 : s.p + k < s.l.length) : s.look[k] = s.l[s.p + k] := by
  simp [RS.look]
/-- Where the Eye finds the end. -/
def lastI (s : RS) : Int := match endAt s.look with | none => -1 | some k => (s.p + k : Nat)

set_option maxRecDepth 100000 in
set_option maxHeartbeats 800000 in
theorem elast_any (pb : Nat) (v : Value) (T : TypeId) (s : RS) (w : World) (h : IsR w pb v T errO s) :
    Calls Try.prog 52 #[.pointer (some ⟨pb, 0, none⟩)] w fun e w' => e = .returned (.int .i64 (lastI s)) ∧ Drawn w w' := by
  have hlen := h.len
  have hle := h.ok.le
  have hll := RS.look_len_eq h.ok
  have hleft := RS.left_eq h.ok
  obtain ⟨ao, c, rfl, hc⟩ := h.rd.form
  have HR := Lib.hid h
  have hlk : (s.look.length : Int) = min 10 ((s.l.length : Int) - s.p) := by omega
  have HLK := Lib.hid hlk
  clear h hll hleft hlk
  go_enter Try.func52, Try.ntmps52
  go_wp2_with fail
  go_loopw [3] (fun i wr => ∃ k : Nat, k ≤ s.look.length ∧ i = .int .i64 k ∧ (∀ j (h : j < s.look.length), j < k → 128 ≤ s.look[j].toNat) ∧ Drawn w wr) (fun i _ => s.look.length - (intOf i).toNat)
  case atStart => exact ⟨0, Nat.zero_le _, rfl, fun j h h2 => by omega, Drawn.refl _⟩
  case round =>
    obtain ⟨k, hk, rfl, hall, hd⟩ := hrel
    have HALL := Lib.hid hall
    clear hall
    have R := HR.out.calm (hd.chg _)
    obtain ⟨c0, c1, -, -, -⟩ := R.facts
    by_cases hlt : k < s.look.length
    · have hk10 : k < 10 := by have := HLK.out; omega
      have hkl : s.p + k < s.l.length := by have := HLK.out; omega
      obtain ⟨g, off, yc', e1, _, _⟩ := R.rd.addr (by omega)
      cases e1
      have c3 := R.rd.cell hkl
      have hg := look_get s k hlt hkl
      rw [← hg] at c3
      have hd1 : decide (((s.p : Int) + k) < s.l.length) = true := by simp; omega
      by_cases h128 : s.look[k].toNat < 128
      · have hres : lastI s = ((s.p + k : Nat) : Int) := by
          unfold lastI
          rw [endAt_some s.look k hlt (fun i hi => HALL.out i (by omega) hi) h128]
        have HRES := Lib.hid hres
        generalize s.look[k] = x at c3 h128
        have hx := x.toNat_lt
        clear hg hres
        go_wp2_with fail
        refine wp_region_text mixed (by kernel_rfl) ?_
        go_wp2_with fail
        refine TQ.normal (by kernel_rfl) ?_
        go_wp2_with fail
        refine wp_region_text mixed (by kernel_rfl) ?_
        go_wp2_with fail
        refine TQ.normal (by kernel_rfl) ?_
        go_wp2_with fail
        go_ret
        exact ⟨by rw [HRES.out]; rfl, hd.drew.drew⟩
      · have hge : 128 ≤ s.look[k].toNat := by omega
        have HGE := Lib.hid hge
        generalize s.look[k] = x at c3 h128
        have hx := x.toNat_lt
        clear hg hge
        go_wp2_with fail
        refine wp_region_text mixed (by kernel_rfl) ?_
        go_wp2_with fail
        refine TQ.normal (by kernel_rfl) ?_
        go_wp2_with fail
        refine wp_region_text mixed (by kernel_rfl) ?_
        go_wp2_with fail
        refine TQ.normal (by kernel_rfl) ?_
        go_wp2_with fail
        go_roundw
        case rel => exact ⟨k + 1, by omega, by go_num, fun j h hj => by
          by_cases e : j = k
          · subst e; exact HGE.out
          · exact HALL.out j h (by omega), hd.drew.drew⟩
        case measure => simp [intOf]; omega
    · have hres : lastI s = -1 := by
        unfold lastI
        rw [endAt_none s.look (fun i hi => HALL.out i hi (by omega))]
      have HRES := Lib.hid hres
      have hend : ¬ k < 10 ∨ (k < 10 ∧ ¬ s.p + k < s.l.length) := by have := HLK.out; omega
      clear hres
      rcases hend with h10 | ⟨h10, hpl⟩
      · go_wp2_with fail
        refine wp_region_text mixed (by kernel_rfl) ?_
        go_wp2_with fail
        refine TQ.normal (by kernel_rfl) ?_
        go_wp2_with fail
        go_ret
        exact ⟨by rw [HRES.out]; rfl, hd.drew⟩
      · have hd1 : decide (((s.p : Int) + k) < s.l.length) = false := by simp; omega
        go_wp2_with fail
        refine wp_region_text mixed (by kernel_rfl) ?_
        go_wp2_with fail
        refine TQ.normal (by kernel_rfl) ?_
        go_wp2_with fail
        go_ret
        exact ⟨by rw [HRES.out]; rfl, hd.drew⟩
end Go.Proofs.Ytnfmeaifbankjaa
