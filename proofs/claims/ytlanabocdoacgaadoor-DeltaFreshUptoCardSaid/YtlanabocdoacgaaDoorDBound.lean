import Derived.Test.YtlanabocdoacgaaDoorDLaw2
import Derived.Deep.DeepCutAuto
set_option linter.unusedVariables false
namespace Go.Proofs.YtlanabocdoacgaaDoor
open Go Go.RowKit Go.Sat
set_option maxRecDepth 100000 in
set_option maxHeartbeats 6400000 in
theorem bound_any (x y : Value) (base target : List UInt8) (W : World) (hx : Rd W x base) (hy : Rd W y target) (hbl : base.length ≤ 2000000) (htl : target.length ≤ 2000000) :
    Calls Tryd.prog 28 #[x, y] W fun e w' => e = .returned (.int .i64 ((target.length : Int) - (lcp base target : Int) - (backR base target : Int) + 32)) ∧ Chg (fun _ => False) W w' := by
  have hxl : ∀ k, rdb x = some k → k < W.heap.size := fun k hk => Rd.lt hx hk
  have hyl : ∀ k, rdb y = some k → k < W.heap.size := fun k hk => Rd.lt hy hk
  obtain ⟨xa, xc, rfl, _⟩ := hx.form
  obtain ⟨ya, yc, rfl, _⟩ := hy.form
  have HX := Lib.hid hx
  have HY := Lib.hid hy
  have HXL := Lib.hid hxl
  have HYL := Lib.hid hyl
  obtain ⟨P, hP⟩ : ∃ P, P = lcp base target := ⟨_, rfl⟩
  have hPle := lcp_le base target
  rw [← hP] at hPle
  obtain ⟨hPb, hPt⟩ := hPle
  have hPstep : ∀ n (h1 : n < base.length) (h2 : n < target.length), n ≤ P → base[n] = target[n] → n + 1 ≤ P := fun n h1 h2 hn he => by rw [hP] at hn ⊢; exact lcp_step _ _ n hn h1 h2 he
  have hPstop : ∀ n, n ≤ P → (∀ (h1 : n < base.length) (h2 : n < target.length), base[n] ≠ target[n]) → P = n := fun n hn he => by rw [hP] at hn ⊢; exact lcp_stop _ _ n hn he
  obtain ⟨S, hS⟩ : ∃ S, S = backR base target := ⟨_, rfl⟩
  have hSS : S = lcp (base.drop P).reverse (target.drop P).reverse := by rw [hS, hP]; rfl
  have hSle := lcp_le (base.drop P).reverse (target.drop P).reverse
  rw [← hSS] at hSle
  simp only [List.length_reverse, List.length_drop] at hSle
  obtain ⟨hSb, hSt⟩ := hSle
  have hSstep : ∀ n (h1 : n < base.length - P) (h2 : n < target.length - P), n ≤ S → base[base.length - 1 - n]? = target[target.length - 1 - n]? → n + 1 ≤ S := fun n h1 h2 hn he => by
    rw [List.getElem?_eq_getElem (by omega), List.getElem?_eq_getElem (by omega)] at he
    rw [hSS] at hn ⊢
    exact lcp_step _ _ n hn (by simp; omega) (by simp; omega) (by rw [rev_get, rev_get]; exact Option.some.inj he)
  have hSstop : ∀ n, n ≤ S → (∀ (h1 : n < base.length - P) (h2 : n < target.length - P), base[base.length - 1 - n]? ≠ target[target.length - 1 - n]?) → S = n := fun n hn he => by
    rw [hSS] at hn ⊢
    refine lcp_stop _ _ n hn (fun h1 h2 => ?_)
    rw [rev_get, rev_get]
    intro h
    refine he (by simp at h1; omega) (by simp at h2; omega) ?_
    rw [List.getElem?_eq_getElem (by simp at h1; omega), List.getElem?_eq_getElem (by simp at h2; omega), h]
  have HPE := Lib.hid hP
  have HSE := Lib.hid hS
  have HPST := Lib.hid hPstep
  have HPSP := Lib.hid hPstop
  have HSST := Lib.hid hSstep
  have HSSP := Lib.hid hSstop
  clear hx hy hxl hyl hP hS hSS hPstep hPstop hSstep hSstop
  go_enter Tryd.func28, Tryd.ntmps28
  go_wp2_with fail
  go_loopw [5] (fun s6 wr => ∃ n : Nat, n ≤ P ∧ s6 = .int .i64 (n : Int) ∧ Chg (fun _ => False) W wr) (fun s6 _ => base.length - (intOf s6).toNat)
  case atStart => exact ⟨0, by omega, rfl, Chg.refl _ _⟩
  case round =>
    obtain ⟨n, hn, rfl, C⟩ := hrel
    go_upto_region 2 with (fail)
    go_cut [27] (fun s37 wx => s37 = .bool (decide (n < base.length ∧ n < target.length ∧ base[n]? = target[n]?)) ∧ Chg (fun _ => False) W wx)
    case first =>
      have hX3 := HX.out.kept C (fun _ _ => id)
      have hY3 := HY.out.kept C (fun _ _ => id)
      by_cases hb1 : n < base.length
      · have hd3 : decide (n < base.length) = true := by simp; omega
        by_cases ht1 : n < target.length
        · have hd4 : decide (n < target.length) = true := by simp; omega
          obtain ⟨yb, yo, yc', e1, _, _⟩ := hY3.addr (by omega)
          cases e1
          obtain ⟨xb, xo, xc', e2, _, _⟩ := hX3.addr (by omega)
          cases e2
          have cy := hY3.cell ht1
          have cx := hX3.cell hb1
          have hres : (decide (n < base.length ∧ n < target.length ∧ base[n]? = target[n]?)) = ((base[n].toNat : Int) == (target[n].toNat : Int)) := by
            rw [List.getElem?_eq_getElem hb1, List.getElem?_eq_getElem ht1]
            by_cases h : base[n] = target[n]
            · rw [h]; simp [hb1, ht1]
            · have : ¬ (base[n].toNat : Int) = (target[n].toNat : Int) := fun h2 => h (UInt8.toNat_inj.1 (by omega))
              simp [h, this]
          have HRES := Lib.hid hres
          clear hres
          generalize base[n] = z at *
          generalize target[n] = z2 at *
          clear hY3 hX3
          go_wp2_with fail
          refine wp_region_text mixed (by kernel_rfl) ?_
          go_wp2_with fail
          refine TQ.normal (by kernel_rfl) ?_
          go_wp2_with fail
          go_meet
          case rel => exact ⟨by rw [HRES.out], C.drew⟩
        · have hd4 : decide (n < target.length) = false := by simp; omega
          have hres : (decide (n < base.length ∧ n < target.length ∧ base[n]? = target[n]?)) = false := by simp; omega
          have HRES := Lib.hid hres
          clear hres hY3 hX3
          go_wp2_with fail
          refine wp_region_text mixed (by kernel_rfl) ?_
          go_wp2_with fail
          refine TQ.normal (by kernel_rfl) ?_
          go_wp2_with fail
          go_meet
          case rel => exact ⟨by rw [HRES.out], C.drew⟩
      · have hd3 : decide (n < base.length) = false := by simp; omega
        have hres : (decide (n < base.length ∧ n < target.length ∧ base[n]? = target[n]?)) = false := by simp; omega
        have HRES := Lib.hid hres
        clear hres hY3 hX3
        go_wp2_with fail
        refine wp_region_text mixed (by kernel_rfl) ?_
        go_wp2_with fail
        refine TQ.normal (by kernel_rfl) ?_
        go_wp2_with fail
        go_meet
        case rel => exact ⟨by rw [HRES.out], C.drew⟩
    case rest =>
      obtain ⟨rfl, C1⟩ := hcut
      clear C
      by_cases h1 : n < base.length ∧ n < target.length ∧ base[n]? = target[n]?
      · have hP1 : n + 1 ≤ P := HPST.out n h1.1 h1.2.1 hn (by obtain ⟨ha, hb, hc⟩ := h1; rw [List.getElem?_eq_getElem ha, List.getElem?_eq_getElem hb] at hc; exact Option.some.inj hc)
        have hb1 := h1.1
        rw [decide_eq_true h1]
        clear h1
        go_wp2_with fail
        go_roundw
        case rel => exact ⟨n + 1, hP1, by go_num, C1⟩
        case measure => simp [intOf]; omega
      · have hPn : P = n := HPSP.out n hn (fun a b h => h1 ⟨a, b, by rw [List.getElem?_eq_getElem a, List.getElem?_eq_getElem b, h]⟩)
        rw [decide_eq_false h1]
        clear h1
        subst hPn
        clear hn
        go_wp2_with fail
        obtain ⟨wo, rfl⟩ : ∃ wo : World, wo = wc := ⟨_, rfl⟩
        go_loopw [6] (fun s7 wr => ∃ n : Nat, n ≤ S ∧ s7 = .int .i64 (n : Int) ∧ Chg (fun _ => False) W wr) (fun s7 _ => base.length - (intOf s7).toNat)
        case atStart => exact ⟨0, by omega, rfl, C1⟩
        case round =>
          clear C1
          obtain ⟨n, hn, rfl, C⟩ := hrel
          go_upto_region 5 with (fail)
          go_cut [62] (fun s72 wx => s72 = .bool (decide (n < base.length - P ∧ n < target.length - P ∧ base[base.length - 1 - n]? = target[target.length - 1 - n]?)) ∧ Chg (fun _ => False) W wx)
          case first =>
            have hX3 := HX.out.kept C (fun _ _ => id)
            have hY3 := HY.out.kept C (fun _ _ => id)
            by_cases hb1 : n < base.length - P
            · have hd3 : decide ((n : Int) < (base.length : Int) - (P : Int)) = true := by simp; omega
              by_cases ht1 : n < target.length - P
              · have hd4 : decide ((n : Int) < (target.length : Int) - (P : Int)) = true := by simp; omega
                obtain ⟨u, hu⟩ : ∃ u, u = base.length - 1 - n := ⟨_, rfl⟩
                obtain ⟨z0, hz0⟩ : ∃ z, z = target.length - 1 - n := ⟨_, rfl⟩
                have hui : (base.length : Int) - 1 - (n : Int) = (u : Int) := by omega
                have hzi : (target.length : Int) - 1 - (n : Int) = (z0 : Int) := by omega
                have hub : u < base.length := by omega
                have hzb : z0 < target.length := by omega
                obtain ⟨yb, yo, yc', e1, _, _⟩ := hY3.addr (by omega)
                cases e1
                obtain ⟨xb, xo, xc', e2, _, _⟩ := hX3.addr (by omega)
                cases e2
                have cy := hY3.cell hzb
                have cx := hX3.cell hub
                have hres : (decide (n < base.length - P ∧ n < target.length - P ∧ base[base.length - 1 - n]? = target[target.length - 1 - n]?)) = ((base[u].toNat : Int) == (target[z0].toNat : Int)) := by
                  rw [← hu, ← hz0, List.getElem?_eq_getElem hub, List.getElem?_eq_getElem hzb]
                  by_cases h : base[u] = target[z0]
                  · rw [h]; simp [hb1, ht1]
                  · have : ¬ (base[u].toNat : Int) = (target[z0].toNat : Int) := fun h2 => h (UInt8.toNat_inj.1 (by omega))
                    simp [h, this]
                have HRES := Lib.hid hres
                clear hres
                generalize base[u] = z at *
                generalize target[z0] = z2 at *
                clear hY3 hX3 hu hz0
                go_wp2_with fail
                refine wp_region_text mixed (by kernel_rfl) ?_
                go_wp2_with fail
                refine TQ.normal (by kernel_rfl) ?_
                go_wp2_with fail
                go_meet
                case rel => exact ⟨by rw [HRES.out], C.drew⟩
              · have hd4 : decide ((n : Int) < (target.length : Int) - (P : Int)) = false := by simp; omega
                have hres : (decide (n < base.length - P ∧ n < target.length - P ∧ base[base.length - 1 - n]? = target[target.length - 1 - n]?)) = false := decide_eq_false (fun h => ht1 h.2.1)
                have HRES := Lib.hid hres
                clear hres hY3 hX3
                go_wp2_with fail
                refine wp_region_text mixed (by kernel_rfl) ?_
                go_wp2_with fail
                refine TQ.normal (by kernel_rfl) ?_
                go_wp2_with fail
                go_meet
                case rel => exact ⟨by rw [HRES.out], C.drew⟩
            · have hd3 : decide ((n : Int) < (base.length : Int) - (P : Int)) = false := by simp; omega
              have hres : (decide (n < base.length - P ∧ n < target.length - P ∧ base[base.length - 1 - n]? = target[target.length - 1 - n]?)) = false := decide_eq_false (fun h => hb1 h.1)
              have HRES := Lib.hid hres
              clear hres hY3 hX3
              go_wp2_with fail
              refine wp_region_text mixed (by kernel_rfl) ?_
              go_wp2_with fail
              refine TQ.normal (by kernel_rfl) ?_
              go_wp2_with fail
              go_meet
              case rel => exact ⟨by rw [HRES.out], C.drew⟩
          case rest =>
            obtain ⟨rfl, C1⟩ := hcut
            clear C
            by_cases h1 : n < base.length - P ∧ n < target.length - P ∧ base[base.length - 1 - n]? = target[target.length - 1 - n]?
            · have hP1 : n + 1 ≤ S := HSST.out n h1.1 h1.2.1 hn h1.2.2
              have hb1 := h1.1
              rw [decide_eq_true h1]
              clear h1
              go_wp2_with fail
              go_roundw
              case rel => exact ⟨n + 1, hP1, by go_num, C1⟩
              case measure => simp [intOf]; omega
            · have hPn : S = n := HSSP.out n hn (fun a b h => h1 ⟨a, b, h⟩)
              rw [decide_eq_false h1]
              clear h1
              subst hPn
              clear hn
              go_wp2_with fail
              go_ret
              rw [← HSE.out, ← HPE.out]
              exact ⟨rfl, C1⟩
end Go.Proofs.YtlanabocdoacgaaDoor
