import Derived.Test.YtlanabocdoacgaaDoorDMiddle
import Derived.Deep.DeepCutAuto
set_option linter.unusedVariables false
namespace Go.Sat
open Go
/-- What the two have in common at the end, behind what they have in common at the beginning. -/
def backR (base target : List UInt8) : Nat := lcp (base.drop (lcp base target)).reverse (target.drop (lcp base target)).reverse
def makeR (base target : List UInt8) : List UInt8 :=
  varB base.length ++ varB target.length ++ repB 0 (lcp base target) ++ midR base ((target.drop (lcp base target)).take (target.length - backR base target - lcp base target)) ++ repB (base.length - backR base target) (backR base target)
theorem rev_get (l : List UInt8) (p n : Nat) (h : n < (l.drop p).reverse.length) : (l.drop p).reverse[n] = l[l.length - 1 - n]'(by simp at h; omega) := by
  rw [List.getElem_reverse, List.getElem_drop]
  congr 1
  simp at h ⊢
  omega
theorem midL_len (base b : List UInt8) (f : List UInt8 → Option Nat) (hb : b.length ≤ 65536) (hf : ∀ x a, f x = some a → a + 8 ≤ base.length) (hbl : base.length ≤ 65536) : ∀ (fu from_ i : Nat), from_ ≤ i → i ≤ b.length → (midL base b f fu from_ i).length ≤ 4 * (b.length - from_) + 10
  | 0, from_, i, h1, h2 => by have := freB_len (b.drop from_) (by simp; omega); unfold midL; simp at this; omega
  | fu + 1, from_, i, h1, h2 => by
    unfold midL
    split
    · split
      · have := midL_len base b f hb hf hbl fu from_ (i + 1) (by omega) (by omega); exact this
      · rename_i a ha
        split
        · exact midL_len base b f hb hf hbl fu from_ (i + 1) (by omega) (by omega)
        · have hl := (lcp_le (b.drop i) (base.drop a)).1
          have hl2 := (lcp_le (b.drop i) (base.drop a)).2
          rw [List.length_drop] at hl hl2
          have h3 := midL_len base b f hb hf hbl fu (i + lcp (b.drop i) (base.drop a)) (i + lcp (b.drop i) (base.drop a)) (by omega) (by omega)
          have h4 := freB_len ((b.drop from_).take (i - from_)) (by rw [List.length_take, List.length_drop]; omega)
          rw [List.length_take, List.length_drop] at h4
          have h5 := hf _ _ ha
          have h6 := repB_len a (lcp (b.drop i) (base.drop a)) (by omega) (by omega)
          rw [List.length_append, List.length_append]
          omega
    · have := freB_len (b.drop from_) (by simp; omega); simp at this; omega
end Go.Sat
namespace Go.Proofs.YtlanabocdoacgaaDoor
open Go Go.RowKit Go.Sat
theorem midR_len (base b : List UInt8) (hb : b.length ≤ 65536) (hbl : base.length ≤ 65536) : (midR base b).length ≤ 4 * b.length + 10 := by
  have := midL_len base b (placesF base ((base.length - 4) / 4)) hb (fun x a h => by
    obtain ⟨i, h1, h2, _⟩ := placesF_at _ _ _ _ h
    omega) hbl b.length 0 0 (Nat.le_refl _) (Nat.zero_le _)
  exact this
set_option maxRecDepth 100000 in
set_option maxHeartbeats 6400000 in
theorem make_any (x y : Value) (base target : List UInt8) (W : World) (hx : Rd W x base) (hy : Rd W y target) (hbl : base.length ≤ 2000000) (htl : target.length ≤ 2000000) :
    Calls Tryd.prog 18 #[x, y] W (AppP W (if base.length ≤ 65536 ∧ target.length ≤ 65536 then (makeR base target, 0) else ([], 73))) := by
  have hxl : ∀ k, rdb x = some k → k < W.heap.size := fun k hk => Rd.lt hx hk
  have hyl : ∀ k, rdb y = some k → k < W.heap.size := fun k hk => Rd.lt hy hk
  obtain ⟨xa, xc, rfl, _⟩ := hx.form
  obtain ⟨ya, yc, rfl, _⟩ := hy.form
  by_cases hlong : base.length ≤ 65536 ∧ target.length ≤ 65536
  · rw [if_pos hlong]
    obtain ⟨hb16, ht16⟩ := hlong
    have hd1 : decide (65536 < (base.length : Int)) = false := by simp; omega
    have hd2 : decide (65536 < (target.length : Int)) = false := by simp; omega
    have HX := Lib.hid hx
    have HY := Lib.hid hy
    have HXL := Lib.hid hxl
    have HYL := Lib.hid hyl
    obtain ⟨P, hP⟩ : ∃ P, P = lcp base target := ⟨_, rfl⟩
    have hPle := lcp_le base target
    rw [← hP] at hPle
    obtain ⟨hPb, hPt⟩ := hPle
    have hPstep : ∀ n (h1 : n < base.length) (h2 : n < target.length), n ≤ P → base[n] = target[n] → n + 1 ≤ P := fun n h1 h2 hn he => by rw [hP] at hn ⊢; exact lcp_step _ _ n hn h1 h2 he
    have hPstop : ∀ n, n ≤ P → (∀ (h1 : n < base.length) (h2 : n < target.length), base[n] ≠ target[n]) → P = n := fun n hn he => by rw [hP] at hn ⊢; exact lcp_stop _ _ n hn he
    obtain ⟨S, hS⟩ : ∃ S, S = backR base target := ⟨_, rfl⟩
    have hSS : S = lcp (base.drop P).reverse (target.drop P).reverse := by rw [hS, hP]; rfl
    have hSle := lcp_le (base.drop P).reverse (target.drop P).reverse
    rw [← hSS] at hSle
    simp only [List.length_reverse, List.length_drop] at hSle
    obtain ⟨hSb, hSt⟩ := hSle
    have hSstep : ∀ n (h1 : n < base.length - P) (h2 : n < target.length - P), n ≤ S → base[base.length - 1 - n]? = target[target.length - 1 - n]? → n + 1 ≤ S := fun n h1 h2 hn he => by
      rw [List.getElem?_eq_getElem (by omega), List.getElem?_eq_getElem (by omega)] at he
      rw [hSS] at hn ⊢
      exact lcp_step _ _ n hn (by simp; omega) (by simp; omega) (by rw [rev_get, rev_get]; exact Option.some.inj he)
    have hSstop : ∀ n, n ≤ S → (∀ (h1 : n < base.length - P) (h2 : n < target.length - P), base[base.length - 1 - n]? ≠ target[target.length - 1 - n]?) → S = n := fun n hn he => by
      rw [hSS] at hn ⊢
      refine lcp_stop _ _ n hn (fun h1 h2 => ?_)
      rw [rev_get, rev_get]
      intro h
      refine he (by simp at h1; omega) (by simp at h2; omega) ?_
      rw [List.getElem?_eq_getElem (by simp at h1; omega), List.getElem?_eq_getElem (by simp at h2; omega), h]
    have hmk : makeR base target = varB base.length ++ varB target.length ++ repB 0 P ++ midR base ((target.drop P).take (target.length - S - P)) ++ repB (base.length - S) S := by unfold makeR; rw [← hP, ← hS]
    have HPST := Lib.hid hPstep
    have HPSP := Lib.hid hPstop
    have HSST := Lib.hid hSstep
    have HSSP := Lib.hid hSstop
    have HMK := Lib.hid hmk
    clear hx hy hxl hyl hP hS hSS hPstep hPstop hSstep hSstop hmk hbl htl
    go_enter Tryd.func18, Tryd.ntmps18
    go_wp2_with fail
    go_loopw [6] (fun s6 wr => ∃ n : Nat, n ≤ P ∧ s6 = .int .i64 (n : Int) ∧ Chg (fun _ => False) W wr) (fun s6 _ => base.length - (intOf s6).toNat)
    case atStart => exact ⟨0, by omega, rfl, Chg.refl _ _⟩
    case round =>
      obtain ⟨n, hn, rfl, C⟩ := hrel
      go_upto_region 4 with (fail)
      go_cut [37] (fun s37 wx => s37 = .bool (decide (n < base.length ∧ n < target.length ∧ base[n]? = target[n]?)) ∧ Chg (fun _ => False) W wx)
      case first =>
        have hX3 := HX.out.kept C (fun _ _ => id)
        have hY3 := HY.out.kept C (fun _ _ => id)
        by_cases hb1 : n < base.length
        · have hd3 : decide (n < base.length) = true := by simp; omega
          by_cases ht1 : n < target.length
          · have hd4 : decide (n < target.length) = true := by simp; omega
            obtain ⟨yb, yo, yc', e1, _, _⟩ := hY3.addr (by omega)
            cases e1
            obtain ⟨xb, xo, xc', e2, _, _⟩ := hX3.addr (by omega)
            cases e2
            have cy := hY3.cell ht1
            have cx := hX3.cell hb1
            have hres : (decide (n < base.length ∧ n < target.length ∧ base[n]? = target[n]?)) = ((base[n].toNat : Int) == (target[n].toNat : Int)) := by
              rw [List.getElem?_eq_getElem hb1, List.getElem?_eq_getElem ht1]
              by_cases h : base[n] = target[n]
              · rw [h]; simp [hb1, ht1]
              · have : ¬ (base[n].toNat : Int) = (target[n].toNat : Int) := fun h2 => h (UInt8.toNat_inj.1 (by omega))
                simp [h, this]
            have HRES := Lib.hid hres
            clear hres
            generalize base[n] = z at *
            generalize target[n] = z2 at *
            clear hY3 hX3
            go_wp2_with fail
            refine wp_region_text mixed (by kernel_rfl) ?_
            go_wp2_with fail
            refine TQ.normal (by kernel_rfl) ?_
            go_wp2_with fail
            go_meet
            case rel => exact ⟨by rw [HRES.out], C.drew⟩
          · have hd4 : decide (n < target.length) = false := by simp; omega
            have hres : (decide (n < base.length ∧ n < target.length ∧ base[n]? = target[n]?)) = false := by simp; omega
            have HRES := Lib.hid hres
            clear hres hY3 hX3
            go_wp2_with fail
            refine wp_region_text mixed (by kernel_rfl) ?_
            go_wp2_with fail
            refine TQ.normal (by kernel_rfl) ?_
            go_wp2_with fail
            go_meet
            case rel => exact ⟨by rw [HRES.out], C.drew⟩
        · have hd3 : decide (n < base.length) = false := by simp; omega
          have hres : (decide (n < base.length ∧ n < target.length ∧ base[n]? = target[n]?)) = false := by simp; omega
          have HRES := Lib.hid hres
          clear hres hY3 hX3
          go_wp2_with fail
          refine wp_region_text mixed (by kernel_rfl) ?_
          go_wp2_with fail
          refine TQ.normal (by kernel_rfl) ?_
          go_wp2_with fail
          go_meet
          case rel => exact ⟨by rw [HRES.out], C.drew⟩
      case rest =>
        obtain ⟨rfl, C1⟩ := hcut
        clear C
        by_cases h1 : n < base.length ∧ n < target.length ∧ base[n]? = target[n]?
        · have hP1 : n + 1 ≤ P := HPST.out n h1.1 h1.2.1 hn (by obtain ⟨ha, hb, hc⟩ := h1; rw [List.getElem?_eq_getElem ha, List.getElem?_eq_getElem hb] at hc; exact Option.some.inj hc)
          have hb1 := h1.1
          rw [decide_eq_true h1]
          clear h1
          go_wp2_with fail
          go_roundw
          case rel => exact ⟨n + 1, hP1, by go_num, C1⟩
          case measure => simp [intOf]; omega
        · have hPn : P = n := HPSP.out n hn (fun a b h => h1 ⟨a, b, by rw [List.getElem?_eq_getElem a, List.getElem?_eq_getElem b, h]⟩)
          rw [decide_eq_false h1]
          clear h1
          subst hPn
          clear hn
          go_wp2_with fail
          obtain ⟨wo, rfl⟩ : ∃ wo : World, wo = wc := ⟨_, rfl⟩
          go_loopw [7] (fun s7 wr => ∃ n : Nat, n ≤ S ∧ s7 = .int .i64 (n : Int) ∧ Chg (fun _ => False) W wr) (fun s7 _ => base.length - (intOf s7).toNat)
          case atStart => exact ⟨0, by omega, rfl, C1⟩
          case round =>
            clear C1
            obtain ⟨n, hn, rfl, C⟩ := hrel
            go_upto_region 7 with (fail)
            go_cut [72] (fun s72 wx => s72 = .bool (decide (n < base.length - P ∧ n < target.length - P ∧ base[base.length - 1 - n]? = target[target.length - 1 - n]?)) ∧ Chg (fun _ => False) W wx)
            case first =>
              have hX3 := HX.out.kept C (fun _ _ => id)
              have hY3 := HY.out.kept C (fun _ _ => id)
              by_cases hb1 : n < base.length - P
              · have hd3 : decide ((n : Int) < (base.length : Int) - (P : Int)) = true := by simp; omega
                by_cases ht1 : n < target.length - P
                · have hd4 : decide ((n : Int) < (target.length : Int) - (P : Int)) = true := by simp; omega
                  obtain ⟨u, hu⟩ : ∃ u, u = base.length - 1 - n := ⟨_, rfl⟩
                  obtain ⟨z0, hz0⟩ : ∃ z, z = target.length - 1 - n := ⟨_, rfl⟩
                  have hui : (base.length : Int) - 1 - (n : Int) = (u : Int) := by omega
                  have hzi : (target.length : Int) - 1 - (n : Int) = (z0 : Int) := by omega
                  have hub : u < base.length := by omega
                  have hzb : z0 < target.length := by omega
                  obtain ⟨yb, yo, yc', e1, _, _⟩ := hY3.addr (by omega)
                  cases e1
                  obtain ⟨xb, xo, xc', e2, _, _⟩ := hX3.addr (by omega)
                  cases e2
                  have cy := hY3.cell hzb
                  have cx := hX3.cell hub
                  have hres : (decide (n < base.length - P ∧ n < target.length - P ∧ base[base.length - 1 - n]? = target[target.length - 1 - n]?)) = ((base[u].toNat : Int) == (target[z0].toNat : Int)) := by
                    rw [← hu, ← hz0, List.getElem?_eq_getElem hub, List.getElem?_eq_getElem hzb]
                    by_cases h : base[u] = target[z0]
                    · rw [h]; simp [hb1, ht1]
                    · have : ¬ (base[u].toNat : Int) = (target[z0].toNat : Int) := fun h2 => h (UInt8.toNat_inj.1 (by omega))
                      simp [h, this]
                  have HRES := Lib.hid hres
                  clear hres
                  generalize base[u] = z at *
                  generalize target[z0] = z2 at *
                  clear hY3 hX3 hu hz0
                  go_wp2_with fail
                  refine wp_region_text mixed (by kernel_rfl) ?_
                  go_wp2_with fail
                  refine TQ.normal (by kernel_rfl) ?_
                  go_wp2_with fail
                  go_meet
                  case rel => exact ⟨by rw [HRES.out], C.drew⟩
                · have hd4 : decide ((n : Int) < (target.length : Int) - (P : Int)) = false := by simp; omega
                  have hres : (decide (n < base.length - P ∧ n < target.length - P ∧ base[base.length - 1 - n]? = target[target.length - 1 - n]?)) = false := decide_eq_false (fun h => ht1 h.2.1)
                  have HRES := Lib.hid hres
                  clear hres hY3 hX3
                  go_wp2_with fail
                  refine wp_region_text mixed (by kernel_rfl) ?_
                  go_wp2_with fail
                  refine TQ.normal (by kernel_rfl) ?_
                  go_wp2_with fail
                  go_meet
                  case rel => exact ⟨by rw [HRES.out], C.drew⟩
              · have hd3 : decide ((n : Int) < (base.length : Int) - (P : Int)) = false := by simp; omega
                have hres : (decide (n < base.length - P ∧ n < target.length - P ∧ base[base.length - 1 - n]? = target[target.length - 1 - n]?)) = false := decide_eq_false (fun h => hb1 h.1)
                have HRES := Lib.hid hres
                clear hres hY3 hX3
                go_wp2_with fail
                refine wp_region_text mixed (by kernel_rfl) ?_
                go_wp2_with fail
                refine TQ.normal (by kernel_rfl) ?_
                go_wp2_with fail
                go_meet
                case rel => exact ⟨by rw [HRES.out], C.drew⟩
            case rest =>
              obtain ⟨rfl, C1⟩ := hcut
              clear C
              by_cases h1 : n < base.length - P ∧ n < target.length - P ∧ base[base.length - 1 - n]? = target[target.length - 1 - n]?
              · have hP1 : n + 1 ≤ S := HSST.out n h1.1 h1.2.1 hn h1.2.2
                have hb1 := h1.1
                rw [decide_eq_true h1]
                clear h1
                go_wp2_with fail
                go_roundw
                case rel => exact ⟨n + 1, hP1, by go_num, C1⟩
                case measure => simp [intOf]; omega
              · have hPn : S = n := HSSP.out n hn (fun a b h => h1 ⟨a, b, h⟩)
                rw [decide_eq_false h1]
                clear h1
                subst hPn
                clear hn
                go_wp2_with fail
                (refine (new_any wc).mono ?_; rintro e w1 ⟨T, rfl, I1, D1, hz1⟩)
                have CW1 := C1.trans D1 (fun _ _ h => h)
                have hpW := C1.size
                obtain ⟨pb, hpb⟩ : ∃ pb, pb = wc.heap.size := ⟨_, rfl⟩
                rw [← hpb] at I1 hpW ⊢
                have hb0 : ∀ k, (Value.slice none 0 0).ownBlock = some k → W.heap.size ≤ k := fun k hk => by simp [Value.ownBlock] at hk
                clear C1 D1 hz1 hpb wo
                go_wp2_with fail
                (refine (var_any pb _ T (base.length : Int) [] w1 I1 (by omega) (by omega) (by simp)).mono ?_; rintro e w2 ⟨rfl, v2, I2, D2, b2⟩)
                rw [Int.toNat_natCast, List.nil_append] at I2
                have hv1 := varB_len base.length (by omega)
                have CW2 : Chg (fun _ => False) W w2 := CW1.trans D2 (fun k hk h => by rcases h with h | h; omega; have := hb0 k h; omega)
                have hb2 : ∀ k, v2.ownBlock = some k → W.heap.size ≤ k := fun k hk => by rcases b2 k hk with h | h; exact hb0 k h; have := CW1.size; omega
                clear I1 D2 b2 hb0 CW1
                go_wp2_with fail
                (refine (var_any pb _ T (target.length : Int) _ w2 I2 (by omega) (by omega) (by omega)).mono ?_; rintro e w3 ⟨rfl, v3, I3, D3, b3⟩)
                rw [Int.toNat_natCast] at I3
                have hv2 := varB_len target.length (by omega)
                have CW3 : Chg (fun _ => False) W w3 := CW2.trans D3 (fun k hk h => by rcases h with h | h; omega; have := hb2 k h; omega)
                have hb3 : ∀ k, v3.ownBlock = some k → W.heap.size ≤ k := fun k hk => by rcases b3 k hk with h | h; exact hb2 k h; have := CW2.size; omega
                clear I2 D3 b3 hb2 CW2
                go_wp2_with fail
                (refine (repeat_any pb v3 T 0 P _ w3 I3 (by rw [List.length_append]; omega) (by omega) (by omega)).mono ?_; rintro e w4 ⟨rfl, v4, I4, D4, b4⟩)
                have hr1 := repB_len 0 P (by omega) (by omega)
                have CW4 : Chg (fun _ => False) W w4 := CW3.trans D4 (fun k hk h => by rcases h with h | h; omega; have := hb3 k h; omega)
                have hb4 : ∀ k, v4.ownBlock = some k → W.heap.size ≤ k := fun k hk => by rcases b4 k hk with h | h; exact hb3 k h; have := CW3.size; omega
                clear I3 D4 b4 hb3 CW3
                have hY4 := HY.out.kept CW4 (fun _ _ => id)
                have hml : ((target.drop P).take (target.length - S - P)).length ≤ 65536 := by rw [List.length_take, List.length_drop]; omega
                go_wp2_with (first
                  | ((with_reducible show wpList _ _ _ (⟨some 97, _, _, _, _, _⟩ :: _) _ _); refine wpl_part rfl 24 (.tmp 91) (.tmp 92) (.tmp 96) rfl Tryd.underlying24 sizeU8 rfl hY4 P (target.length - S) rfl rfl rfl (by omega) (by omega) (by omega) ?_; intro yk hyk hyks)
                  | fail)
                (refine (middle_any pb v4 _ yk T _ base ((target.drop P).take (target.length - S - P)) w4 I4 (HX.out.kept CW4 (fun _ _ => id)) hyk (fun k hk => by
                  have := HXL.out k hk
                  exact ⟨by omega, fun e => by have := hb4 k e; omega⟩) (fun k hk => by
                  have := HYL.out k (hyks k hk)
                  exact ⟨by omega, fun e => by have := hb4 k e; omega⟩) (by rw [List.length_append, List.length_append]; omega) hb16 hml).mono ?_; rintro e w5 ⟨rfl, v5, I5, D5, b5⟩)
                have hm5 := midR_len base ((target.drop P).take (target.length - S - P)) hml hb16
                have CW5 : Chg (fun _ => False) W w5 := CW4.trans D5 (fun k hk h => by rcases h with h | h; omega; have := hb4 k h; omega)
                have hb5 : ∀ k, v5.ownBlock = some k → W.heap.size ≤ k := fun k hk => by rcases b5 k hk with h | h; exact hb4 k h; have := CW4.size; omega
                clear I4 D5 b5 hb4 CW4 hY4 hyk hyks
                go_wp2_with fail
                rw [show (base.length : Int) - (S : Int) = ((base.length - S : Nat) : Int) from by omega]
                (refine (repeat_any pb v5 T (base.length - S) S _ w5 I5 (by rw [List.length_append, List.length_append, List.length_append]; omega) (by omega) (by omega)).mono ?_; rintro e w6 ⟨rfl, v6, I6, D6, b6⟩)
                have hr2 := repB_len (base.length - S) S (by omega) (by omega)
                have CW6 : Chg (fun _ => False) W w6 := CW5.trans D6 (fun k hk h => by rcases h with h | h; omega; have := hb5 k h; omega)
                rw [← HMK.out] at I6
                have hmkl : (makeR base target).length ≤ 1000000 := by rw [HMK.out]; simp only [List.length_append]; omega
                clear I5 D6 b6 hb5 CW5
                go_wp2_with fail
                (refine (out_any pb v6 T (makeR base target) w6 I6 (by omega)).mono ?_; rintro e w7 ⟨rfl, O7, D7, hz7⟩)
                have CW7 := CW6.trans D7 (fun _ _ h => h)
                have hW6 := CW6.size
                go_wp2_with fail
                go_ret2
                exact ⟨_, rfl, O7, fun k hk => by simp [Value.ownBlock] at hk; omega, CW7⟩
  · rw [if_neg hlong]
    clear hx hy
    by_cases h1 : base.length ≤ 65536
    · have hd1 : decide (65536 < (base.length : Int)) = false := by simp; omega
      have hd2 : decide (65536 < (target.length : Int)) = true := by simp; omega
      clear hlong h1
      go_enter Tryd.func18, Tryd.ntmps18
      go_wp2_with fail
      go_ret2
      exact AppP.bad (Chg.refl _ _)
    · have hd1 : decide (65536 < (base.length : Int)) = true := by simp; omega
      clear hlong h1
      go_enter Tryd.func18, Tryd.ntmps18
      go_wp2_with fail
      go_ret2
      exact AppP.bad (Chg.refl _ _)
end Go.Proofs.YtlanabocdoacgaaDoor
