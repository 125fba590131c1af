import Derived.Test.YtafgeppdchnceaaIds
set_option linter.unusedVariables false
namespace Go.Proofs.Ytafgeppdchnceaa
open Go Go.RowKit Go.Sat

theorem shortN_mono (d : List UInt8) (ls : List (List UInt8)) (k n : Nat) : shortN d (ls.take k) n ≤ shortN d ls n := by
  have := shortN_append d (ls.take k) (ls.drop k) n
  rw [List.take_append_drop] at this
  rw [this]
  exact shortN_min d _ _
theorem shortN_one (d x : List UInt8) (a n : Nat) : decide (shortN d [x] a ≤ n) = (decide (a ≤ n) && (x == d || !decide (n ≤ cpl (hexB d) (hexB x)))) := by
  rw [Bool.eq_iff_iff]
  simp only [decide_eq_true_eq, shortN_le, Bool.and_eq_true, Bool.or_eq_true, beq_iff_eq, Bool.not_eq_true', decide_eq_false_iff_not, List.mem_singleton, forall_eq]
  by_cases h : x = d
  · simp [h]
  · simp [h]
theorem preB_dec (l r : List UInt8) (n : Nat) (h : l.length = r.length) (hn : n ≤ l.length) : preB r (l.take n) = decide (n ≤ cpl l r) := by
  rw [Bool.eq_iff_iff, preB_take l r n h hn, decide_eq_true_eq]

set_option maxRecDepth 100000 in
set_option maxHeartbeats 1600000 in
theorem rshort_any (v : Value) (ls : List (List UInt8)) (d : List UInt8) (w : World) (hd : d.length = 32) (hv : Ids w v ls) (hn : ls.length ≤ 1000000000) :
    Calls Try.prog 14 #[v, .agg (bcells d).toArray] w fun e w' => e = .returned (.string (strB ((hexB d).take (shortN d ls 4)))) ∧ Chg (fun _ => False) w w' := by
  have hmax := shortN_max d ls hd hv.all
  have hmin := shortN_min d ls 4
  have hhd : (hexB d).length = 64 := by simp [hd]
  obtain ⟨ao, c, rfl, hcap⟩ := hv.form
  go_enter Try.func14, Try.ntmps14
  go_wp2_with (first
    | ((with_reducible show wpList _ _ _ (⟨some 9, .load _ _, _, _, _, _⟩ :: _) _ _); refine wpl_load_row rfl 24 (.tmp 3) rfl rfl (Blk.new w _ _) Try.underlying24 (idInfo hd) ?_)
    | (go_at_call 17; refine (rhex_any d _ hd).mono ?_; rintro e w1 ⟨rfl, hc1⟩)
    | fail)
  have B1 := (Blk.new w 24 (bcells d).toArray).kept hc1 id
  have C1 : Chg (fun _ => False) w w1 := ((Chg.refl _ w).alloc _).trans hc1 fun _ _ h => h
  have V1 := hv.kept C1 (fun _ _ => id)
  clear hc1 hv
  go_loopw [6] (fun m wr => ∃ n : Nat, 4 ≤ n ∧ n ≤ 64 ∧ n ≤ shortN d ls 4 ∧ m = .int .i64 n ∧ Blk wr w.heap.size 24 (bcells d).toArray ∧ Ids wr (.slice ao ls.length c) ls ∧ Chg (fun _ => False) w wr) (fun m _ => 64 - (intOf m).toNat)
  case atStart => exact ⟨4, Nat.le_refl _, by omega, hmin, rfl, B1, V1, C1⟩
  case round =>
    obtain ⟨n, hn4, hn64, hns, rfl, B, V, C⟩ := hrel
    by_cases hlt : n < 64
    · have hlt' : decide ((n : Int) < 64) = true := by simp; omega
      go_wp2_with fail
      go_loopw [7, 8] (fun al i w2 => ∃ (k : Nat) (b : Bool), k ≤ ls.length ∧ i = .int .i64 k ∧ al = .bool b ∧ b = decide (shortN d (ls.take k) 4 ≤ n) ∧ Blk w2 w.heap.size 24 (bcells d).toArray ∧ Ids w2 (.slice ao ls.length c) ls ∧ Chg (fun _ => False) w w2) (fun _ i _ => ls.length - (intOf i).toNat)
      case atStart => exact ⟨0, true, Nat.zero_le _, rfl, rfl, by simp [shortN]; omega, B, V, C⟩
      case round =>
        clear B V C
        obtain ⟨k, b, hk, rfl, rfl, hb, B, V, C⟩ := hrel
        have HB := Lib.hid hb
        clear hb
        cases b
        · -- another has it
          have hno : ¬ shortN d ls 4 ≤ n := fun h => by
            have h1 := shortN_mono d ls k 4
            have h2 := HB.out
            simp at h2
            omega
          by_cases hlt2 : k < ls.length
          · go_wp2_with fail
            exact ⟨⟨n + 1, by omega, by omega, by omega, rfl, B, V, C⟩, by simp [intOf]; omega⟩
          · go_wp2_with fail
            exact ⟨⟨n + 1, by omega, by omega, by omega, rfl, B, V, C⟩, by simp [intOf]; omega⟩
        · by_cases hlt2 : k < ls.length
          · obtain ⟨b, off, hao, _⟩ := V.addr (by omega)
            subst hao
            have hr := V.range hlt2
            have hx := V.all _ (List.getElem_mem hlt2)
            have hnext : shortN d (ls.take (k + 1)) 4 = shortN d [ls[k]] (shortN d (ls.take k) 4) := by rw [List.take_succ_eq_append_getElem hlt2, shortN_append]
            have heq := eql_id hx hd
            generalize ls[k] = x at hr hx hnext heq
            have hdec : decide (shortN d (ls.take (k + 1)) 4 ≤ n) = (x == d || !decide (n ≤ cpl (hexB d) (hexB x))) := by rw [hnext, shortN_one, ← HB.out]; rfl
            have hpd : preB (hexB x) (((hexB d).drop 0).take (n - 0)) = decide (n ≤ cpl (hexB d) (hexB x)) := by
              rw [List.drop_zero, Nat.sub_zero]; exact preB_dec _ _ n (by simp [hx, hd]) (by omega)
            by_cases hxd : x = d
            · have hxd' : (x == d) = true := by simp [hxd]
              rw [hxd'] at heq hdec
              have HN := Lib.hid hdec
              clear hnext hdec hpd hxd hxd'
              go_wp2_with fail
              refine wp_region_but (fun o => o.dst == some 29) mixed (by kernel_rfl) ?_
              go_wp2_with (first
                | ((with_reducible show wpList _ _ _ (⟨some 27, .load _ _, _, _, _, _⟩ :: _) _ _); refine wpl_load_mid rfl 24 (.tmp 26) rfl rfl (cs := bcells x) hr Try.underlying24 (idInfoL hx) ?_)
                | ((with_reducible show wpList _ _ _ (⟨some 28, .load _ _, _, _, _, _⟩ :: _) _ _); refine wpl_load_row rfl 24 (.tmp 3) rfl rfl B.drew Try.underlying24 (idInfo hd) ?_)
                | ((with_reducible show wpList _ _ _ (⟨some 34, .load _ _, _, _, _, _⟩ :: _) _ _); refine wpl_load_mid rfl 24 (.tmp 33) rfl rfl (cs := bcells x) hr Try.underlying24 (idInfoL hx) ?_)
                | fail)
              refine TQ.normal (by kernel_rfl) ?_
              go_wp2_with fail
              go_roundw
              case rel => exact ⟨k + 1, true, by omega, by go_num, rfl, by rw [HN.out]; rfl, B.drew, V.kept ((Chg.refl (fun _ => False) wr).drew) (fun _ _ => id), C.drew⟩
              case measure => simp [intOf]; omega
            · have hxd' : (x == d) = false := by simp [hxd]
              rw [hxd'] at heq hdec
              have HN := Lib.hid hdec
              have HP := Lib.hid hpd
              clear hnext hdec hpd hxd hxd'
              go_wp2_with fail
              refine wp_region_but (fun o => o.dst == some 29) mixed (by kernel_rfl) ?_
              go_wp2_with (first
                | ((with_reducible show wpList _ _ _ (⟨some 27, .load _ _, _, _, _, _⟩ :: _) _ _); refine wpl_load_mid rfl 24 (.tmp 26) rfl rfl (cs := bcells x) hr Try.underlying24 (idInfoL hx) ?_)
                | ((with_reducible show wpList _ _ _ (⟨some 28, .load _ _, _, _, _, _⟩ :: _) _ _); refine wpl_load_row rfl 24 (.tmp 3) rfl rfl B.drew Try.underlying24 (idInfo hd) ?_)
                | ((with_reducible show wpList _ _ _ (⟨some 34, .load _ _, _, _, _, _⟩ :: _) _ _); refine wpl_load_mid rfl 24 (.tmp 33) rfl rfl (cs := bcells x) hr Try.underlying24 (idInfoL hx) ?_)
                | (go_at_call 18; rw [strB_extract]; refine (rbegins_any x (((hexB d).drop 0).take (n - 0)) _ hx (by simp; omega)).mono ?_; rintro e w3 ⟨rfl, hc3⟩; rw [HP.out])
                | fail)
              refine TQ.normal (by kernel_rfl) ?_
              go_wp2_with fail
              have C3 : Chg (fun _ => False) wr w3 := ((Chg.refl (fun _ => False) wr).drew).trans hc3 fun _ _ h => h
              go_roundw
              case rel => exact ⟨k + 1, _, by omega, by go_num, rfl, by rw [HN.out]; simp, B.kept C3 id, V.kept C3 (fun _ _ => id), C.trans C3 fun _ _ h => h⟩
              case measure => simp [intOf]; omega
          · obtain rfl : k = ls.length := by omega
            have he : n = shortN d ls 4 := by
              have h2 := HB.out
              rw [List.take_length] at h2
              simp at h2
              omega
            go_wp2_with fail
            go_ret
            exact ⟨by simp [strB_extract], C⟩
    · obtain rfl : n = 64 := by omega
      go_wp2_with fail
      go_ret
      exact ⟨by rw [List.take_of_length_le (by omega)]; rfl, C⟩
end Go.Proofs.Ytafgeppdchnceaa
