import Derived.Test.YtafgeppdchnceaaPlaced
set_option linter.unusedVariables false
namespace Go.Proofs.Ytafgeppdchnceaa
open Go Go.RowKit Go.Sat

/-- Does one of them begin as d does, for n letters? -/
def needB (d : List UInt8) (n : Nat) (xs : List (List UInt8)) : Bool := xs.any fun x => !(x == d) && decide (n ≤ cpl (hexB d) (hexB x))
theorem needB_snoc (d : List UInt8) (n : Nat) (xs : List (List UInt8)) (x : List UInt8) : needB d n (xs ++ [x]) = (needB d n xs || (!(x == d) && decide (n ≤ cpl (hexB d) (hexB x)))) := by simp [needB]
theorem needB_end (d : List UInt8) (ls : List (List UInt8)) (h : needB d (shortN d ls 4 - 1) ls = false) : shortN d ls 4 = 4 := by
  have hmin := shortN_min d ls 4
  by_cases h4 : shortN d ls 4 = 4
  · exact h4
  · exfalso
    have h1 : shortN d ls 4 ≤ shortN d ls 4 - 1 := by
      rw [shortN_le]
      refine ⟨by omega, fun x hx hn => ?_⟩
      have h2 := (List.any_eq_false.1 h) x hx
      simp [hn] at h2
      omega
    omega
theorem short_other (d : List UInt8) (ls : List (List UInt8)) (x : List UInt8) (hx : x ∈ ls) (hn : x ≠ d) : cpl (hexB d) (hexB x) < shortN d ls 4 :=
  ((shortN_le d ls 4 _).1 (Nat.le_refl _)).2 x hx hn

set_option maxRecDepth 100000 in
set_option maxHeartbeats 1600000 in
theorem digestShort_walk (lv pv : Value) (ls : List (List UInt8)) (d : List UInt8) (W : World) (hd : d.length = 32) (hl : Ids W lv ls) (hn : ls.length ≤ 1000000000) (hp : ∃ pa pn pc, pv = .slice pa pn pc) :
    Calls Try.prog 3 #[.agg ([lv] ++ bcells d ++ [pv]).toArray] W fun e w' => e = .returned (.bool true) ∧ Chg (fun _ => False) W w' := by
  obtain ⟨la, lc, rfl, hlc⟩ := hl.form
  obtain ⟨pa, pn, pc, rfl⟩ := hp
  have hmax := shortN_max d ls hd hl.all
  have hmin := shortN_min d ls 4
  have hhd : (hexB d).length = 64 := by simp [hd]
  have hsl : ((hexB d).take (shortN d ls 4)).length = shortN d ls 4 := by simp [hd]; omega
  have hpre : preB (hexB d) ((hexB d).take (shortN d ls 4)) = true := by simp [preB, hd]; omega
  have hlt4 : decide ((shortN d ls 4 : Int) < 4) = false := by simp; omega
  have hmin64 : min (shortN d ls 4) 64 = shortN d ls 4 := by omega
  have Bx := Blk.new W 27 ([Value.slice la ls.length lc] ++ bcells d ++ [Value.slice pa pn pc]).toArray
  have hidL := idInfoL hd
  go_enter Try.func3, Try.ntmps3
  have c0 : (W.alloc (.cells ([Value.slice la ls.length lc] ++ bcells d ++ [Value.slice pa pn pc]).toArray 27)).cell? ⟨W.heap.size, 0, none⟩ = some (.slice la ls.length lc) := by rw [Bx.cell]; rfl
  go_wp2_with (first
    | (go_at_call 5; refine Shut.out ?_)
    | fail)
  show Calls _ _ _ _ _
  refine (lendIds_any _ ls _ (hl.kept ((Chg.refl (fun _ => False) W).alloc _) (fun _ _ => id)) hn).mono ?_
  rintro e w1 ⟨g, cap, rfl, L1, hc1, hg1⟩
  have C1 : Chg (fun _ => False) W w1 := ((Chg.refl _ W).alloc _).trans hc1 fun _ _ h => h
  have B1 := Bx.kept hc1 id
  have V1 := hl.kept C1 (fun _ _ => id)
  have c1 : w1.cell? ⟨W.heap.size, 0, none⟩ = some (.slice la ls.length lc) := by rw [B1.cell]; rfl
  have hgW : W.heap.size < g := by simp at hg1; omega
  have hLid : Ids w1 (.slice (some ⟨g, 0, none⟩) ls.length cap) ls := own_ids (rest := [mark 165, mark 90]) L1.own rfl hl.all
  have hr1 : ∀ X, Chg (fun _ => False) w1 X → X.rangeAt W.heap.size 1 (bcells d) := fun X h => Blk.range (us := [Value.slice la ls.length lc]) (vs := [Value.slice pa pn pc]) (B1.kept h id) rfl
  clear c0 hc1 Bx
  go_wp2_with (first
    | ((with_reducible show wpList _ _ _ (⟨some 13, .load _ _, _, _, _, _⟩ :: _) _ _); refine wpl_load_mid rfl 24 (.tmp 12) rfl rfl (cs := bcells d) (hr1 _ (Chg.refl _ _)) Try.underlying24 (idInfoL hd) ?_)
    | (go_at_call 6; refine (short_any _ ls d _ hd hLid hn).mono ?_; rintro e w2 ⟨rfl, hc2⟩; have c2 : w2.cell? ⟨W.heap.size, 0, none⟩ = some (.slice la ls.length lc) := by rw [(B1.kept hc2 id).cell]; rfl)
    | (go_at_call 7; refine (intactIds_any _ g cap ls _ (L1.kept hc2 id) (V1.kept hc2 (fun _ _ => id)) hn).mono ?_; rintro e w3 ⟨rfl, hc3⟩)
    | ((with_reducible show wpList _ _ _ (⟨some 27, .load _ _, _, _, _, _⟩ :: _) _ _); refine wpl_load_mid rfl 24 (.tmp 26) rfl rfl (cs := bcells d) (hr1 _ (hc2.trans hc3 fun _ _ h => h)) Try.underlying24 (idInfoL hd) ?_)
    | (go_at_call 9; refine (hex_arr d _ hd).mono ?_; rintro e w4 ⟨rfl, hc4⟩)
    | (go_at_call 8; refine (begins_any (hexB d) ((hexB d).take (shortN d ls 4)) _ (by omega) (by omega)).mono ?_; rintro e w' ⟨rfl, rfl⟩; rw [hpre])
    | fail)
  have C4 : Chg (fun _ => False) w1 w4 := (hc2.trans hc3 fun _ _ h => h).trans hc4 fun _ _ h => h
  have HL1 := Lib.hid L1
  have HMIN := Lib.hid hmin64
  clear hc2 hc3 hc4 c2 hLid c1 hmin64 L1 hpre hidL
  go_loopw [5, 6] (fun need i wr => ∃ (k : Nat) (b : Bool), k ≤ ls.length ∧ i = .int .i64 k ∧ need = .bool b ∧ b = needB d (shortN d ls 4 - 1) (ls.take k) ∧ Chg (fun _ => False) w1 wr) (fun _ i _ => ls.length - (intOf i).toNat)
  case atStart => exact ⟨0, false, Nat.zero_le _, rfl, rfl, rfl, C4⟩
  case round =>
    obtain ⟨k, b, hk, rfl, rfl, hb, C⟩ := hrel
    have HB := Lib.hid hb
    clear hb
    have c5 : wr.cell? ⟨W.heap.size, 0, none⟩ = some (.slice la ls.length lc) := by rw [(B1.kept C id).cell]; rfl
    have V := V1.kept C (fun _ _ => id)
    by_cases hlt : k < ls.length
    · obtain ⟨lb, off, hao, _⟩ := V.addr (by omega)
      subst hao
      have hr := V.range hlt
      have hx := V.all _ (List.getElem_mem hlt)
      have hsnoc : needB d (shortN d ls 4 - 1) (ls.take (k + 1)) = (needB d (shortN d ls 4 - 1) (ls.take k) || (!(ls[k] == d) && decide (shortN d ls 4 - 1 ≤ cpl (hexB d) (hexB ls[k])))) := by rw [List.take_succ_eq_append_getElem hlt, needB_snoc]
      rw [← HB.out] at hsnoc
      have hoth := short_other d ls ls[k] (List.getElem_mem hlt)
      have heq := eql_id hx hd
      generalize ls[k] = x at hr hx hsnoc heq hoth
      have hrd : ∀ X, Chg (fun _ => False) wr X → X.rangeAt W.heap.size 1 (bcells d) := fun X h => hr1 _ (C.trans h fun _ _ h => h)
      by_cases hxd : x = d
      · have hxd' : (x == d) = true := by simp [hxd]
        rw [hxd'] at heq hsnoc
        have HN := Lib.hid hsnoc
        clear hsnoc hxd hxd' hoth
        go_wp2_with fail
        refine wp_region_but (fun o => o.dst == some 47) mixed (by kernel_rfl) ?_
        go_wp2_with (first
          | ((with_reducible show wpList _ _ _ (⟨some 44, .load _ _, _, _, _, _⟩ :: _) _ _); refine wpl_load_mid rfl 24 (.tmp 43) rfl rfl (cs := bcells x) hr Try.underlying24 (idInfoL hx) ?_)
          | ((with_reducible show wpList _ _ _ (⟨some 46, .load _ _, _, _, _, _⟩ :: _) _ _); refine wpl_load_mid rfl 24 (.tmp 45) rfl rfl (cs := bcells d) (hrd _ (Chg.refl _ _).drew) Try.underlying24 (idInfoL hd) ?_)
          | fail)
        refine TQ.normal (by kernel_rfl) ?_
        go_wp2_with fail
        go_roundw
        case rel => exact ⟨k + 1, b, by omega, by go_num, rfl, by rw [HN.out]; simp, C.drew⟩
        case measure => simp [intOf]; omega
      · have hxd' : (x == d) = false := by simp [hxd]
        rw [hxd'] at heq hsnoc
        have hcp := hoth hxd
        have hhx : (hexB x).length = 64 := by simp [hx]
        have hp1 : preB (hexB x) ((hexB d).take (shortN d ls 4)) = false := by
          rw [preB_dec _ _ _ (by rw [hhx, hhd]) (by omega)]; simp; omega
        have hp2 : preB (hexB x) ((((hexB d).take (shortN d ls 4)).drop 0).take (shortN d ls 4 - 1 - 0)) = decide (shortN d ls 4 - 1 ≤ cpl (hexB d) (hexB x)) := by
          rw [List.drop_zero, Nat.sub_zero, List.take_take, Nat.min_eq_left (by omega)]; exact preB_dec _ _ _ (by rw [hhx, hhd]) (by omega)
        have HP1 := Lib.hid hp1
        have HP2 := Lib.hid hp2
        have HN := Lib.hid hsnoc
        clear hsnoc hxd hxd' hoth hp1 hp2
        go_wp2_with fail
        refine wp_region_but (fun o => o.dst == some 47) mixed (by kernel_rfl) ?_
        go_wp2_with (first
          | ((with_reducible show wpList _ _ _ (⟨some 44, .load _ _, _, _, _, _⟩ :: _) _ _); refine wpl_load_mid rfl 24 (.tmp 43) rfl rfl (cs := bcells x) hr Try.underlying24 (idInfoL hx) ?_)
          | ((with_reducible show wpList _ _ _ (⟨some 46, .load _ _, _, _, _, _⟩ :: _) _ _); refine wpl_load_mid rfl 24 (.tmp 45) rfl rfl (cs := bcells d) (hrd _ (Chg.refl _ _).drew) Try.underlying24 (idInfoL hd) ?_)
          | fail)
        refine TQ.normal (by kernel_rfl) ?_
        go_wp2_with (first
          | ((with_reducible show wpList _ _ _ (⟨some 52, .load _ _, _, _, _, _⟩ :: _) _ _); refine wpl_load_mid rfl 24 (.tmp 51) rfl rfl (cs := bcells x) hr Try.underlying24 (idInfoL hx) ?_)
          | (go_at_call 9; refine (hex_arr x _ hx).mono ?_; rintro e w5 ⟨rfl, hc5⟩)
          | fail)
        refine (begins_any (hexB x) ((hexB d).take (shortN d ls 4)) _ (by omega) (by omega)).mono ?_
        rintro e w' ⟨rfl, rfl⟩
        rw [HP1.out]
        have C5 : Chg (fun _ => False) w1 w5 := C.drew.trans hc5 fun _ _ h => h
        cases b
        · go_wp2_with fail
          rw [strB_extract]
          refine (begins_any (hexB x) (((((hexB d).take (shortN d ls 4)).drop 0).take (shortN d ls 4 - 1 - 0))) _ (by omega) (by simp; omega)).mono ?_
          rintro e w' ⟨rfl, rfl⟩
          rw [HP2.out]
          go_wp2_with fail
          go_roundw
          case rel => exact ⟨k + 1, _, by omega, by go_num, rfl, by rw [HN.out]; simp, C5⟩
          case measure => simp [intOf]; omega
        · go_wp2_with fail
          go_roundw
          case rel => exact ⟨k + 1, true, by omega, by go_num, rfl, by rw [HN.out]; rfl, C5⟩
          case measure => simp [intOf]; omega
    · obtain rfl : k = ls.length := by omega
      have hend := needB_end d ls
      have hb2 := HB.out
      rw [List.take_length] at hb2
      have hrd := hr1 _ C
      have HR := Lib.hid hrd
      have HL := HL1.out.kept C id
      clear hrd
      cases b
      · have h4 : ((shortN d ls 4 : Int) == 4) = true := by rw [hend hb2.symm]; rfl
        clear hend hb2
        go_wp2_with (first
          | ((with_reducible show wpList _ _ _ (⟨some 76, .load _ _, _, _, _, _⟩ :: _) _ _); refine wpl_load_mid rfl 24 (.tmp 75) rfl rfl (cs := bcells d) HR.out Try.underlying24 (idInfoL hd) ?_)
          | (go_at_call 10; refine (placed_any g cap ls d _ hd HL V.all hn).mono ?_; rintro e w5 ⟨rfl, hc5⟩)
          | fail)
        go_ret
        exact ⟨rfl, (C1.trans C fun _ _ h => h).trans hc5 fun q hq h => by omega⟩
      · clear hend hb2
        go_wp2_with (first
          | ((with_reducible show wpList _ _ _ (⟨some 76, .load _ _, _, _, _, _⟩ :: _) _ _); refine wpl_load_mid rfl 24 (.tmp 75) rfl rfl (cs := bcells d) HR.out Try.underlying24 (idInfoL hd) ?_)
          | (go_at_call 10; refine (placed_any g cap ls d _ hd HL V.all hn).mono ?_; rintro e w5 ⟨rfl, hc5⟩)
          | fail)
        go_ret
        exact ⟨rfl, (C1.trans C fun _ _ h => h).trans hc5 fun q hq h => by omega⟩
end Go.Proofs.Ytafgeppdchnceaa
