import Derived.Test.YtafgeppdchnceaaFold
set_option linter.unusedVariables false
namespace Go.Proofs.Ytafgeppdchnceaa
open Go Go.RowKit Go.Sat

theorem flat_len : ∀ (ls : List (List UInt8)), (∀ x ∈ ls, x.length = 32) → (ls.flatMap bcells).length = ls.length * 32
  | [], _ => rfl
  | x :: ls, h => by
    have := h x List.mem_cons_self
    have := flat_len ls fun y hy => h y (List.mem_cons_of_mem _ hy)
    simp only [List.flatMap_cons, List.length_append, bcells_length, List.length_cons]
    omega

theorem xor_one : ∀ a : UInt8, bits BinOp.xor IntKind.u8 (a.toNat : Int) 1 = ((a ^^^ 1).toNat : Int) := byte_all (by decide +kernel)
theorem range_kept {w w' : World} {b o : Nat} {cs : List Value} (h : w.rangeAt b o cs) (hc : Chg (fun _ => False) w w') : w'.rangeAt b o cs := fun j u hu => by
  have h1 := h j u hu
  rw [hc.cell (World.block_lt_of_cell? w _ h1) id]; exact h1
theorem own_ids {w : World} {T g n m cap : Nat} {xs rest : List (List UInt8)} (h : Own w T 32 (.slice (some ⟨g, 0, none⟩) (n + m) cap) (n + m) ((xs ++ rest).flatMap bcells)) (hx : xs.length = n) (ha : ∀ x ∈ xs, x.length = 32) : Ids w (.slice (some ⟨g, 0, none⟩) n cap) xs := by
  have h1 := h.sl (fun u hu => by obtain ⟨x, _, hx⟩ := List.mem_flatMap.1 hu; exact bcells_one x u hx)
  refine ⟨ha, ?_⟩
  rw [hx]
  have hcap := h.cap
  rcases h1.val with ⟨h0, ao, c, h2, h3, h4⟩ | ⟨b, off, c', h0, h2, h3, h4⟩
  · injection h2 with e1 e2 e3
    have : n = 0 := by omega
    subst this
    have : xs = [] := List.eq_nil_of_length_eq_zero hx
    subst this
    exact ⟨rfl, fun u hu => (by cases hu), .inl ⟨rfl, some ⟨g, 0, none⟩, cap, rfl, by omega, fun h => by cases h⟩⟩
  · injection h0 with e1 e2 e3
    injection e1 with e1
    injection e1 with e4 e5
    subst e4 e5 e3
    exact ⟨by rw [flat_len xs ha, hx], fun u hu => by obtain ⟨x, _, hx⟩ := List.mem_flatMap.1 hu; exact bcells_one x u hx,
      .inr ⟨g, 0, cap, rfl, by omega, h3, fun j u hu => h4 j u (by rw [List.flatMap_append, List.getElem?_append_left]; exact hu; exact (List.getElem?_eq_some_iff.1 hu).1)⟩⟩
set_option maxRecDepth 100000 in
set_option maxHeartbeats 1600000 in
theorem placed_any (g cap : Nat) (ls : List (List UInt8)) (d : List UInt8) (w : World) (hd : d.length = 32) (hm : LentIds w g cap ls) (hls : ∀ x ∈ ls, x.length = 32) (hn : ls.length ≤ 1000000000) :
    Calls Try.prog 10 #[.slice (some ⟨g, 0, none⟩) ls.length cap, .agg (bcells d).toArray] w fun e w' => e = .returned (.bool true) ∧ Chg (fun j => j = g) w w' := by
  have hcap := hm.own.cap
  have hglt : g < w.heap.size := hm.own.lt g rfl
  have hv : Ids w (.slice (some ⟨g, 0, none⟩) ls.length cap) ls := by
    have h1 := (hm.ids hls).sl
    refine ⟨hls, ?_⟩
    rcases h1.val with ⟨h0, _⟩ | ⟨b, off, c', h0, h2, h3, h4⟩
    · simp at h0
    · injection h0 with e1 e2 e3
      injection e1 with e1
      injection e1 with e4 e5
      subst e4 e5 e3
      simp at h2
      exact ⟨by rw [flat_len ls hls], fun u hu => by obtain ⟨x, _, hx⟩ := List.mem_flatMap.1 hu; exact bcells_one x u hx,
        .inr ⟨g, 0, cap, rfl, by omega, h3, fun j u hu => h4 j u (by rw [List.flatMap_append, List.getElem?_append_left]; exact hu; exact (List.getElem?_eq_some_iff.1 hu).1)⟩⟩
  go_enter Try.func10, Try.ntmps10
  go_wp2_with (first
    | ((with_reducible show wpList _ _ _ (⟨some 8, .load _ _, _, _, _, _⟩ :: _) _ _); refine wpl_load_row rfl 24 (.tmp 3) rfl rfl (Blk.new w _ _) Try.underlying24 (idInfo hd) ?_)
    | (go_at_call 6; refine (short_any _ ls d _ hd (hv.kept ((Chg.refl (fun _ => False) w).alloc _) (fun _ _ => id)) hn).mono ?_; rintro e w1 ⟨rfl, hc1⟩)
    | fail)
  have B1 := (Blk.new w 24 (bcells d).toArray).kept hc1 id
  have C1 : Chg (fun _ => False) w w1 := ((Chg.refl _ w).alloc _).trans hc1 fun _ _ h => h
  have O1 := (hm.kept C1 id).own
  clear hc1
  go_loopw [5, 6] (fun now i wr => ∃ (k : Nat) (xs rest : List (List UInt8)), k ≤ ls.length ∧ i = .int .i64 k ∧ xs.length = k ∧ k + rest.length = ls.length + 2 ∧ (∀ x ∈ xs, x.length = 32) ∧ (∀ x ∈ rest, x.length = 32) ∧
      Own wr 24 32 (.slice (some ⟨g, 0, none⟩) (ls.length + 2) cap) (ls.length + 2) ((xs ++ rest).flatMap bcells) ∧ Own wr 24 32 now k (xs.flatMap bcells) ∧
      Blk wr w.heap.size 24 (bcells d).toArray ∧ (∀ j, now.ownBlock = some j → w.heap.size < j) ∧ Chg (fun j => j = g) w wr) (fun _ i _ => ls.length - (intOf i).toNat)
  case atStart => exact ⟨0, [], ls ++ [mark 165, mark 90], Nat.zero_le _, rfl, rfl, by simp, fun x hx => (by cases hx), (hm.ids hls).all, O1, World.ownsRow_nil _ _ _ _, B1, fun j hj => by simp [Value.ownBlock] at hj, C1.mono fun _ _ h => h.elim⟩
  case round =>
    obtain ⟨k, xs, rest, hk, rfl, hxl, hrl, hxa, hra, O, N, B, hb, C⟩ := hrel
    obtain ⟨na, nc, rfl, hnc⟩ := N.form
    by_cases hlt : k < ls.length
    · cases rest with
      | nil => simp at hrl; omega
      | cons r0 rest =>
        have hr0 := hra r0 List.mem_cons_self
        have hA := flat_len xs hxa
        have hth := O.there (o := k * 32) (m := 32) (by omega)
        go_wp2_with (first
          | ((with_reducible show wpList _ _ _ (⟨some 18, .load _ _, _, _, _, _⟩ :: _) _ _); refine wpl_load_row rfl 24 (.tmp 3) rfl rfl B Try.underlying24 (idInfo hd) ?_)
          | ((with_reducible show wpList _ _ _ (⟨none, .store _ (.tmp 19) _, _, _, _, _⟩ :: _) _ _); refine Shut.out ?_)
          | fail)
        show wpList _ _ _ _ _ _
        refine wpList_store_mid rfl 24 (.tmp 19) (.tmp 18) rfl g (k * 32) (bcells d).toArray rfl rfl (by simpa [hd] using hth) (idInfo hd) (arr_one _) ?_
        have O2 := Own.setCs (bcells d) (bcells r0) (xs.flatMap bcells) (rest.flatMap bcells) wr (by simp [hd, hr0]) (by simpa [List.flatMap_append] using O)
        rw [hA, hxl] at O2
        have hcg := setCells_chg g (bcells d) (k * 32) wr
        have N2 := N.kept hcg (fun j hj e => by have := hb j hj; have : j = g := e; omega)
        have B2 := B.kept hcg (by show ¬ w.heap.size = g; omega)
        have C2 := C.trans hcg fun _ _ h => h
        show wpList _ _ _ _ _ (wr.setCells g (k * 32) (bcells d))
        generalize wr.setCells g (k * 32) (bcells d) = w2 at O2 N2 B2 C2
        clear hcg O N B C hth
        have hj : (k + 2) % 32 < d.length := by omega
        have hst := O2.setC (i := k * 32 + (k + 2) % 32) (by omega)
        have c0 : w2.cell? ⟨g, k * 32 + (k + 2) % 32, none⟩ = some (.int .u8 (d[(k + 2) % 32].toNat : Int)) := by
          rw [(hst (.bool true)).2.2, List.append_assoc, List.getElem?_append_right (by omega), List.getElem?_append_left (by rw [bcells_length, hd]; omega), show k * 32 + (k + 2) % 32 - (xs.flatMap bcells).length = (k + 2) % 32 from by omega, bcells_get, List.getElem?_eq_getElem hj]; rfl
        have f0 := (hst (.bool true)).2.1
        have hxor := xor_one d[(k + 2) % 32]
        generalize hde : d[(k + 2) % 32] = a at c0 hxor
        clear hde
        generalize a ^^^ 1 = y at hxor
        have O3 := (hst (.int .u8 (y.toNat : Int))).1
        have e3 : ((xs.flatMap bcells) ++ bcells d ++ (rest.flatMap bcells)).set (k * 32 + (k + 2) % 32) (.int .u8 (y.toNat : Int)) = (xs.flatMap bcells) ++ bcells (d.set ((k + 2) % 32) y) ++ (rest.flatMap bcells) := by
          rw [List.append_assoc, List.set_append_right _ _ (by omega), List.set_append_left _ _ (by rw [bcells_length, hd]; omega), show k * 32 + (k + 2) % 32 - (xs.flatMap bcells).length = (k + 2) % 32 from by omega]
          simp [bcells, List.map_set]
        rw [e3] at O3
        have hr32 : ((k : Int) + 2).tmod 32 = (((k + 2) % 32 : Nat) : Int) := by rw [Int.tmod_eq_emod_of_nonneg (by omega)]; omega
        have HO := Lib.hid O3
        have hrl2 : k + 1 + rest.length = ls.length + 2 := by simp at hrl; omega
        have hra2 : ∀ z ∈ rest, z.length = 32 := fun z hz => hra z (List.mem_cons_of_mem _ hz)
        have HRL := Lib.hid hrl2
        have HRA := Lib.hid hra2
        clear hst e3 O3 O2 hra hrl hrl2 hra2
        go_wp2_with fail
        simp only [Act.put]
        refine wp_region_text mixed (by kernel_rfl) ?_
        go_wp2_with fail
        refine TQ.normal (by kernel_rfl) ?_
        have hxl2 : (d.set ((k + 2) % 32) y).length = 32 := by simp [hd]
        have hg3 := (setCell_chg w2 ⟨g, k * 32 + (k + 2) % 32, none⟩ (.int .u8 (y.toNat : Int))).drew
        have N3 := N2.kept hg3 (fun j hj e => by have := hb j hj; have : j = g := e; omega)
        have B3 := B2.kept hg3 (by show ¬ w.heap.size = g; omega)
        have C3 := C2.trans hg3 fun _ _ h => h
        have O3 := Own.drew HO.out
        generalize (w2.setCell ⟨g, k * 32 + (k + 2) % 32, none⟩ (.int .u8 (y.toNat : Int))).drew = w3 at N3 B3 C3 O3
        clear hg3 N2 B2 C2 HO
        generalize d.set ((k + 2) % 32) y = x at O3 hxl2
        have hr3 : w3.rangeAt g (k * 32) (bcells x) := fun j u hu => by
          have hj2 : j < 32 := by have := (List.getElem?_eq_some_iff.1 hu).1; simp [hxl2] at this; exact this
          rw [(O3.setC (i := k * 32 + j) (by omega) (.bool true)).2.2, List.append_assoc, List.getElem?_append_right (by omega), List.getElem?_append_left (by rw [bcells_length, hxl2]; omega), show k * 32 + j - (xs.flatMap bcells).length = j from by omega]
          exact hu
        go_wp2_with (first
          | ((with_reducible show wpList _ _ _ (⟨some 40, .load _ _, _, _, _, _⟩ :: _) _ _); refine wpl_load_mid rfl 24 (.tmp 39) rfl rfl (cs := bcells x) hr3 Try.underlying24 (idInfoL hxl2) ?_)
          | ((with_reducible show wpList _ _ _ (⟨some 42, _, _, _, _, _⟩ :: _) _ _); refine Shut.out ?_)
          | fail)
        show wpList _ _ _ _ _ _
        rw [foldl_row hxl2 _ rfl]
        refine wpl_append (o := ⟨some 42, _, _, _, _, _⟩) rfl (.tmp 36) (.tmp 41) 22 rfl tyIds (N3.alloc _) (Sl.built w3 (bcells x).toArray 24 32 1 (by simp [hxl2]) (fun u hu => bcells_one x u hu) (by unfold maxLen; omega)) rfl rfl (by unfold maxLen; omega) (by omega) ?_
        intro na2 nc2 w4 N4 hgr4 hblk4
        have hck := Chg.grown ((Chg.refl (fun j => w.heap.size < j) w3).alloc _) hgr4 (fun j hj => .inr (hb j hj))
        have hw3 := C3.size
        go_wp2_with fail
        go_roundw
        case rel =>
          refine ⟨k + 1, xs ++ [x], rest, by omega, by go_num, by simp [hxl], HRL.out, fun z hz => ?_, fun z hz => HRA.out z hz, ?_, ?_, B3.kept hck (by simp), fun j hj => ?_, C3.trans hck fun q hq h => by omega⟩
          · rcases List.mem_append.1 hz with hz | hz
            · exact hxa z hz
            · simp at hz; rw [hz]; exact hxl2
          · refine (O3.kept hck (fun j hj h => ?_)).cast rfl (by simp)
            simp [Value.ownBlock] at hj; omega
          · exact N4.cast rfl (by simp)
          · rcases hblk4 with h | h
            · rw [h] at hj; exact hb j hj
            · rw [h] at hj; simp at hj; omega
        case measure => simp [intOf]; omega
    · obtain rfl : k = ls.length := by omega
      go_wp2_with fail
      have hz : wr.drew.rangeAt w.heap.size 0 (bcells d) := Blk.range (us := []) (vs := []) (by rw [List.append_nil]; exact B) rfl
      refine wp_region_noPanic ?_
      refine wp_region_held_drew (S := fun X => X.rangeAt w.heap.size 0 (bcells d)) (by kernel_rfl) hz (fun hHeld => ?_)
      refine wpAnyH_take (i := 1) (oi := ⟨some 44, _, _, _, _, _⟩) (v := .agg (bcells d).toArray) rfl (by kernel_rfl) (by kernel_rfl) (by kernel_rfl) (fun _ _ _ h => h) (yieldsIf_load_mid (by rfl) _ _ rfl _ _ rfl (bcells d) _ (fun X h => h) Try.underlying24 rfl (idInfoL hd)) hHeld ?_
      try simp only [Act.put, List.setIfInBounds_toArray, List.set_cons_zero, List.set_cons_succ]
      refine wpAnyH_take (i := 4) (oi := ⟨some 47, _, _, _, _, _⟩) (v := .agg (bcells d).toArray) rfl (by kernel_rfl) (by kernel_rfl) (by kernel_rfl) (fun _ _ _ h => h) (yieldsIf_load_mid (by rfl) _ _ rfl _ _ rfl (bcells d) _ (fun X h => h) Try.underlying24 rfl (idInfoL hd)) hHeld ?_
      try simp only [Act.put, List.setIfInBounds_toArray, List.set_cons_zero, List.set_cons_succ]
      have HV := own_ids O hxl hxa
      have HN : Ids wr (.slice na ls.length nc) xs := ⟨hxa, by have := N.sl (fun u hu => by obtain ⟨x, _, hx⟩ := List.mem_flatMap.1 hu; exact bcells_one x u hx); rw [hxl]; exact this⟩
      have hCd := (Chg.refl (fun _ => False) wr).drew
      refine wpAnyH_take (i := 0) (oi := ⟨some 43, _, _, _, _, _⟩) (v := .slice (some ⟨g, 0, none⟩) ls.length cap) rfl (by kernel_rfl) (by kernel_rfl) (by kernel_rfl) (fun _ _ _ h => h) (Or.inl ⟨rfl, fun X h => rfl⟩) hHeld ?_
      try simp only [Act.put, List.setIfInBounds_toArray, List.set_cons_zero, List.set_cons_succ]
      refine wpAnyH_take (i := 3) (oi := ⟨some 46, _, _, _, _, _⟩) (v := .slice na ls.length nc) rfl (by kernel_rfl) (by kernel_rfl) (by kernel_rfl) (fun _ _ _ h => h) (Or.inl ⟨rfl, fun X h => rfl⟩) hHeld ?_
      try simp only [Act.put, List.setIfInBounds_toArray, List.set_cons_zero, List.set_cons_succ]
      refine wpAnyH_ready (rs := [2]) (by kernel_rfl) (by simp) ?_
      refine AllReadyH.cons (o := ⟨some 45, _, _, _, _, _⟩) rfl (fun K hK => ?_) AllReadyH.nil
      go_simp
      go_at_call 6
      refine (short_any _ xs d _ hd (HV.kept hCd (fun _ _ => id)) (by omega)).mono ?_
      rintro e w5 ⟨rfl, hc5⟩
      try simp only []
      refine hK.out _ _ (range_kept hHeld hc5) (fun hHeld2 => ?_)
      try simp only [Act.put, List.setIfInBounds_toArray, List.set_cons_zero, List.set_cons_succ]
      refine wpAnyH_ready (rs := [5]) (by kernel_rfl) (by simp) ?_
      refine AllReadyH.cons (o := ⟨some 48, _, _, _, _, _⟩) rfl (fun K hK => ?_) AllReadyH.nil
      go_simp
      go_at_call 14
      have hC5 := hCd.trans hc5 fun _ _ h => h
      refine (rshort_any _ xs d _ hd (HN.kept hC5 (fun _ _ => id)) (by omega)).mono ?_
      rintro e w6 ⟨rfl, hc6⟩
      try simp only []
      refine hK.out _ _ (range_kept hHeld2 hc6) (fun hHeld3 => ?_)
      try simp only [Act.put, List.setIfInBounds_toArray, List.set_cons_zero, List.set_cons_succ]
      refine wpAnyH_take (i := 6) (oi := ⟨some 49, _, _, _, _, _⟩) (v := .bool true) rfl (by kernel_rfl) (by kernel_rfl) (by kernel_rfl) (fun _ _ _ h => h) (Or.inl ⟨rfl, fun X h => by go_simp⟩) hHeld3 ?_
      try simp only [Act.put, List.setIfInBounds_toArray, List.set_cons_zero, List.set_cons_succ]
      refine wpAnyH_take (i := 7) (oi := ⟨some 4, _, _, _, _, _⟩) (v := .bool true) rfl (by kernel_rfl) (by kernel_rfl) (by kernel_rfl) (fun _ _ _ h => h) (Or.inl ⟨rfl, fun X h => rfl⟩) hHeld3 ?_
      try simp only [Act.put, List.setIfInBounds_toArray, List.set_cons_zero, List.set_cons_succ]
      refine wpAnyH_done (by kernel_rfl) ?_ _
      refine NoPanic.normal ?_
      go_wp2_with fail
      go_ret
      exact ⟨rfl, C.trans (hC5.trans hc6 fun _ _ h => h) fun q hq h => h.elim⟩
end Go.Proofs.Ytafgeppdchnceaa
