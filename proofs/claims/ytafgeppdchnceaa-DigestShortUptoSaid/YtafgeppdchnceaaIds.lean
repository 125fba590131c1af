import Derived.Test.YtafgeppdchnceaaShortLaw
set_option linter.unusedVariables false
namespace Go.Sat
open Go Go.RowKit

theorem flat_get : ∀ (ls : List (List UInt8)), (∀ x ∈ ls, x.length = 32) → ∀ (i j : Nat) (hi : i < ls.length), j < 32 → (ls.flatMap bcells)[i * 32 + j]? = (bcells ls[i])[j]?
  | [], _, i, _, hi, _ => by simp at hi
  | x :: ls, h, 0, j, _, hj => by
    have hx := h x List.mem_cons_self
    rw [List.flatMap_cons, List.getElem?_append_left (by simp [hx]; omega)]
    simp
  | x :: ls, h, i + 1, j, hi, hj => by
    have hx := h x List.mem_cons_self
    rw [List.flatMap_cons, List.getElem?_append_right (by simp [hx]; omega)]
    have := flat_get ls (fun y hy => h y (List.mem_cons_of_mem _ hy)) i j (by simpa using hi) hj
    rw [show (i + 1) * 32 + j - (bcells x).length = i * 32 + j from by simp [hx]; omega, this]
    simp
/-- A slice of ids that reads. -/
structure Ids (w : World) (v : Value) (ls : List (List UInt8)) : Prop where
  all : ∀ x ∈ ls, x.length = 32
  sl : Sl w 32 v ls.length (ls.flatMap bcells)
theorem Ids.kept {S : Nat → Prop} {w w' : World} {v : Value} {ls : List (List UInt8)} (h : Ids w v ls) (hc : Chg S w w') (hne : ∀ k, rdb v = some k → ¬ S k) : Ids w' v ls := ⟨h.all, h.sl.kept hc hne⟩
theorem Ids.form {w : World} {v : Value} {ls : List (List UInt8)} (h : Ids w v ls) : ∃ ao c, v = .slice ao ls.length c ∧ ls.length ≤ c := by
  rcases h.sl.val with ⟨h0, ao, c, rfl, _⟩ | ⟨b, off, c, rfl, hc, _⟩
  · exact ⟨ao, c, by rw [h0], by omega⟩
  · exact ⟨_, c, rfl, hc⟩
theorem Ids.addr {w : World} {ao : Option Addr} {n c : Nat} {ls : List (List UInt8)} (h : Ids w (.slice ao n c) ls) (hl : 0 < ls.length) : ∃ b off, ao = some ⟨b, off, none⟩ ∧ n = ls.length := by
  rcases h.sl.val with ⟨h0, _⟩ | ⟨b, off, c', h0, _⟩
  · omega
  · injection h0 with h1 h2 h3; exact ⟨b, off, h1, h2⟩
theorem Ids.range {w : World} {b off n c : Nat} {ls : List (List UInt8)} (h : Ids w (.slice (some ⟨b, off, none⟩) n c) ls) {i : Nat} (hi : i < ls.length) : w.rangeAt b (off + i * 32) (bcells ls[i]) := fun j u hu => by
  have hx := h.all _ (List.getElem_mem hi)
  have hj : j < 32 := by have := (List.getElem?_eq_some_iff.1 hu).1; simp [hx] at this; exact this
  rcases h.sl.val with ⟨h0, _⟩ | ⟨b', off', c', h0, _, _, hcell⟩
  · omega
  · injection h0 with h1 h2 h3
    injection h1 with h1
    injection h1 with h4 h5
    subst h4 h5
    rw [Nat.add_assoc]
    exact hcell (i * 32 + j) u (by rw [flat_get ls h.all i j hi hj]; exact hu)
end Go.Sat
namespace Go.Proofs.Ytafgeppdchnceaa
open Go Go.RowKit Go.Sat

theorem idInfoL {l : List UInt8} (h : l.length = 32) : (Try.prog.info? 24).map (·.size) = some (bcells l).length := by
  have : (Try.prog.info? 24).map (·.size) = some 32 := by kernel_rfl
  simpa [h] using this
theorem eql_id {l r : List UInt8} (hl : l.length = 32) (hr : r.length = 32) (w : World) : (Op.equalIn 10000 24 (.agg (bcells l).toArray) (.agg (bcells r).toArray)).run Try.prog w = .ok (l == r) w :=
  eql_arr Try.underlying24 Try.underlying5 Try.sizeOf5 hl hr
theorem hex_arr (l : List UInt8) (w : World) (hl : l.length = 32) :
    Calls Try.prog 9 #[.agg (bcells l).toArray] w fun e w' => e = .returned (.string (strB (hexB l))) ∧ Chg (fun _ => False) w w' := hex_any l w hl

set_option maxRecDepth 100000 in
set_option maxHeartbeats 1600000 in
theorem short_any (v : Value) (ls : List (List UInt8)) (d : List UInt8) (w : World) (hd : d.length = 32) (hv : Ids w v ls) (hn : ls.length ≤ 1000000000) :
    Calls Try.prog 6 #[v, .agg (bcells d).toArray] w fun e w' => e = .returned (.string (strB ((hexB d).take (shortN d ls 4)))) ∧ Chg (fun _ => False) w w' := by
  have hmax := shortN_max d ls hd hv.all
  have hhd : (hexB d).length = 64 := by simp [hd]
  obtain ⟨ao, c, rfl, hcap⟩ := hv.form
  go_enter Try.func6, Try.ntmps6
  go_wp2_with (first
    | ((with_reducible show wpList _ _ _ (⟨some 11, .load _ _, _, _, _, _⟩ :: _) _ _); refine wpl_load_row rfl 24 (.tmp 3) rfl rfl (Blk.new w _ _) Try.underlying24 (idInfo hd) ?_)
    | (go_at_call 9; refine (hex_arr d _ hd).mono ?_; rintro e w1 ⟨rfl, hc1⟩)
    | fail)
  have B1 := (Blk.new w 24 (bcells d).toArray).kept hc1 id
  have C1 : Chg (fun _ => False) w w1 := ((Chg.refl _ w).alloc _).trans hc1 fun _ _ h => h
  have V1 := hv.kept C1 (fun _ _ => id)
  clear hc1 hv
  go_loopw [6, 15] (fun m i wr => ∃ k : Nat, k ≤ ls.length ∧ i = .int .i64 k ∧ m = .int .i64 (shortN d (ls.take k) 4) ∧ Blk wr w.heap.size 24 (bcells d).toArray ∧ Ids wr (.slice ao ls.length c) ls ∧ Chg (fun _ => False) w wr) (fun _ i _ => ls.length - (intOf i).toNat)
  case atStart => exact ⟨0, Nat.zero_le _, rfl, rfl, B1, V1, C1⟩
  case round =>
    obtain ⟨k, hk, rfl, rfl, B, V, C⟩ := hrel
    by_cases hlt : k < ls.length
    · obtain ⟨b, off, hao, _⟩ := V.addr (by omega)
      subst hao
      have hr := V.range hlt
      have hx := V.all _ (List.getElem_mem hlt)
      have hnext : shortN d (ls.take (k + 1)) 4 = shortN d [ls[k]] (shortN d (ls.take k) 4) := by rw [List.take_succ_eq_append_getElem hlt, shortN_append]
      have heq := eql_id hx hd
      generalize ls[k] = x at hr hx hnext heq
      have HN := Lib.hid hnext
      clear hnext
      have hBlt := B.lt
      by_cases hxd : x = d
      · have heq' : (x == d) = true := by simp [hxd]
        rw [heq'] at heq
        have HX := Lib.hid hxd
        clear hxd heq'
        go_wp2_with (first
          | ((with_reducible show wpList _ _ _ (⟨some 18, .load _ _, _, _, _, _⟩ :: _) _ _); refine wpl_load_mid rfl 24 (.tmp 17) rfl rfl (cs := bcells x) hr Try.underlying24 (idInfoL hx) ?_)
          | ((with_reducible show wpList _ _ _ (⟨some 8, .alloc _, _, _, _, _⟩ :: _) _ _); refine wpl_alloc_row rfl 24 rfl Try.zeroValue24 ?_; intro w2 B2 hc2 hs2)
          | ((with_reducible show wpList _ _ _ (⟨none, .store _ (.tmp 8) _, _, _, _, _⟩ :: _) _ _); refine wpl_store_row rfl 24 (.tmp 8) (.tmp 18) rfl rfl rfl (cs := (bcells (List.replicate 32 0)).toArray) B2 (idInfo hx) (by simp [hx]) (arr_one _) ?_; intro w3 B3 hc3; have BD := (B.kept hc2 id).kept hc3 (by show ¬ w.heap.size = wr.heap.size; omega))
          | ((with_reducible show wpList _ _ _ (⟨some 19, .load _ _, _, _, _, _⟩ :: _) _ _); refine wpl_load_row rfl 24 (.tmp 8) rfl rfl B3 Try.underlying24 (idInfo hx) ?_)
          | ((with_reducible show wpList _ _ _ (⟨some 20, .load _ _, _, _, _, _⟩ :: _) _ _); refine wpl_load_row rfl 24 (.tmp 3) rfl rfl BD Try.underlying24 (idInfo hd) ?_)
          | fail)
        have C3 : Chg (fun _ => False) wr w3 := hc2.trans hc3 fun q hq h => by omega
        exact ⟨⟨k + 1, by omega, rfl, by rw [HN.out]; simp [shortN, HX.out], BD, V.kept C3 (fun _ _ => id), C.trans C3 fun _ _ h => h⟩, by simp [intOf]; omega⟩
      · have heq' : (x == d) = false := by simp [hxd]
        rw [heq'] at heq
        have hcp := cpl_lt (hexB d) (hexB x) (by simp [hd, hx]) (fun e => hxd (hexB_inj e).symm)
        have hco := cpl_other (hexB d) (hexB x) (by simp [hd, hx]) hcp
        have hcs := cpl_same (hexB d) (hexB x)
        rw [hhd] at hcp
        have hhx : (hexB x).length = 64 := by simp [hx]
        have hcase : shortN d [x] (shortN d (ls.take k) 4) = max (shortN d (ls.take k) 4) (cpl (hexB d) (hexB x) + 1) := by simp [shortN, hxd]
        have HC := Lib.hid hcase
        clear hcase heq' hxd
        generalize hq : cpl (hexB d) (hexB x) = q at hcp hco hcs HC
        clear hq
        go_wp2_with (first
          | ((with_reducible show wpList _ _ _ (⟨some 18, .load _ _, _, _, _, _⟩ :: _) _ _); refine wpl_load_mid rfl 24 (.tmp 17) rfl rfl (cs := bcells x) hr Try.underlying24 (idInfoL hx) ?_)
          | ((with_reducible show wpList _ _ _ (⟨some 8, .alloc _, _, _, _, _⟩ :: _) _ _); refine wpl_alloc_row rfl 24 rfl Try.zeroValue24 ?_; intro w2 B2 hc2 hs2)
          | ((with_reducible show wpList _ _ _ (⟨none, .store _ (.tmp 8) _, _, _, _, _⟩ :: _) _ _); refine wpl_store_row rfl 24 (.tmp 8) (.tmp 18) rfl rfl rfl (cs := (bcells (List.replicate 32 0)).toArray) B2 (idInfo hx) (by simp [hx]) (arr_one _) ?_; intro w3 B3 hc3; have BD := (B.kept hc2 id).kept hc3 (by show ¬ w.heap.size = wr.heap.size; omega))
          | ((with_reducible show wpList _ _ _ (⟨some 19, .load _ _, _, _, _, _⟩ :: _) _ _); refine wpl_load_row rfl 24 (.tmp 8) rfl rfl B3 Try.underlying24 (idInfo hx) ?_)
          | ((with_reducible show wpList _ _ _ (⟨some 20, .load _ _, _, _, _, _⟩ :: _) _ _); refine wpl_load_row rfl 24 (.tmp 3) rfl rfl BD Try.underlying24 (idInfo hd) ?_)
          | ((with_reducible show wpList _ _ _ (⟨some 22, .load _ _, _, _, _, _⟩ :: _) _ _); refine wpl_load_row rfl 24 (.tmp 8) rfl rfl B3 Try.underlying24 (idInfo hx) ?_)
          | (go_at_call 9; refine (hex_arr x _ hx).mono ?_; rintro e w4 ⟨rfl, hc4⟩)
          | fail)
        have C4 : Chg (fun _ => False) wr w4 := (hc2.trans hc3 fun q hq h => by omega).trans hc4 fun _ _ h => h
        have BD4 := BD.kept hc4 id
        have V4 := V.kept C4 (fun _ _ => id)
        have CW := C.trans C4 fun _ _ h => h
        clear hc2 hc3 hc4 B2 B3 BD hr
        go_loopw [10] (fun i w5 => ∃ j : Nat, j ≤ q ∧ i = .int .i64 j ∧ Chg (fun _ => False) w4 w5) (fun i _ => q - (intOf i).toNat)
        case atStart => exact ⟨0, Nat.zero_le _, rfl, Chg.refl _ _⟩
        case round =>
          rename_i w5
          obtain ⟨j, hj, rfl, C5⟩ := hrel
          have hj1 : j < (hexB d).length := by omega
          have hj2 : j < (hexB x).length := by omega
          have hi1 := fun w => run_index_strB (P := Try.prog) (w := w) Try.underlying9 .i64 (hexB d) hj1 (n := (j : Int)) rfl
          have hi2 := fun w => run_index_strB (P := Try.prog) (w := w) Try.underlying9 .i64 (hexB x) hj2 (n := (j : Int)) rfl
          by_cases hlt2 : j < q
          · have hs := hcs j hlt2
            rw [List.getElem?_eq_getElem hj1, List.getElem?_eq_getElem hj2] at hs
            injection hs with hs
            rw [← hs] at hi2
            generalize (hexB d)[j] = a at hi1 hi2
            clear hs hcs hco
            go_wp2_with fail
            refine wp_region_text mixed (by kernel_rfl) ?_
            go_wp2_with fail
            refine TQ.normal (by kernel_rfl) ?_
            go_wp2_with fail
            exact ⟨⟨j + 1, by omega, rfl, C5.drew⟩, by simp [intOf]; omega⟩
          · obtain rfl : j = q := by omega
            rw [List.getElem?_eq_getElem hj1, List.getElem?_eq_getElem hj2] at hco
            have hne : (((hexB d)[j].toNat : Int) == ((hexB x)[j].toNat : Int)) = false := by
              rw [beq_eq_false_iff_ne]
              intro h
              exact hco (by congr 1; exact UInt8.toNat_inj.1 (by omega))
            generalize (hexB d)[j] = a1 at hi1 hne
            generalize (hexB x)[j] = a2 at hi2 hne
            clear hcs hco
            go_wp2_with fail
            refine wp_region_text mixed (by kernel_rfl) ?_
            go_wp2_with fail
            refine TQ.normal (by kernel_rfl) ?_
            go_wp2_with fail
            exact ⟨⟨k + 1, by omega, rfl, by rw [HN.out, HC.out]; congr 1; omega, BD4.kept C5.drew id, V4.kept C5.drew (fun _ _ => id), CW.trans C5.drew fun _ _ h => h⟩, by simp [intOf]; omega⟩
    · obtain rfl : k = ls.length := by omega
      rw [List.take_length]
      go_wp2_with fail
      go_ret
      exact ⟨by simp [strB_extract], C⟩
end Go.Proofs.Ytafgeppdchnceaa
