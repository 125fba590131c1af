import Derived.Test.YtafgeppdchnceaaHexLaw
set_option linter.unusedVariables false
namespace Go.Proofs.Ytafgeppdchnceaa
open Go Go.RowKit Go.Sat

theorem idInfoL {l : List UInt8} (h : l.length = 32) : (Try.prog.info? 24).map (·.size) = some (bcells l).length := by
  have : (Try.prog.info? 24).map (·.size) = some 32 := by kernel_rfl
  simpa [h] using this
theorem eql_id {l r : List UInt8} (hl : l.length = 32) (hr : r.length = 32) (w : World) : (Op.equalIn 10000 24 (.agg (bcells l).toArray) (.agg (bcells r).toArray)).run Try.prog w = .ok (l == r) w :=
  eql_arr Try.underlying24 Try.underlying5 Try.sizeOf5 hl hr

theorem parse_arr (l : List UInt8) (w : World) : Calls Try.prog 11 #[.string (strB l)] w fun e w' => e = .returned (.tuple #[.agg (bcells (parseL l)).toArray, .int .i64 (parseE l)]) ∧ Chg (fun _ => False) w w' := parse_any l w

set_option maxRecDepth 100000 in
set_option maxHeartbeats 1600000 in
theorem digestHex_walk (sv : Value) (l d : List UInt8) (W : World) (hid : d.length = 32) (hs : Rd W sv l) :
    Calls Try.prog 4 #[.agg ([sv] ++ bcells d).toArray] W fun e w' => e = .returned (.bool true) ∧ Chg (fun _ => False) W w' := by
  obtain ⟨sa, sc, hsv, hsc⟩ := hs.form
  subst hsv
  have hmax : l.length ≤ maxLen := by
    rcases hs.val with ⟨h0, _⟩ | ⟨_, _, c, _, h1, h2, _⟩
    · omega
    · omega
  replace hmax : l.length ≤ 9223372036854775807 := hmax
  have hself : (d == d) = true := by simp
  have heq := eql_id hid hid
  rw [hself] at heq
  have hh := parse_hex d hid
  have hhl : (hexB d).length = 64 := by simp [hid]
  go_enter Try.func4, Try.ntmps4
  go_wp2_with (first
    | ((with_reducible show wpList _ _ _ (⟨some 13, .load _ _, _, _, _, _⟩ :: _) _ _); refine wpl_load_mid rfl 24 (.tmp 12) rfl rfl (cs := bcells d) (Blk.range (us := [.slice sa l.length sc]) (vs := []) (by rw [List.append_nil]; exact Blk.new W _ _) rfl) Try.underlying24 (idInfoL hid) ?_)
    | (go_at_call 9; refine (hex_any d _ hid).mono ?_; rintro e w1 ⟨rfl, hc1⟩)
    | (go_at_call 11; refine (parse_arr (hexB d) _).mono ?_; rintro e w2 ⟨rfl, hc2⟩; rw [hh.1, hh.2])
    | ((with_reducible show wpList _ _ _ (⟨some 4, .alloc _, _, _, _, _⟩ :: _) _ _); refine wpl_alloc_row rfl 24 rfl Try.zeroValue24 ?_; intro w3 B3 hc3 hs3)
    | ((with_reducible show wpList _ _ _ (⟨none, .store _ (.tmp 4) _, _, _, _, _⟩ :: _) _ _); refine Shut.out ?_)
    | fail)
  show wpList _ _ _ _ _ _
  refine wpl_store_row rfl 24 (.tmp 4) (.tmp 18) rfl rfl rfl (cs := (bcells (List.replicate 32 0)).toArray) B3 (idInfo hid) (by simp [hid]) (arr_one _) ?_
  intro w4 B4 hc4
  have hlt4 : W.heap.size < w2.heap.size := Nat.lt_of_lt_of_le (by simp) (Nat.le_trans hc1.size hc2.size)
  have Bx := ((((Blk.new W 36 ([Value.slice sa l.length sc] ++ bcells d).toArray).kept hc1 id).kept hc2 id).kept hc3 id).kept hc4 (by show ¬ W.heap.size = w2.heap.size; omega)
  have C4 : Chg (fun _ => False) W w4 := ((((Chg.refl _ W).alloc _).trans hc1 fun _ _ h => h).trans hc2 fun _ _ h => h).trans hc3 (fun _ _ h => h) |>.trans hc4 (fun q hq h => by omega)
  clear hc1 hc2 hc3 hc4 B3
  go_wp2_with (first
    | (go_at_call 12; refine (num_any _ _).mono ?_; rintro e w' ⟨rfl, rfl⟩)
    | ((with_reducible show wpList _ _ _ (⟨some 24, .load _ _, _, _, _, _⟩ :: _) _ _); refine wpl_load_row rfl 24 (.tmp 4) rfl rfl B4 Try.underlying24 (idInfo hid) ?_)
    | ((with_reducible show wpList _ _ _ (⟨some 26, .load _ _, _, _, _, _⟩ :: _) _ _); refine wpl_load_mid rfl 24 (.tmp 25) rfl rfl (cs := bcells d) (Blk.range (us := [.slice sa l.length sc]) (vs := []) (by rw [List.append_nil]; exact Bx) rfl) Try.underlying24 (idInfoL hid) ?_)
    | fail)
  go_loopw [6] (fun i wr => ∃ k : Nat, k ≤ 64 ∧ i = .int .i64 k ∧ wr = w4) (fun i _ => 64 - (intOf i).toNat)
  case atStart => exact ⟨0, Nat.zero_le _, rfl, rfl⟩
  case round =>
    obtain ⟨k, hk, rfl, rfl⟩ := hrel
    by_cases hlt : k < 64
    · have hkl : k < (hexB d).length := by omega
      have hx := fun w => run_index_strB (P := Try.prog) (w := w) Try.underlying9 .i64 (hexB d) hkl (n := (k : Int)) rfl
      have hdg := List.all_eq_true.1 (hexB_dig d) _ (List.getElem_mem hkl)
      generalize (hexB d)[k] = c at hx hdg
      go_wp2_with (go_at_call 13; refine (small_any c _).mono ?_; rintro e w' ⟨rfl, rfl⟩; rw [hdg])
      exact ⟨⟨k + 1, hlt, rfl, trivial⟩, by simp [intOf]; omega⟩
    · obtain rfl : k = 64 := by omega
      have cS : wr.cell? ⟨W.heap.size, 0, none⟩ = some (.slice sa l.length sc) := by rw [Bx.cell]; rfl
      have hsW : Rd wr (.slice sa l.length sc) l := hs.kept C4 (fun _ _ => id)
      have hlI : decide ((l.length : Int) = 64) = decide (l.length = 64) := by simp; omega
      go_wp2_with ((with_reducible show wpList _ _ _ (⟨some 45, _, _, _, _, _⟩ :: _) _ _); refine wpl_str (o := ⟨some 45, _, _, _, _, _⟩) rfl 25 9 (.tmp 44) rfl Try.underlying25 Try.underlying5 Try.underlying9 (hsW) rfl ?_)
      go_loopw [8, 9] (fun ok i w5 => ∃ (k : Nat) (b : Bool), k ≤ l.length ∧ ok = .bool b ∧ i = .int .i64 k ∧ b = (decide (l.length = 64) && (l.take k).all isDig) ∧ w5 = wr) (fun _ i _ => l.length - (intOf i).toNat)
      case atStart => exact ⟨0, _, Nat.zero_le _, rfl, rfl, by simp; omega, rfl⟩
      case round =>
        obtain ⟨k, b, hk, rfl, rfl, hb, rfl⟩ := hrel
        by_cases hlt : k < l.length
        · have hx := fun w => run_index_strB (P := Try.prog) (w := w) Try.underlying9 .i64 l hlt (n := (k : Int)) rfl
          have hnext : (l.take (k + 1)).all isDig = ((l.take k).all isDig && isDig l[k]) := by rw [List.take_succ_eq_append_getElem hlt, List.all_append]; simp
          generalize l[k] = c at hx hnext
          have HN := Lib.hid hnext
          have HB := Lib.hid hb
          clear hnext hb
          cases b
          · go_wp2_with fail
            exact ⟨⟨k + 1, false, hlt, rfl, rfl, by rw [HN.out, ← Bool.and_assoc, ← HB.out]; rfl, trivial⟩, by simp [intOf]; omega⟩
          · go_wp2_with (go_at_call 13; refine (small_any c _).mono ?_; rintro e w' ⟨rfl, rfl⟩)
            exact ⟨⟨k + 1, isDig c, hlt, rfl, rfl, by rw [HN.out, ← Bool.and_assoc, ← HB.out]; rfl, trivial⟩, by simp [intOf]; omega⟩
        · obtain rfl : k = l.length := by omega
          rw [List.take_length] at hb
          have hpl := parseL_length l
          cases b
          · obtain ⟨hp1, hp2⟩ := no_parse l (by intro h; rw [h.1, h.2] at hb; simp at hb)
            clear hb
            have hpa := parse_arr l
            simp only [hp2] at hpa
            have heq0 : ∀ w, (Op.equalIn 10000 24 (.agg (bcells (parseL l)).toArray) (.agg #[.int .u8 0, .int .u8 0, .int .u8 0, .int .u8 0, .int .u8 0, .int .u8 0, .int .u8 0, .int .u8 0, .int .u8 0, .int .u8 0, .int .u8 0, .int .u8 0, .int .u8 0, .int .u8 0, .int .u8 0, .int .u8 0, .int .u8 0, .int .u8 0, .int .u8 0, .int .u8 0, .int .u8 0, .int .u8 0, .int .u8 0, .int .u8 0, .int .u8 0, .int .u8 0, .int .u8 0, .int .u8 0, .int .u8 0, .int .u8 0, .int .u8 0, .int .u8 0])).run Try.prog w = .ok true w := fun w => by
              rw [hp1]; exact eql_id (l := List.replicate 32 0) (r := List.replicate 32 0) rfl rfl w
            generalize parseL l = r at hpl hpa heq0 hp1
            clear hp1 hp2
            go_wp2_with (first
              | (go_at_call 11; refine (hpa _).mono ?_; rintro e w6 ⟨rfl, hc6⟩)
              | ((with_reducible show wpList _ _ _ (⟨some 10, .alloc _, _, _, _, _⟩ :: _) _ _); refine wpl_alloc_row rfl 24 rfl Try.zeroValue24 ?_; intro w7 B7 hc7 hs7)
              | ((with_reducible show wpList _ _ _ (⟨none, .store _ (.tmp 10) _, _, _, _, _⟩ :: _) _ _); refine wpl_store_row rfl 24 (.tmp 10) (.tmp 65) rfl rfl rfl (cs := (bcells (List.replicate 32 0)).toArray) B7 (idInfo hpl) (by simp [hpl]) (arr_one _) ?_; intro w8 B8 hc8)
              | (go_at_call 12; refine (num_any _ _).mono ?_; rintro e w' ⟨rfl, rfl⟩)
              | ((with_reducible show wpList _ _ _ (⟨some 81, .load _ _, _, _, _, _⟩ :: _) _ _); refine wpl_load_row rfl 24 (.tmp 10) rfl rfl B8 Try.underlying24 (idInfo hpl) ?_)
              | fail)
            go_ret
            exact ⟨rfl, ((C4.trans hc6 fun _ _ h => h).trans hc7 fun _ _ h => h).trans hc8 fun q hq h => by have := C4.size; have := hc6.size; omega⟩
          · obtain ⟨hp1, hp2⟩ := hex_parse l (by simpa using hb.symm)
            clear hb
            have hpa := parse_arr l
            simp only [hp2] at hpa
            have hxa := hex_any (parseL l)
            rw [hp1] at hxa
            simp only [arrV] at hxa
            generalize parseL l = r at hpl hpa hxa hp1
            clear hp1 hp2
            go_wp2_with (first
              | (go_at_call 11; refine (hpa _).mono ?_; rintro e w6 ⟨rfl, hc6⟩)
              | ((with_reducible show wpList _ _ _ (⟨some 10, .alloc _, _, _, _, _⟩ :: _) _ _); refine wpl_alloc_row rfl 24 rfl Try.zeroValue24 ?_; intro w7 B7 hc7 hs7)
              | ((with_reducible show wpList _ _ _ (⟨none, .store _ (.tmp 10) _, _, _, _, _⟩ :: _) _ _); refine wpl_store_row rfl 24 (.tmp 10) (.tmp 65) rfl rfl rfl (cs := (bcells (List.replicate 32 0)).toArray) B7 (idInfo hpl) (by simp [hpl]) (arr_one _) ?_; intro w8 B8 hc8)
              | (go_at_call 12; refine (num_any _ _).mono ?_; rintro e w' ⟨rfl, rfl⟩)
              | ((with_reducible show wpList _ _ _ (⟨some 72, .load _ _, _, _, _, _⟩ :: _) _ _); refine wpl_load_row rfl 24 (.tmp 10) rfl rfl B8 Try.underlying24 (idInfo hpl) ?_)
              | (go_at_call 9; refine (hxa _ hpl).mono ?_; rintro e w9 ⟨rfl, hc9⟩)
              | fail)
            go_ret
            exact ⟨rfl, (((C4.trans hc6 fun _ _ h => h).trans hc7 fun _ _ h => h).trans hc8 fun q hq h => by have := C4.size; have := hc6.size; omega).trans hc9 fun _ _ h => h⟩
end Go.Proofs.Ytafgeppdchnceaa
