import Derived.Test.YtafgeppdchnceaaHex
set_option linter.unusedVariables false
namespace Go.Proofs.Ytafgeppdchnceaa
open Go Go.RowKit Go.Sat

/-- Is it one of the sixteen digits? -/
def isDig (c : UInt8) : Bool := decide ((48 ≤ c.toNat ∧ c.toNat ≤ 57) ∨ (97 ≤ c.toNat ∧ c.toNat ≤ 102))
def halfI (c : UInt8) : Int := Lib.indexByte digitsL c
theorem halfI_dig : ∀ c : UInt8, isDig c = !decide (halfI c < 0) := by
  intro c
  have h : ∀ i : Fin 256, isDig (UInt8.ofNat i.val) = !decide (halfI (UInt8.ofNat i.val) < 0) := by decide +kernel
  have := h ⟨c.toNat, c.toNat_lt⟩
  simpa using this
theorem halfI_lt : ∀ c : UInt8, -1 ≤ halfI c ∧ halfI c < 16 := by
  intro c
  have h : ∀ i : Fin 256, -1 ≤ halfI (UInt8.ofNat i.val) ∧ halfI (UInt8.ofNat i.val) < 16 := by decide +kernel
  have := h ⟨c.toNat, c.toNat_lt⟩
  simpa using this

set_option maxRecDepth 100000 in
theorem small_any (c : UInt8) (w : World) : Calls Try.prog 13 #[.int .u8 (c.toNat : Int)] w fun e w' => e = .returned (.bool (isDig c)) ∧ w = w' := by
  have hc := c.toNat_lt
  unfold isDig
  generalize c.toNat = n at *
  go_enter Try.func13, Try.ntmps13
  by_cases h1 : 48 ≤ n <;> by_cases h2 : n ≤ 57 <;> by_cases h3 : 97 ≤ n <;> by_cases h4 : n ≤ 102
  all_goals first | (exfalso; omega) | skip
  all_goals have e1 : decide ((48 : Int) ≤ (n : Int)) = decide (48 ≤ n) := by simp; omega
  all_goals have e2 : decide ((n : Int) ≤ 57) = decide (n ≤ 57) := by simp; omega
  all_goals have e3 : decide ((97 : Int) ≤ (n : Int)) = decide (97 ≤ n) := by simp; omega
  all_goals have e4 : decide ((n : Int) ≤ 102) = decide (n ≤ 102) := by simp; omega
  all_goals go_wp2_with fail
  all_goals go_ret
  all_goals simp [*]

theorem or_half : ∀ x y : Fin 16, bits BinOp.or IntKind.i64 ((x.val : Int) * 16) (y.val : Int) = ((UInt8.ofNat (16 * x.val + y.val)).toNat : Int) := by decide +kernel
set_option maxRecDepth 100000 in
theorem num_any (n : Int) (w : World) : Calls Try.prog 12 #[.int .i64 n] w fun e w' => e = .returned (.int .i64 n) ∧ w = w' := by
  go_enter Try.func12, Try.ntmps12
  go_wp2_with fail
  go_ret
  exact ⟨rfl, rfl⟩

theorem dig_data : (⟨#[48, 49, 50, 51, 52, 53, 54, 55, 56, 57, 97, 98, 99, 100, 101, 102]⟩ : ByteArray).data.toList = digitsL := rfl
theorem byte_back (c : UInt8) : ((c.toNat : Int)).toNat.toUInt8 = c := by simp
/-- strings.IndexByte among the digits. -/
theorem half_any (c : UInt8) (w : World) : Calls Try.prog 16 #[.string ⟨#[48, 49, 50, 51, 52, 53, 54, 55, 56, 57, 97, 98, 99, 100, 101, 102]⟩, .int .u8 (c.toNat : Int)] w fun e w' => e = .returned (.int .i64 (halfI c)) ∧ w = w' := by
  have h := Try.strings_IndexByte ⟨#[48, 49, 50, 51, 52, 53, 54, 55, 56, 57, 97, 98, 99, 100, 101, 102]⟩ (c.toNat : Int) w
  rw [dig_data, byte_back] at h
  exact h.mono fun e w' ⟨h1, h2⟩ => ⟨h1, h2.symm⟩

set_option maxRecDepth 100000 in
theorem fair_any (l : List UInt8) (w : World) (hl : l.length ≤ 1000000000) : Calls Try.prog 15 #[.string (strB l)] w fun e w' => e = .returned (.bool (l.all isDig)) ∧ w = w' := by
  go_enter Try.func15, Try.ntmps15
  go_wp2_with fail
  go_loopw [6] (fun i wr => ∃ k : Nat, k ≤ l.length ∧ i = .int .i64 k ∧ (l.take k).all isDig = true ∧ wr = w) (fun i _ => l.length - (intOf i).toNat)
  case atStart => exact ⟨0, Nat.zero_le _, rfl, rfl, rfl⟩
  case round =>
    obtain ⟨k, hk, rfl, hall, rfl⟩ := hrel
    by_cases hlt : k < l.length
    · have hd := halfI_dig l[k]
      have hlo := halfI_lt l[k]
      have hnext : (l.take (k + 1)).all isDig = isDig l[k] := by rw [List.take_succ_eq_append_getElem hlt, List.all_append, hall]; simp
      have hno : isDig l[k] = false → l.all isDig = false := fun h => by
        rw [List.all_eq_false]; exact ⟨l[k], List.getElem_mem _, by simp [h]⟩
      have HN := Lib.hid hnext
      have HF := Lib.hid hno
      clear hnext hno
      go_wp2_with (go_at_call 16; refine (half_any l[k] _).mono ?_; rintro e w' ⟨rfl, rfl⟩)
      · rename_i hneg
        go_ret
        exact ⟨by rw [HF.out (by rw [hd]; simpa using hneg)]; rfl, rfl⟩
      · rename_i hpos
        exact ⟨⟨k + 1, hlt, rfl, by rw [HN.out, hd]; simpa using hpos, trivial⟩, by simp [intOf]; omega⟩
    · obtain rfl : k = l.length := by omega
      rw [List.take_length] at hall
      go_wp2_with fail
      go_ret
      exact ⟨by rw [hall]; rfl, rfl⟩

/-- What two digits say. -/
def unhex : List UInt8 → List UInt8
  | a :: b :: l => UInt8.ofNat (16 * (halfI a).toNat + (halfI b).toNat) :: unhex l
  | _ => []
theorem unhex_length : ∀ (n : Nat) (l : List UInt8), l.length = 2 * n → (unhex l).length = n
  | 0, [], _ => rfl
  | n + 1, a :: b :: l, h => by simp [unhex, unhex_length n l (by simpa using (by simp at h; omega : l.length = 2 * n))]
  | 0, _ :: _, h => by simp at h
  | n + 1, [], h => by simp at h
  | n + 1, [_], h => by simp at h; omega
theorem unhex_append : ∀ (n : Nat) (l r : List UInt8), l.length = 2 * n → unhex (l ++ r) = unhex l ++ unhex r
  | 0, [], r, _ => rfl
  | n + 1, a :: b :: l, r, h => by simp [unhex, unhex_append n l r (by simp at h; omega)]
  | 0, _ :: _, _, h => by simp at h
  | n + 1, [], _, h => by simp at h
  | n + 1, [_], _, h => by simp at h; omega
theorem unhex_take (l : List UInt8) (k : Nat) (h : 2 * k + 1 < l.length) : unhex (l.take (2 * (k + 1))) = unhex (l.take (2 * k)) ++ [UInt8.ofNat (16 * (halfI l[2 * k]).toNat + (halfI l[2 * k + 1]).toNat)] := by
  rw [show 2 * (k + 1) = 2 * k + 1 + 1 from by omega, List.take_succ_eq_append_getElem h, List.take_succ_eq_append_getElem (by omega), List.append_assoc, unhex_append k _ _ (by simp; omega)]
  rfl
def parseL (l : List UInt8) : List UInt8 := if l.length = 64 ∧ l.all isDig = true then unhex l else List.replicate 32 0
def parseE (l : List UInt8) : Int := if l.length = 64 ∧ l.all isDig = true then 0 else 20
theorem parseL_length (l : List UInt8) : (parseL l).length = 32 := by
  unfold parseL
  split
  · rename_i h; exact unhex_length 32 l h.1
  · simp

set_option maxRecDepth 100000 in
set_option maxHeartbeats 1600000 in
theorem parse_any (l : List UInt8) (w : World) : Calls Try.prog 11 #[.string (strB l)] w fun e w' => e = .returned (.tuple #[arrV (parseL l), .int .i64 (parseE l)]) ∧ Chg (fun _ => False) w w' := by
  go_enter Try.func11, Try.ntmps11
  by_cases hgood : l.length = 64 ∧ l.all isDig = true
  · obtain ⟨h64, hall⟩ := hgood
    go_wp2_with (first
      | ((with_reducible show wpList _ _ _ (⟨some 2, .alloc _, _, _, _, _⟩ :: _) _ _); refine wpl_alloc_row rfl 24 rfl Try.zeroValue24 ?_; intro w1 B1 hc1 hs1)
      | ((with_reducible show wpList _ _ _ (⟨some 4, .alloc _, _, _, _, _⟩ :: _) _ _); refine wpl_alloc_row rfl 24 rfl Try.zeroValue24 ?_; intro w2 B2 hc2 hs2; rw [hs1] at B2 hs2)
      | (go_at_call 15; refine (fair_any l _ (by omega)).mono ?_; rintro e w' ⟨rfl, rfl⟩; rw [hall]))
    have B1' : Blk w1 w.heap.size 24 (bcells (List.replicate 32 0)).toArray := B1
    have B2' : Blk w2 (w.heap.size + 1) 24 (bcells (List.replicate 32 0)).toArray := B2
    clear B1 B2
    go_loopw [15] (fun i wr => ∃ k : Nat, k ≤ 32 ∧ i = .int .i64 k ∧ Blk wr (w.heap.size + 1) 24 (bcells (unhex (l.take (2 * k)) ++ List.replicate (32 - k) 0)).toArray ∧ Chg (fun j => j = w.heap.size + 1) w2 wr) (fun i _ => 32 - (intOf i).toNat)
    case atStart => exact ⟨0, Nat.zero_le _, rfl, by simpa [unhex] using B2', Chg.refl _ _⟩
    case round =>
      obtain ⟨k, hk, rfl, B, hc⟩ := hrel
      by_cases hlt : k < 32
      · have hk0 : 2 * k < l.length := by omega
        have hk1 : 2 * k + 1 < l.length := by omega
        have hx0 := fun w => run_index_strB (P := Try.prog) (w := w) Try.underlying9 .i64 l hk0 (n := 2 * (k : Int)) (by omega)
        have hx1 := fun w => run_index_strB (P := Try.prog) (w := w) Try.underlying9 .i64 l hk1 (n := 2 * (k : Int) + 1) (by omega)
        have hnext := unhex_take l k hk1
        have ha := List.all_eq_true.1 hall _ (List.getElem_mem hk0)
        have hb := List.all_eq_true.1 hall _ (List.getElem_mem hk1)
        generalize l[2 * k] = a at hx0 hnext ha
        generalize l[2 * k + 1] = b at hx1 hnext hb
        rw [halfI_dig] at ha hb
        have ha2 := halfI_lt a
        have hb2 := halfI_lt b
        obtain ⟨x, hx⟩ := Int.eq_ofNat_of_zero_le (a := halfI a) (by simpa using ha)
        obtain ⟨y, hy⟩ := Int.eq_ofNat_of_zero_le (a := halfI b) (by simpa using hb)
        have hor := or_half ⟨x, by omega⟩ ⟨y, by omega⟩
        have hN2 : unhex (l.take (2 * (k + 1))) = unhex (l.take (2 * k)) ++ [UInt8.ofNat (16 * x + y)] := by rw [hnext, hx, hy]; rfl
        simp only at hor
        generalize UInt8.ofNat (16 * x + y) = d at hor hN2
        have hd := d.toNat_lt
        have hm : ((d.toNat : Nat) : Int) % 256 = d.toNat := by omega
        have hA : (unhex (l.take (2 * k))).length = k := unhex_length k _ (by simp; omega)
        have c0 : wr.cell? ⟨w.heap.size + 1, k, none⟩ = some (.int .u8 0) := by
          rw [B.cell]; simp only [List.getElem?_toArray, bcells_get]
          rw [List.getElem?_append_right (by omega), hA, List.getElem?_replicate, if_pos (by omega)]; rfl
        have f0 := B.free k
        have HN := Lib.hid hN2
        clear hnext ha hb hN2
        go_wp2_with fail
        refine wp_region_text mixed (by kernel_rfl) ?_
        go_wp2_with (first
          | (go_at_call 16; refine (half_any a _).mono ?_; rintro e w' ⟨rfl, rfl⟩; rw [hx])
          | (go_at_call 16; refine (half_any b _).mono ?_; rintro e w' ⟨rfl, rfl⟩; rw [hy]))
        refine TQ.normal (by kernel_rfl) ?_
        go_wp2_with fail
        go_roundw
        case rel =>
          refine ⟨k + 1, by omega, by go_num, ?_, ?_⟩
          · have e1 := (B.set k (.int .u8 (d.toNat : Int))).drew
            rw [show List.replicate (32 - k) (0 : UInt8) = 0 :: List.replicate (32 - (k + 1)) 0 from by rw [← List.replicate_succ]; congr 1; omega, bset1 hA] at e1
            rw [HN.out]
            simpa using e1
          · exact (hc.drew).setCell (.inr rfl) _
        case measure => simp [intOf]; omega
      · obtain rfl : k = 32 := by omega
        have hlen : (unhex l).length = 32 := unhex_length 32 l h64
        have e : unhex (l.take (2 * 32)) ++ List.replicate (32 - 32) 0 = unhex l := by rw [List.take_of_length_le (by omega)]; simp
        rw [e] at B
        have BW := (B1'.kept hc2 id).kept hc (by show ¬ w.heap.size = w.heap.size + 1; omega)
        go_wp2_with (first
          | ((with_reducible show wpList _ _ _ (⟨some 35, .load _ _, _, _, _, _⟩ :: _) _ _); refine wpl_load_row rfl 24 (.tmp 4) rfl rfl B Try.underlying24 (idInfo hlen) ?_)
          | ((with_reducible show wpList _ _ _ (⟨none, .store _ _ _, _, _, _, _⟩ :: _) _ _); refine wpl_store_row rfl 24 (.tmp 2) (.tmp 35) rfl rfl rfl BW (idInfo hlen) (by simp [hlen]) (arr_one _) ?_; intro w3 B3 hc3))
        (try simp only [Exit.inBlock, Exit.then])
        refine bodyPost_ret (results_row_tmp rfl rfl B3 Try.underlying24 (idInfo hlen)) rfl ?_
        refine ⟨by simp [parseL, parseE, h64, hall, arrV], ((hc1.trans hc2 fun _ _ h => h).trans hc fun q hq h => by omega).trans hc3 fun q hq h => by omega⟩
  · have hz : (List.replicate 32 (0 : UInt8)).length = 32 := by simp
    by_cases h64 : l.length = 64
    · have hall : l.all isDig = false := by
        cases h : l.all isDig
        · rfl
        · exact (hgood ⟨h64, h⟩).elim
      go_wp2_with (first
        | ((with_reducible show wpList _ _ _ (⟨some 2, .alloc _, _, _, _, _⟩ :: _) _ _); refine wpl_alloc_row rfl 24 rfl Try.zeroValue24 ?_; intro w1 B1 hc1 hs1)
        | ((with_reducible show wpList _ _ _ (⟨some 4, .alloc _, _, _, _, _⟩ :: _) _ _); refine wpl_alloc_row rfl 24 rfl Try.zeroValue24 ?_; intro w2 B2 hc2 hs2; rw [hs1] at B2 hs2)
        | (go_at_call 15; refine (fair_any l _ (by omega)).mono ?_; rintro e w' ⟨rfl, rfl⟩; rw [hall])
        | ((with_reducible show wpList _ _ _ (⟨some 14, .load _ _, _, _, _, _⟩ :: _) _ _); refine wpl_load_row rfl 24 (.tmp 4) rfl rfl (cs := (bcells (List.replicate 32 0)).toArray) B2 Try.underlying24 (idInfo hz) ?_)
        | ((with_reducible show wpList _ _ _ (⟨none, .store _ _ _, _, _, _, _⟩ :: _) _ _); refine wpl_store_row rfl 24 (.tmp 2) (.tmp 14) rfl rfl rfl (cs := (bcells (List.replicate 32 0)).toArray) (Blk.kept (cs := (bcells (List.replicate 32 0)).toArray) B1 hc2 id) (idInfo hz) rfl (arr_one _) ?_; intro w3 B3 hc3))
      (try simp only [Exit.inBlock, Exit.then])
      refine bodyPost_ret (results_row_tmp rfl rfl B3 Try.underlying24 (idInfo hz)) rfl ?_
      exact ⟨by simp [parseL, parseE, hall, arrV], (hc1.trans hc2 fun _ _ h => h).trans hc3 fun q hq h => by omega⟩
    · have h64' : ¬ (l.length : Int) = 64 := by omega
      go_wp2_with (first
        | ((with_reducible show wpList _ _ _ (⟨some 2, .alloc _, _, _, _, _⟩ :: _) _ _); refine wpl_alloc_row rfl 24 rfl Try.zeroValue24 ?_; intro w1 B1 hc1 hs1)
        | ((with_reducible show wpList _ _ _ (⟨some 4, .alloc _, _, _, _, _⟩ :: _) _ _); refine wpl_alloc_row rfl 24 rfl Try.zeroValue24 ?_; intro w2 B2 hc2 hs2; rw [hs1] at B2 hs2)
        | ((with_reducible show wpList _ _ _ (⟨some 14, .load _ _, _, _, _, _⟩ :: _) _ _); refine wpl_load_row rfl 24 (.tmp 4) rfl rfl (cs := (bcells (List.replicate 32 0)).toArray) B2 Try.underlying24 (idInfo hz) ?_)
        | ((with_reducible show wpList _ _ _ (⟨none, .store _ _ _, _, _, _, _⟩ :: _) _ _); refine wpl_store_row rfl 24 (.tmp 2) (.tmp 14) rfl rfl rfl (cs := (bcells (List.replicate 32 0)).toArray) (Blk.kept (cs := (bcells (List.replicate 32 0)).toArray) B1 hc2 id) (idInfo hz) rfl (arr_one _) ?_; intro w3 B3 hc3))
      (try simp only [Exit.inBlock, Exit.then])
      refine bodyPost_ret (results_row_tmp rfl rfl B3 Try.underlying24 (idInfo hz)) rfl ?_
      exact ⟨by simp [parseL, parseE, h64, arrV], (hc1.trans hc2 fun _ _ h => h).trans hc3 fun q hq h => by omega⟩
end Go.Proofs.Ytafgeppdchnceaa
