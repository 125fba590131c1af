import Derived.Test.YtafgeppdchnceaaDoorStream
import Derived.Test.YtafgeppdchnceaaDoorFast
import Derived.Laws.BitsAllLaws
set_option linter.unusedVariables false
namespace Go.Proofs.YtafgeppdchnceaaDoor
open Go Go.RowKit Go.Sat
theorem rot_any (x n : Nat) (hx : x < 4294967296) (h1 : n ≤ 32) : x * 4294967297 / 2 ^ n % 4294967296 = Sha.rotr x n :=
  Sha.rot_parts x (2 ^ n) (2 ^ (32 - n)) n hx rfl rfl (by rw [← Nat.pow_add, show n + (32 - n) = 32 from by omega])
theorem mask32 (x : Nat) (h : x < 18446744073709551616) : bits BinOp.and IntKind.u64 (x : Int) 4294967295 = ((x % 4294967296 : Nat) : Int) := by
  rw [show (4294967295 : Int) = ((4294967295 : Nat) : Int) from rfl, u64_and_nat _ _ h (by decide)]
  congr 1
  exact Nat.and_two_pow_sub_one_eq_mod x 32
theorem rturn_bits (x n : Nat) (hx : x < 4294967296) (h2 : n ≤ 31) : bits BinOp.and IntKind.u64 (bits BinOp.or IntKind.u64 ((x : Int) * 4294967296) (x : Int) / 2 ^ n) 4294967295 = ((Sha.rotr x n : Nat) : Int) := by
  rw [show ((x : Int) * 4294967296) = ((x * 4294967296 : Nat) : Int) from by omega, u64_or_nat _ _ (by omega) (by omega), nat_join32 _ _ (by omega) hx]
  have e : x * 4294967296 + x = x * 4294967297 := by omega
  rw [e, show (((x * 4294967297 : Nat) : Int) / 2 ^ n) = ((x * 4294967297 / 2 ^ n : Nat) : Int) from by simp, mask32 _ (Nat.lt_of_le_of_lt (Nat.div_le_self _ _) (by omega)), rot_any x n hx (by omega)]
theorem ret_u64 {a b : Int} (h : a = b) : Ending.returned (.int .u64 a) = .returned (.int .u64 b) := by rw [h]
set_option maxRecDepth 100000 in
theorem rturn_any (x n : Nat) (w : World) (hx : x < 4294967296) (h1 : 1 ≤ n) (h2 : n ≤ 31) :
    Calls Tryd.prog 39 #[.int .u64 (x : Int), .int .i64 (n : Int)] w fun e w' => e = .returned (.int .u64 (Sha.rotr x n : Nat)) ∧ w = w' := by
  go_enter Tryd.func39, Tryd.ntmps39
  go_wp2_with fail
  go_ret
  exact ⟨ret_u64 (rturn_bits x n hx h2), rfl⟩
/-- The padded text, as words. -/
def wordsOf : List UInt8 → List Nat
  | a :: b :: c :: d :: l => (a.toNat * 16777216 + b.toNat * 65536 + c.toNat * 256 + d.toNat) :: wordsOf l
  | _ => []
theorem wordsOf_append : ∀ (l r : List UInt8), l.length % 4 = 0 → wordsOf (l ++ r) = wordsOf l ++ wordsOf r
  | [], r, _ => rfl
  | [_], _, h => by simp at h
  | [_, _], _, h => by simp at h
  | [_, _, _], _, h => by simp at h
  | a :: b :: c :: d :: l, r, h => by
    have := wordsOf_append l r (by simp at h; omega)
    simp only [List.cons_append, wordsOf, this]
theorem wordsOf_length : ∀ l : List UInt8, (wordsOf l).length = l.length / 4
  | [] => rfl
  | [_] => by simp [wordsOf]
  | [_, _] => by simp [wordsOf]
  | [_, _, _] => by simp [wordsOf]
  | a :: b :: c :: d :: l => by
    have := wordsOf_length l
    simp only [wordsOf, List.length_cons, this]; omega
/-- A word, begun. -/
def pw (l : List UInt8) : Nat := l.foldl (fun x b => 256 * x + b.toNat) 0
theorem pw_snoc (l : List UInt8) (b : UInt8) : pw (l ++ [b]) = 256 * pw l + b.toNat := by simp [pw]
theorem pw_lt : ∀ (l : List UInt8), l.length ≤ 4 → pw l < 4294967296 ∧ (l.length ≤ 3 → pw l < 16777216)
  | [], _ => by simp [pw]
  | [a], _ => by have := a.toNat_lt; simp [pw]; omega
  | [a, b], _ => by have := a.toNat_lt; have := b.toNat_lt; simp [pw]; omega
  | [a, b, c], _ => by have := a.toNat_lt; have := b.toNat_lt; have := c.toNat_lt; simp [pw]; omega
  | [a, b, c, d], _ => by have := a.toNat_lt; have := b.toNat_lt; have := c.toNat_lt; have := d.toNat_lt; simp [pw]; omega
  | _ :: _ :: _ :: _ :: _ :: _, h => by simp at h
theorem wordsOf_four (l : List UInt8) (h : l.length = 4) : wordsOf l = [pw l] := by
  match l, h with
  | [a, b, c, d], _ => simp only [wordsOf, pw, List.foldl_cons, List.foldl_nil]; congr 1; omega
def wcells64 (l : List Nat) : List Value := l.map fun (n : Nat) => .int .u64 (n : Int)
@[simp] theorem wcells64_length (l : List Nat) : (wcells64 l).length = l.length := by simp [wcells64]
theorem infoU64 : (Tryd.prog.info? 78).map (fun i => (i.zero, i.size, i.bytes)) = some (some (.int .u64 0), 1, 8) := by kernel_rfl
theorem tyWords : SliceTy Tryd.prog 83 78 1 8 (.int .u64 0) := by
  obtain ⟨i0, hi0, hz0, hz1, hz2⟩ := info_parts infoU64
  exact ⟨Tryd.underlying83, ⟨i0, hi0, hz0, hz1, hz2⟩, rfl, by decide⟩
/-- The length, byte by byte, as the reference shifts it out. -/
theorem shift_step (bits k : Nat) (hb : bits < 18446744073709551616) (hk : k < 8) : bits * 256 ^ k % 18446744073709551616 / 72057594037927936 = bits / 256 ^ (7 - k) % 256 := by
  have h0 : k = 0 ∨ k = 1 ∨ k = 2 ∨ k = 3 ∨ k = 4 ∨ k = 5 ∨ k = 6 ∨ k = 7 := by omega
  rcases h0 with rfl | rfl | rfl | rfl | rfl | rfl | rfl | rfl <;> simp <;> omega
set_option maxRecDepth 100000 in
set_option maxHeartbeats 1600000 in
theorem padded_any (x : Value) (d : List UInt8) (w : World) (hx : Rd w x d) (hd : d.length ≤ 10000000) :
    Calls Tryd.prog 38 #[x] w fun e w' => ∃ v, e = .returned v ∧ Own w' 78 1 v (wordsOf (d ++ Sha.pad d)).length (wcells64 (wordsOf (d ++ Sha.pad d))) ∧ Chg (fun _ => False) w w' := by
  obtain ⟨xa, xc, rfl, _⟩ := hx.form
  obtain ⟨z, HZ⟩ : ∃ z, z = (119 - d.length % 64) % 64 := ⟨_, rfl⟩
  have hz64 : z < 64 := by omega
  have hzm : (d.length + (1 + z)) % 64 = 56 := by omega
  have hzn : ∀ k, k < z → (d.length + (1 + k)) % 64 ≠ 56 := fun k hk => by omega
  have HZM := Lib.hid hzm
  have HZN := Lib.hid hzn
  have HZ' := Lib.hid HZ
  clear hzm hzn HZ
  go_enter Tryd.func38, Tryd.ntmps38
  go_wp2_with fail
  ((with_reducible refine (copy_any _ d w hx (by omega)).mono ?_); rintro e w1 ⟨rfl, O1, C1, hz1⟩)
  generalize hgg : w.heap.size = g at *
  have HG := Lib.hid hgg
  clear hgg
  go_wp2_with ((with_reducible show wpList _ _ _ (⟨some 14, _, _, _, _, _⟩ :: _) _ _); refine wpl_append (o := ⟨some 14, _, _, _, _, _⟩) rfl (.tmp 12) (.tmp 13) 22 rfl tyBytes (O1.alloc _) (Sl.built1 w1 (.int .u8 128) _ rfl) rfl rfl (by unfold maxLen; omega) (by omega) ?_; intro na nc w2 O2 hgr2 hblk2)
  have D2 : Chg (fun _ => False) w w2 := (C1.trans ((Chg.refl (fun q => q = g) w1).alloc _ |>.grown hgr2 (fun q hq => .inr (Option.some.inj hq).symm)) (fun q hq e => by have := HG.out; omega))
  have hb2 : ∀ q, (Value.slice na (d.length + 1) nc).ownBlock = some q → g ≤ q := fun q hq => by
    rcases hblk2 with e | e
    · rw [e] at hq; exact Nat.le_of_eq (Option.some.inj hq)
    · rw [e] at hq; simp at hq; omega
  have O3 : Own w2 5 1 (.slice na (d.length + 1) nc) (d.length + (1 + 0)) (bcells (d ++ 128 :: List.replicate 0 0)) := O2.cast (by omega) (by simp [bcells])
  clear O1 O2 hgr2 hblk2 C1 hz1
  go_loopw [3] (fun s3 wr => ∃ k : Nat, k ≤ z ∧ Own wr 5 1 s3 (d.length + (1 + k)) (bcells (d ++ 128 :: List.replicate k 0)) ∧ (∀ q, s3.ownBlock = some q → g ≤ q) ∧ Chg (fun _ => False) w wr) (fun s3 _ => match s3 with | .slice _ n _ => d.length + 1 + z - n | _ => 0)
  case atStart => exact ⟨0, by omega, O3, hb2, D2⟩
  case round =>
    clear O3 hb2 D2
    obtain ⟨k, hk, O, hyq, C⟩ := hrel
    obtain ⟨ya, yc, rfl, hyc⟩ := O.form
    by_cases hlt : k < z
    · have hq : (((d.length : Int) + (1 + (k : Int))) % 64 != 56) = true := by have := HZN.out k hlt; simp; omega
      go_wp2_with ((with_reducible show wpList _ _ _ (⟨some 21, _, _, _, _, _⟩ :: _) _ _); refine wpl_append (o := ⟨some 21, _, _, _, _, _⟩) rfl (.tmp 19) (.tmp 20) 22 rfl tyBytes (O.alloc _) (Sl.built1 wr (.int .u8 0) _ rfl) rfl rfl (by unfold maxLen; omega) (by omega) ?_; intro ma mc w6 O6 hgr6 hblk6)
      go_roundw
      case rel =>
        refine ⟨k + 1, by omega, O6.cast (by omega) (by rw [List.replicate_succ']; simp [bcells]), fun q hq => ?_, (C.alloc _).grown hgr6 (fun q hq => .inl (by have := hyq q hq; have := HG.out; omega))⟩
        rcases hblk6 with e | e
        · rw [e] at hq; exact hyq q hq
        · rw [e] at hq; simp at hq; have := C.size; have := HG.out; omega
      case measure => simp; omega
    · have hkz : z = k := by omega
      subst hkz
      have hq : (((d.length : Int) + (1 + (z : Int))) % 64 != 56) = false := by have := HZM.out; simp; omega
      obtain ⟨B, hB⟩ : ∃ B, B = 8 * d.length := ⟨_, rfl⟩
      have hBb : B < 18446744073709551616 := by omega
      have hBi : 8 * (d.length : Int) = (B : Int) := by omega
      obtain ⟨P0, hP0⟩ : ∃ P0, P0 = d ++ 128 :: List.replicate z 0 := ⟨_, rfl⟩
      rw [← hP0] at O
      have hpl : d.length + (1 + z) ≤ 10000100 := by omega
      generalize hn0 : d.length + (1 + z) = n0 at *
      have HP0 := Lib.hid hP0
      have HB := Lib.hid hB
      have HN0 := Lib.hid hn0
      have hqn : ((n0 : Int) % 64 != 56) = false := by have := HZM.out; simp; omega
      clear hP0 hB hlt hq hn0
      go_wp2_with fail
      have O4 : Own wr 5 1 (.slice ya n0 yc) (n0 + 0) (bcells (P0 ++ lenB B 0)) := O.cast rfl (by simp [lenB])
      have hB0 : B * 256 ^ 0 % 18446744073709551616 = B := by simp; exact hBb
      clear O hBi
      go_loopw [3, 4, 5] (fun s3 s4 s5 w2 => ∃ j m : Nat, j ≤ 8 ∧ s5 = .int .i64 j ∧ s4 = .int .u64 m ∧ B * 256 ^ j % 18446744073709551616 = m ∧ Own w2 5 1 s3 (n0 + j) (bcells (P0 ++ lenB B j)) ∧ (∀ q, s3.ownBlock = some q → g ≤ q) ∧ Chg (fun _ => False) w w2) (fun _ _ s5 _ => 8 - (intOf s5).toNat)
      case atStart => exact ⟨0, B, by omega, rfl, rfl, hB0, O4, hyq, C⟩
      case round =>
        clear O4 hyq C hB0 hyc
        obtain ⟨j, m, hj, rfl, rfl, hm, O, hyq, C⟩ := hrel
        obtain ⟨xa, xc, rfl, hxc⟩ := O.form
        have hml : m < 18446744073709551616 := by rw [← hm]; exact Nat.mod_lt _ (by decide)
        by_cases hlt : j < 8
        · have hbyte : ((m : Int) / 72057594037927936) = ((UInt8.ofNat (B / 256 ^ (7 - j))).toNat : Int) := by
            have h1 := shift_step B j hBb hlt
            rw [hm] at h1
            rw [← byte_of]
            omega
          have hnext : B * 256 ^ (j + 1) % 18446744073709551616 = m * 256 % 18446744073709551616 := by
            rw [← hm, Nat.pow_succ, ← Nat.mul_assoc, Nat.mod_mul_mod]
          have HBY := Lib.hid hbyte
          have HNX := Lib.hid hnext
          have HM := Lib.hid hm
          clear hbyte hnext hm
          go_wp2_with ((with_reducible show wpList _ _ _ (⟨some 35, _, _, _, _, _⟩ :: _) _ _); refine wpl_append (o := ⟨some 35, _, _, _, _, _⟩) rfl (.tmp 30) (.tmp 34) 22 rfl tyBytes (O.alloc _) (Sl.built1 wr (.int .u8 ((m : Int) / 72057594037927936)) _ rfl) rfl rfl (by unfold maxLen; omega) (by omega) ?_; intro ma mc w6 O6 hgr6 hblk6)
          go_roundw
          case rel =>
            refine ⟨j + 1, m * 256 % 18446744073709551616, by omega, by go_num, by go_num, HNX.out, O6.cast (by omega) (by rw [HBY.out, lenB_succ]; simp [bcells]), fun q hq => ?_, (C.alloc _).grown hgr6 (fun q hq => .inl (by have := hyq q hq; have := HG.out; omega))⟩
            rcases hblk6 with e | e
            · rw [e] at hq; exact hyq q hq
            · rw [e] at hq; simp at hq; have := C.size; have := HG.out; omega
          case measure => simp [intOf]; omega
        · have hj8 : j = 8 := by omega
          have HJ := Lib.hid hj8
          have hjd : decide ((j : Int) < 8) = false := by simp; omega
          have hjl : j ≤ 8 := hj
          clear hm hlt hj hj8
          obtain ⟨P, hP⟩ : ∃ P, P = P0 ++ lenB B j := ⟨_, rfl⟩
          rw [← hP] at O
          have hPp : P = d ++ Sha.pad d := by
            rw [hP, HP0.out, HJ.out, pad_eq, HB.out, HZ'.out, Nat.mod_eq_of_lt (show 8 * d.length < 18446744073709551616 by omega)]
            simp
          have hPl : P.length = n0 + j := by rw [hP, HP0.out, List.length_append, lenB_length]; have := HN0.out; simp; omega
          have HPP := Lib.hid hPp
          have HPL := Lib.hid hPl
          obtain ⟨M, hM⟩ : ∃ M : Nat, n0 + j = 4 * M := ⟨(n0 + j) / 4, by have := HN0.out; have := HZ'.out; have := HJ.out; omega⟩
          have hMl : M ≤ 3000000 := by omega
          have HMM := Lib.hid hM
          have O5 : Own wr 5 1 (.slice xa (n0 + j) xc) P.length (bcells P) := O.cast hPl.symm rfl
          have RP : Rd wr (.slice xa (n0 + j) xc) P := Own.rd (e := 5) O5
          clear hP hPp hPl O O5
          have hxo : ∀ q, rdb (.slice xa (n0 + j) xc) = some q → g ≤ q := fun q hq => hyq q (rdb_own hq)
          have hxl := RP.lt
          obtain ⟨wp, hwp⟩ : ∃ wp : World, wp = wr := ⟨_, rfl⟩
          have C0 : Chg (fun _ => False) wr wr := Chg.refl _ _
          rw [hM] at RP hxo hxl ⊢
          have hxc' : 4 * M ≤ xc := by omega
          clear hwp wp hxc hM hyq
          go_wp2_with fail
          go_loopw [6, 7] (fun s6 s7 w2 => ∃ m : Nat, m ≤ M ∧ s7 = .int .i64 ((4 * m : Nat) : Int) ∧ Own w2 78 1 s6 m (wcells64 (wordsOf (P.take (4 * m)))) ∧ (∀ q, s6.ownBlock = some q → g ≤ q ∧ rdb (.slice xa (4 * M) xc) ≠ some q) ∧ Rd w2 (.slice xa (4 * M) xc) P ∧ Chg (fun _ => False) w w2) (fun _ s7 _ => 4 * M - (intOf s7).toNat)
          case atStart => exact ⟨0, by omega, rfl, World.ownsRow_nil _ 0 _ 1, fun q hq => by simp [Value.ownBlock] at hq, RP, C⟩
          case round =>
            clear RP C C0 hxl
            obtain ⟨m2, hm2, rfl, OW, so, RP, C⟩ := hrel
            obtain ⟨oa, oc, rfl, hoc⟩ := OW.form
            have hPl4 : P.length = 4 * M := HPL.out.trans HMM.out
            by_cases hlt : m2 < M
            · obtain ⟨q4, hq4⟩ : ∃ q4 : Nat, q4 = 4 * m2 := ⟨_, rfl⟩
              have hq4M : q4 + 4 ≤ 4 * M := by omega
              rw [← hq4]
              have hpw0 : pw ((P.drop q4).take 0) = 0 := rfl
              have HPL4 := Lib.hid hPl4
              have HQ4 := Lib.hid hq4
              have hdec : decide ((q4 : Int) < 4 * (M : Int)) = true := by simp; omega
              obtain ⟨bb, bo, bc, e1, _, _⟩ := RP.addr (by omega)
              have e2 : xa = some ⟨bb, bo, none⟩ := by injection e1
              subst e2
              clear hPl4 hq4 e1
              go_wp2_with fail
              go_loopw [8, 9] (fun s8 s9 w3 => ∃ k : Nat, k ≤ 4 ∧ s9 = .int .i64 k ∧ s8 = .int .u64 ((pw ((P.drop q4).take k) : Nat) : Int) ∧ wr = w3) (fun _ s9 _ => 4 - (intOf s9).toNat)
              case atStart => exact ⟨0, by omega, rfl, rfl, rfl⟩
              case round =>
                obtain ⟨k, hk, rfl, rfl, rfl⟩ := hrel
                by_cases hk4 : k < 4
                · have hql : q4 + k < P.length := by have := HPL4.out; omega
                  have hcell := RP.cell hql
                  have hsn : (P.drop q4).take (k + 1) = (P.drop q4).take k ++ [P[q4 + k]] := by
                    rw [List.take_succ_eq_append_getElem (by simp; omega), List.getElem_drop]
                  have hpb := (pw_lt ((P.drop q4).take k) (by simp; omega)).2 (by simp; omega)
                  have hnx : pw ((P.drop q4).take (k + 1)) = 256 * pw ((P.drop q4).take k) + P[q4 + k].toNat := by rw [hsn, pw_snoc]
                  have hbl := P[q4 + k].toNat_lt
                  have hoff : bo + (q4 + k) = bo + (q4 + k) := rfl
                  generalize P[q4 + k] = b at *
                  generalize pw ((P.drop q4).take k) = pv at *
                  have HNX := Lib.hid hnx
                  clear hnx hsn hoff
                  go_wp2_with fail
                  go_roundw
                  case rel => exact ⟨k + 1, by omega, by go_num, by rw [HNX.out]; go_num, by simp⟩
                  case measure => simp [intOf]; omega
                · have hk4' : k = 4 := by omega
                  have hkd : decide ((k : Int) < 4) = false := by simp; omega
                  have hw4 : wordsOf (P.take (4 * (m2 + 1))) = wordsOf (P.take (4 * m2)) ++ [pw ((P.drop q4).take k)] := by
                    rw [hk4', show 4 * (m2 + 1) = 4 * m2 + 4 from by omega, List.take_add, wordsOf_append _ _ (by rw [List.length_take, HPL4.out]; omega), wordsOf_four ((P.drop (4 * m2)).take 4) (by rw [List.length_take, List.length_drop, HPL4.out]; have := HQ4.out; omega), HQ4.out]
                  have HW4 := Lib.hid hw4
                  generalize pw ((P.drop q4).take k) = pv at *
                  clear hw4 hk4 hpw0 hk4'
                  go_wp2_with ((with_reducible show wpList _ _ _ (⟨some 61, _, _, _, _, _⟩ :: _) _ _); refine wpl_append (o := ⟨some 61, _, _, _, _, _⟩) rfl (.tmp 58) (.tmp 60) 83 rfl tyWords (OW.alloc _) (Sl.built1 wr (.int .u64 (pv : Int)) _ rfl) rfl rfl (by unfold maxLen; omega) (by omega) ?_; intro ma mc w6 O6 hgr6 hblk6)
                  go_roundw
                  case rel =>
                    have hrl := RP.lt
                    refine ⟨m2 + 1, by omega, ?_, O6.cast rfl (by rw [HW4.out]; simp [wcells64]), fun q hq => ?_, (RP.alloc _).kept (Chg.of_grown hgr6 (fun q hq _ => hq)) (fun q hq e => (so q e).2 hq), (C.alloc _).grown hgr6 (fun q hq => .inl (by have := (so q hq).1; have := HG.out; omega))⟩
                    · have := HQ4.out
                      congr 1
                      omega
                    · rcases hblk6 with e | e
                      · rw [e] at hq; exact so q hq
                      · rw [e] at hq; simp at hq
                        refine ⟨by have := C.size; have := HG.out; omega, fun e2 => by have := hrl q e2; omega⟩
                  case measure => have := HQ4.out; simp [intOf]; omega
            · have hmM : m2 = M := by omega
              subst hmM
              rw [List.take_of_length_le (by omega), HPP.out] at OW
              have hwl : (wordsOf (d ++ Sha.pad d)).length = m2 := by rw [wordsOf_length, ← HPP.out, hPl4]; omega
              have HWL := Lib.hid hwl
              have HOW := Lib.hid OW
              clear hwl OW hPl4
              go_wp2_with fail
              go_ret
              exact ⟨_, rfl, by rw [HWL.out]; exact HOW.out, C⟩
end Go.Proofs.YtafgeppdchnceaaDoor
