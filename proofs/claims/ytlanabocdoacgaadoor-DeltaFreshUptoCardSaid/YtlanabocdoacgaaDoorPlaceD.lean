import Derived.Test.YtlanabocdoacgaaDoorEyeD
set_option linter.unusedVariables false
namespace Go.Sat
open Go Go.RowKit

theorem strB_toList (l : List UInt8) : (strB l).toList = l := by rw [ByteArray.toList_eq]; rfl
theorem wpl_strG {P : Program} {ops : Array Oper} {rest : List Oper} {o : Oper} {a : Act} {Q : Exit → Act → World → Prop} {w : World} (hw : Region.wanted o (yielded ops a.tmps) = true) (src dst : TypeId) (s : Operand)
    (ho : o.op = .convert src dst s) {e : TypeId} (hs : P.underlying src = some (.slice e)) (he : P.underlying e = some (.int .u8)) (hd : P.underlying dst = some .string) {x : Value} {l : List UInt8} (hx : Rd w x l) (hy : a.eval s = x)
    (h : wpList P ops Q rest (a.put o.dst (.string (strB l))) w) : wpList P ops Q (o :: rest) a w := by
  refine BigFrame.wpList_want hw fun K hK => ?_
  unfold Oper.wp execOp
  simp only [ho, Sem.run_bind, hy, run_str hs he hd hx, Result.andThen_ok, Sem.run_pure]
  exact hK _ _ h
theorem xor_byte (x : UInt8) : ∃ y : UInt8, bits BinOp.xor IntKind.u8 (x.toNat : Int) 1 = (y.toNat : Int) := by
  have h := u8_xor_nat x.toNat 1 x.toNat_lt (by decide)
  have hl : x.toNat ^^^ 1 < 2 ^ 8 := Nat.xor_lt_two_pow x.toNat_lt (by decide)
  refine ⟨UInt8.ofNat (x.toNat ^^^ 1), ?_⟩
  rw [show ((1 : Int)) = ((1 : Nat) : Int) from rfl, h]
  simp
end Go.Sat
namespace Go.Proofs.YtlanabocdoacgaaDoor
open Go Go.RowKit Go.Sat

/-- A call that answers some bytes, so many, in new memory. -/
def NewN (w : World) (n : Nat) (e : Ending) (w' : World) : Prop :=
  ∃ l v, l.length = n ∧ e = .returned v ∧ Own w' 5 1 v l.length (bcells l) ∧ Chg (fun _ => False) w w' ∧ ∀ k, v.ownBlock = some k → w.heap.size ≤ k
set_option maxRecDepth 100000 in
set_option maxHeartbeats 800000 in
theorem other_any (x : Value) (l : List UInt8) (w : World) (hx : Rd w x l) (hl : l.length ≤ 1000000000) :
    Calls Tryd.prog 38 #[x] w (NewN w l.length) := by
  obtain ⟨xa, xc, rfl, _⟩ := hx.form
  go_enter Tryd.func38, Tryd.ntmps38
  go_wp2_with fail
  go_loopw [3, 4] (fun v i wr => ∃ (k : Nat) (l2 : List UInt8), k ≤ l.length ∧ i = .int .i64 ((l.length : Int) - 1 - k) ∧ l2.length = k ∧ Own wr 5 1 v k (bcells l2) ∧ Chg (fun _ => False) w wr ∧ ∀ z, v.ownBlock = some z → w.heap.size ≤ z) (fun _ i _ => (intOf i + 1).toNat)
  case atStart => exact ⟨0, [], Nat.zero_le _, by simp, rfl, World.ownsRow_nil _ _ _ _, Chg.refl _ _, fun z hz => by simp [Value.ownBlock] at hz⟩
  case round =>
    obtain ⟨k, l2, hk, rfl, hl2, O, C, hf⟩ := hrel
    obtain ⟨va, vc, rfl, _⟩ := O.form
    by_cases hlt : k < l.length
    · have hxr := hx.kept C (fun _ _ => id)
      obtain ⟨g, off, c', e1, _, _⟩ := hxr.addr (by omega)
      cases e1
      rw [show ((l.length : Int) - 1 - k) = ((l.length - 1 - k : Nat) : Int) from by omega]
      have hj : l.length - 1 - k < l.length := by omega
      have c1 := hxr.cell hj
      generalize l[l.length - 1 - k] = b at c1
      have HLB := Lib.hid hl2
      clear hl2
      generalize hq : l.length - 1 - k = q at hj c1
      have HQ := Lib.hid hq
      clear hq
      go_wp2_with ((with_reducible show wpList _ _ _ (⟨some 18, _, _, _, _, _⟩ :: _) _ _); refine wpl_append (o := ⟨some 18, _, _, _, _, _⟩) rfl (.tmp 12) (.tmp 17) 24 rfl tyBytes (O.alloc _) (Sl.built1 wr (.int .u8 (b.toNat : Int)) _ rfl) rfl rfl (by unfold maxLen; omega) (by omega) ?_; intro na nc w2 O2 hgr2 hblk2)
      have C2 := Chg.grown (C.alloc (.cells #[.int .u8 (b.toNat : Int)] 5)) hgr2 fun z hz => .inl (hf z hz)
      have hs := C.size
      go_roundw
      case rel => exact ⟨k + 1, l2 ++ [b], by omega, by have := HQ.out; exact congrArg (Value.int IntKind.i64) (by push_cast; omega), by simp [HLB.out], O2.cast rfl (by simp [bcells]), C2, fun z hz => by
        rcases hblk2 with h | h
        · rw [h] at hz; exact hf z hz
        · rw [h] at hz; simp at hz; omega⟩
      case measure => have := HQ.out; simp [intOf] <;> omega
    · have hkl : k = l.length := by omega
      have hxr := hx.kept C (fun _ _ => id)
      have hrd : Rd wr (.slice va k vc) l2 := by
        have := O.sl (bcells_one l2)
        unfold Rd; rw [hl2]; exact this
      rw [show ((l.length : Int) - 1 - k) = -1 from by omega]
      have HKL := Lib.hid hkl
      have HLB := Lib.hid hl2
      clear hkl hl2
      by_cases h0 : l.length = 0
      · have hd : decide ((0 : Int) < l.length) = false := decide_eq_false (by omega)
        have hd2 : decide (0 < l.length) = false := decide_eq_false (by omega)
        have hd3 : ¬ ((0 : Int) < l.length) := by omega
        have hd4 : ¬ (0 < l.length) := by omega
        have H0 := Lib.hid h0
        clear h0
        go_wp2_with fail
        go_ret
        exact ⟨l2, _, by rw [HLB.out, HKL.out], rfl, by rw [HLB.out]; exact O, C, hf⟩
      · have hd : decide ((0 : Int) < l.length) = true := decide_eq_true (by omega)
        have hpos : 0 < k := by have := HKL.out; omega
        by_cases he : (l2 == l) = true
        · have hse2 : ((strB l2).toList == (strB l).toList) = true := by rw [strB_toList, strB_toList]; exact he
          obtain ⟨g, rfl, hg⟩ := O.addr hpos
          have hk1 : k - 1 < l2.length := by rw [HLB.out]; omega
          obtain ⟨y, hy⟩ := xor_byte l2[k - 1]
          obtain ⟨O2, fr, cc⟩ := O.store (i := k - 1) (by omega) (.int .u8 (y.toNat : Int))
          rw [bcells_get, List.getElem?_eq_getElem hk1] at cc
          simp only [Option.map_some] at cc
          generalize l2[k - 1] = b at cc hy
          have hsub : ((k : Int) - 1) = ((k - 1 : Nat) : Int) := by omega
          go_wp2_with (first
            | ((with_reducible show wpList _ _ _ (⟨some 24, _, _, _, _, _⟩ :: _) _ _); refine wpl_strG (o := ⟨some 24, _, _, _, _, _⟩) (by rfl) 24 9 (.tmp 23) rfl Tryd.underlying24 Tryd.underlying5 Tryd.underlying9 (hrd) rfl ?_)
            | ((with_reducible show wpList _ _ _ (⟨some 26, _, _, _, _, _⟩ :: _) _ _); refine wpl_strG (o := ⟨some 26, _, _, _, _, _⟩) (by rfl) 24 9 (.tmp 25) rfl Tryd.underlying24 Tryd.underlying5 Tryd.underlying9 (hxr) rfl ?_)
            | fail)
          go_ret
          exact ⟨l2.set (k - 1) y, _, by rw [List.length_set, HLB.out, HKL.out], rfl, by
            have e : (l2.set (k - 1) y).length = k := by rw [List.length_set, HLB.out]
            rw [e]
            exact O2.cast rfl (by simp [bcells, List.map_set]), C.setCell (.inl (hf g rfl)) _, hf⟩
        · have hse2 : ((strB l2).toList == (strB l).toList) = false := by rw [strB_toList, strB_toList]; simpa using he
          go_wp2_with (first
            | ((with_reducible show wpList _ _ _ (⟨some 24, _, _, _, _, _⟩ :: _) _ _); refine wpl_strG (o := ⟨some 24, _, _, _, _, _⟩) (by rfl) 24 9 (.tmp 23) rfl Tryd.underlying24 Tryd.underlying5 Tryd.underlying9 (hrd) rfl ?_)
            | ((with_reducible show wpList _ _ _ (⟨some 26, _, _, _, _, _⟩ :: _) _ _); refine wpl_strG (o := ⟨some 26, _, _, _, _, _⟩) (by rfl) 24 9 (.tmp 25) rfl Tryd.underlying24 Tryd.underlying5 Tryd.underlying9 (hxr) rfl ?_)
            | fail)
          go_ret
          exact ⟨l2, _, by rw [HLB.out, HKL.out], rfl, by rw [HLB.out]; exact O, C, hf⟩

theorem lay_set (l2 m : List UInt8) (k : Nat) (h : k < l2.length) (h2 : k < m.length) : (l2.take k ++ m.drop k).set k l2[k] = l2.take (k + 1) ++ m.drop (k + 1) := by
  have e1 : (l2.take k).length = k := by simp; omega
  rw [List.set_append_right _ _ (by omega), e1, Nat.sub_self, List.drop_eq_getElem_cons h2, List.set_cons_zero, List.take_succ_eq_append_getElem h, List.append_assoc]
  rfl
set_option maxRecDepth 100000 in
set_option maxHeartbeats 800000 in
theorem into2_any (g cap : Nat) (y : Value) (l l2 : List UInt8) (w : World) (hx : Lent w g cap l) (hy : Rd w y l2) (hn : l2.length = l.length) (hs : ∀ k, rdb y = some k → k ≠ g) (hl : l.length ≤ 1000000000) :
    Calls Tryd.prog 39 #[.slice (some ⟨g, 0, none⟩) l.length cap, y] w fun e w' => e = .returned (.tuple #[]) ∧ Lent w' g cap l2 ∧ Chg (fun k => k = g) w w' := by
  obtain ⟨ya, yc, rfl, _⟩ := hy.form
  have HN := Lib.hid hn
  rw [hn] at hy hs ⊢
  clear hn
  go_enter Tryd.func39, Tryd.ntmps39
  go_wp2_with fail
  go_loopw [4] (fun i wr => ∃ k : Nat, k ≤ l.length ∧ i = .int .i64 k ∧ Own wr 5 1 (.slice (some ⟨g, 0, none⟩) (l.length + 3) cap) (l.length + 3) (bcells (l2.take k ++ (l ++ [165, 90, 165]).drop k)) ∧ Chg (fun k => k = g) w wr) (fun i _ => l.length - (intOf i).toNat)
  case atStart => exact ⟨0, Nat.zero_le _, rfl, by simpa using hx.own, Chg.refl _ _⟩
  case round =>
    obtain ⟨k, hk, rfl, O, C⟩ := hrel
    by_cases hlt : k < l.length
    · have hk2 : k < l2.length := by rw [HN.out]; exact hlt
      have hyr := hy.kept C hs
      obtain ⟨gy, off, c', e1, _, _⟩ := hyr.addr (by omega)
      injection e1 with e2 e3 e4
      subst e2 e4
      have c1 := hyr.cell hk2
      obtain ⟨O1, fr, cc⟩ := O.store (i := k) (by omega) (.int .u8 (l2[k].toNat : Int))
      have hm : k < (l ++ [165, 90, 165]).length := by simp; omega
      have hset : (bcells (l2.take k ++ (l ++ [165, 90, 165]).drop k)).set k (.int .u8 (l2[k].toNat : Int)) = bcells (l2.take (k + 1) ++ (l ++ [165, 90, 165]).drop (k + 1)) := by
        rw [← lay_set l2 _ k hk2 hm]; simp [bcells, List.map_set]
      rw [hset] at O1
      have hO := O.1
      rw [List.getElem?_eq_getElem (by omega)] at cc
      generalize l2[k] = b at *
      clear hset hyr
      go_wp2_with fail
      go_roundw
      case rel => exact ⟨k + 1, by omega, by go_num, O1, C.setCell (.inr rfl) _⟩
      case measure => simp [intOf]; omega
    · obtain rfl : k = l.length := by omega
      go_wp2_with fail
      go_end0
      refine ⟨rfl, ⟨?_⟩, C⟩
      rw [HN.out]
      refine O.cast rfl ?_
      rw [List.take_of_length_le (by rw [HN.out]; exact Nat.le_refl _), List.drop_left]
end Go.Proofs.YtlanabocdoacgaaDoor
