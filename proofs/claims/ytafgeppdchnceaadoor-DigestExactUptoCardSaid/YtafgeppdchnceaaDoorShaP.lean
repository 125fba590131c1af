import Derived.Test.YtafgeppdchnceaaDoorProg
import Derived.Test.YtafgeppdchnceaaDoorArr
import Derived.Test.YtafgeppdchnceaaDoorRegion
import Derived.Test.YtafgeppdchnceaaDoorPin
import Derived.Test.YtafgeppdchnceaaDoorSha
import Derived.BigQuiet
set_option linter.unusedVariables false
namespace Go.Proofs.YtafgeppdchnceaaDoor
open Go Go.RowKit Go.Sat
theorem mixed : Tryd.prog.follows .mixedOrders = true := by kernel_rfl
theorem rotr_bits (x n : Nat) (hx : x < 4294967296) : bits BinOp.or IntKind.u32 ((x : Int) / 2 ^ n) ((x : Int) * 2 ^ (32 - n) % 4294967296) = ((Sha.rotr x n : Nat) : Int) := by
  have h1 : x / 2 ^ n < 4294967296 := Nat.lt_of_le_of_lt (Nat.div_le_self _ _) hx
  have := u32_or_nat (x / 2 ^ n) (x * 2 ^ (32 - n) % 4294967296) h1 (Nat.mod_lt _ (by decide))
  unfold Sha.rotr
  rw [← this]
  simp
theorem ret_u32 {a b : Int} (h : a = b) : Ending.returned (.int .u32 a) = .returned (.int .u32 b) := by rw [h]
/-- The world is as it was but for answers drawn. -/
def Drawn (w w' : World) : Prop := ∃ n, w' = w.drewN n
theorem Drawn.refl (w : World) : Drawn w w := ⟨0, rfl⟩
theorem Drawn.drew {w w' : World} (h : Drawn w w') : Drawn w w'.drew := by obtain ⟨n, rfl⟩ := h; exact ⟨n + 1, by simp [World.drewN, World.drew, Nat.add_assoc]⟩
theorem Drawn.chg {w w' : World} (h : Drawn w w') (S : Nat → Prop) : Chg S w w' := by obtain ⟨n, rfl⟩ := h; exact (Chg.refl S w).drewN n
set_option maxRecDepth 100000 in
theorem turn_any (x n : Nat) (w : World) (hx : x < 4294967296) (h1 : 1 ≤ n) (h2 : n ≤ 31) :
    Calls Tryd.prog 54 #[.int .u32 (x : Int), .int .i64 (n : Int)] w fun e w' => e = .returned (.int .u32 (Sha.rotr x n : Nat)) ∧ Drawn w w' := by
  go_enter Tryd.func54, Tryd.ntmps54
  go_wp2_with fail
  refine wp_region_text mixed (by kernel_rfl) ?_
  go_wp2_with fail
  refine TQ.normal (by kernel_rfl) ?_
  go_wp2_with fail
  go_ret
  exact ⟨ret_u32 (rotr_bits x n hx), (Drawn.refl w).drew⟩
/-- The cells of words. -/
def wcells (l : List Nat) : List Value := l.map fun (n : Nat) => .int .u32 (n : Int)
@[simp] theorem wcells_length (l : List Nat) : (wcells l).length = l.length := by simp [wcells]
theorem wset1 {A R : List Nat} {k : Nat} (hA : A.length = k) (z x : Nat) : (wcells (A ++ z :: R)).toArray.setIfInBounds k (.int .u32 (x : Int)) = (wcells (A ++ x :: R)).toArray := by
  subst hA
  simp only [List.setIfInBounds_toArray, wcells, List.map_append, List.map_cons]
  rw [List.set_append_right _ _ (by simp)]
  simp
theorem word_bits (b0 b1 b2 b3 : UInt8) : bits BinOp.or IntKind.u32 (bits BinOp.or IntKind.u32 (bits BinOp.or IntKind.u32 ((b0.toNat : Int) % 4294967296 * 16777216 % 4294967296) ((b1.toNat : Int) % 4294967296 * 65536 % 4294967296)) ((b2.toNat : Int) % 4294967296 * 256 % 4294967296)) ((b3.toNat : Int) % 4294967296) =
    ((b0.toNat * 16777216 + b1.toNat * 65536 + b2.toNat * 256 + b3.toNat : Nat) : Int) := by
  have h0 := b0.toNat_lt
  have h1 := b1.toNat_lt
  have h2 := b2.toNat_lt
  have h3 := b3.toNat_lt
  generalize b0.toNat = a at *
  generalize b1.toNat = b at *
  generalize b2.toNat = c at *
  generalize b3.toNat = d at *
  rw [show ((a : Int) % 4294967296 * 16777216 % 4294967296) = ((a * 16777216 : Nat) : Int) from by omega, show ((b : Int) % 4294967296 * 65536 % 4294967296) = ((b * 65536 : Nat) : Int) from by omega,
    show ((c : Int) % 4294967296 * 256 % 4294967296) = ((c * 256 : Nat) : Int) from by omega, show ((d : Int) % 4294967296) = ((d : Nat) : Int) from by omega,
    u32_or_nat _ _ (by omega) (by omega), nat_join 24 (a * 16777216) (b * 65536) (by omega) (by omega), u32_or_nat _ _ (by omega) (by omega), nat_join 16 (a * 16777216 + b * 65536) (c * 256) (by omega) (by omega),
    u32_or_nat _ _ (by omega) (by omega), nat_join 8 (a * 16777216 + b * 65536 + c * 256) d (by omega) (by omega)]
theorem s0_bits (x : Nat) (h : x < 4294967296) : bits BinOp.xor IntKind.u32 (bits BinOp.xor IntKind.u32 ((Sha.rotr x 7 : Nat) : Int) ((Sha.rotr x 18 : Nat) : Int)) ((x : Int) / 8) = ((Sha.s0 x : Nat) : Int) := by
  rw [u32_xor_nat _ _ (Sha.rotr_lt h) (Sha.rotr_lt h), show ((x : Int) / 8) = ((x / 8 : Nat) : Int) from by omega, u32_xor_nat _ _ (Sha.xor_lt (Sha.rotr_lt h) (Sha.rotr_lt h)) (by omega)]; rfl
theorem s1_bits (x : Nat) (h : x < 4294967296) : bits BinOp.xor IntKind.u32 (bits BinOp.xor IntKind.u32 ((Sha.rotr x 17 : Nat) : Int) ((Sha.rotr x 19 : Nat) : Int)) ((x : Int) / 1024) = ((Sha.s1 x : Nat) : Int) := by
  rw [u32_xor_nat _ _ (Sha.rotr_lt h) (Sha.rotr_lt h), show ((x : Int) / 1024) = ((x / 1024 : Nat) : Int) from by omega, u32_xor_nat _ _ (Sha.xor_lt (Sha.rotr_lt h) (Sha.rotr_lt h)) (by omega)]; rfl
theorem S1_bits (x : Nat) (h : x < 4294967296) : bits BinOp.xor IntKind.u32 (bits BinOp.xor IntKind.u32 ((Sha.rotr x 6 : Nat) : Int) ((Sha.rotr x 11 : Nat) : Int)) ((Sha.rotr x 25 : Nat) : Int) = ((Sha.S1 x : Nat) : Int) := by
  rw [u32_xor_nat _ _ (Sha.rotr_lt h) (Sha.rotr_lt h), u32_xor_nat _ _ (Sha.xor_lt (Sha.rotr_lt h) (Sha.rotr_lt h)) (Sha.rotr_lt h)]; rfl
theorem S0_bits (x : Nat) (h : x < 4294967296) : bits BinOp.xor IntKind.u32 (bits BinOp.xor IntKind.u32 ((Sha.rotr x 2 : Nat) : Int) ((Sha.rotr x 13 : Nat) : Int)) ((Sha.rotr x 22 : Nat) : Int) = ((Sha.S0 x : Nat) : Int) := by
  rw [u32_xor_nat _ _ (Sha.rotr_lt h) (Sha.rotr_lt h), u32_xor_nat _ _ (Sha.xor_lt (Sha.rotr_lt h) (Sha.rotr_lt h)) (Sha.rotr_lt h)]; rfl
theorem ch_bits (e f g : Nat) (he : e < 4294967296) (hf : f < 4294967296) (hg : g < 4294967296) : bits BinOp.xor IntKind.u32 (bits BinOp.and IntKind.u32 (e : Int) (f : Int)) (bits BinOp.and IntKind.u32 (bits BinOp.xor IntKind.u32 IntKind.u32.max (e : Int)) (g : Int)) = ((Sha.ch e f g : Nat) : Int) := by
  rw [show IntKind.u32.max = ((4294967295 : Nat) : Int) from rfl, u32_xor_nat _ _ (by decide) he, u32_and_nat _ _ he hf, u32_and_nat _ _ (Sha.xor_lt (by decide) he) hg, u32_xor_nat _ _ (Sha.and_lt he) (Sha.and_lt (Sha.xor_lt (by decide) he))]; rfl
theorem maj_bits (a b c : Nat) (ha : a < 4294967296) (hb : b < 4294967296) (hc : c < 4294967296) : bits BinOp.xor IntKind.u32 (bits BinOp.xor IntKind.u32 (bits BinOp.and IntKind.u32 (a : Int) (b : Int)) (bits BinOp.and IntKind.u32 (a : Int) (c : Int))) (bits BinOp.and IntKind.u32 (b : Int) (c : Int)) = ((Sha.maj a b c : Nat) : Int) := by
  rw [u32_and_nat _ _ ha hb, u32_and_nat _ _ ha hc, u32_and_nat _ _ hb hc, u32_xor_nat _ _ (Sha.and_lt ha) (Sha.and_lt ha), u32_xor_nat _ _ (Sha.xor_lt (Sha.and_lt ha) (Sha.and_lt ha)) (Sha.and_lt hb)]; rfl
/-- COPY over a part of a block. -/
theorem wpl_copy_part {P : Program} {ops : Array Oper} {rest : List Oper} {o : Oper} {a : Act} {Q : Exit → Act → World → Prop} {w : World} (hw : Region.wanted o (yielded ops a.tmps) = true) (d s : Operand) (t : TypeId)
    (ho : o.op = .call { callee := .builtin .copy, args := #[d, s], argTypes := #[t, t] }) {e : TypeId} (hu : P.underlying t = some (.slice e)) (hsz : (P.info? e).map (·.size) = some 1) {g off n1 c1 n2 c2 : Nat} {p : Addr}
    (hd : a.eval d = .slice (some ⟨g, off, none⟩) n1 c1) (hs : a.eval s = .slice (some p) n2 c2) {T : TypeId} {cur : Array Value} (hb : Blk w g T cur) (news : List Value) (hn : news.length = Nat.min n2 n1)
    (hsrc : ∀ j u, news[j]? = some u → w.cell? (p.add j) = some u) (hfit : off + news.length ≤ cur.size) (h1 : ∀ u ∈ news, u.oneCell' = true)
    (h : ∀ w', Blk w' g T (cur.toList.take off ++ news ++ cur.toList.drop (off + news.length)).toArray → Chg (fun k => k = g) w w' → wpList P ops Q rest (a.put o.dst (.int .i64 (news.length : Nat))) w') : wpList P ops Q (o :: rest) a w := by
  have hr := run_copy_row (P := P) w t t o.type e g off n1 c1 p n2 c2 cur T news hu hsz hb hn hsrc hfit h1
  refine BigFrame.wpList_want hw fun K hK => ?_
  unfold Oper.wp execOp
  simp only [ho, resolve, invoke, builtin, Sem.run_bind, Sem.run_pure, Result.andThen_ok, List.map_toArray, List.map_cons, List.map_nil, hd, hs, hr]
  exact hK _ _ (h _ (setRow_heap w g cur _ T (0, 0) hb) (setRow_chg w g _))
theorem wcell {w : World} {g : Nat} {T : TypeId} {A : List Nat} {R : List Value} (h : Blk w g T (wcells A ++ R).toArray) (j : Nat) (hj : j < A.length) : w.cell? ⟨g, j, none⟩ = some (.int .u32 ((A.getD j 0 : Nat) : Int)) := by
  rw [h.cell, List.getElem?_toArray, List.getElem?_append_left (by simpa using hj)]
  simp only [wcells, List.getElem?_map, List.getElem?_eq_getElem hj, List.getD, Option.map_some, Option.getD_some]
theorem words_succ (b : List UInt8) (k : Nat) : Sha.words b (k + 1) = Sha.words b k ++ [Sha.word b k] := by simp [Sha.words, List.range_succ]
set_option maxRecDepth 100000 in
set_option maxHeartbeats 1600000 in
theorem mix_any (K : List Nat) (pb gb ob : Nat) (T : TypeId) (v : Sha.V8) (rest : List Value) (b : List UInt8) (w : World) (hp : Blk w pb T (wcells v.list ++ rest).toArray) (hv : ∀ x ∈ v.list, x < 4294967296) (hK : ∀ t, t < 64 → w.cell? ⟨2, t, none⟩ = some (.int .u32 ((K.getD t 0 : Nat) : Int))) (hKb : ∀ x ∈ K, x < 4294967296) (hl : b.length = 64) (hb : ∀ j (h : j < b.length), w.cell? ⟨gb, ob + j, none⟩ = some (.int .u8 (b[j].toNat : Int))) :
    Calls Tryd.prog 37 #[.pointer (some ⟨pb, 0, none⟩), .pointer (some ⟨gb, ob, none⟩)] w fun e w' => e = .returned (.tuple #[]) ∧ Blk w' pb T (wcells (Sha.mix K v b).list ++ rest).toArray ∧ Chg (fun k => k = pb) w w' := by
  have hpl := hp.lt
  have hgb : gb < w.heap.size := World.block_lt_of_cell? w _ (hb 0 (by omega))
  go_enter Tryd.func37, Tryd.ntmps37
  go_wp2_with (first
    | ((with_reducible show wpList _ _ _ (⟨some 4, .alloc _, _, _, _, _⟩ :: _) _ _); refine wpl_alloc_row rfl 96 rfl Tryd.zeroValue96 ?_; intro w1 B1 hc1 hs1)
    | fail)
  have B1' : Blk w1 w.heap.size 96 (wcells (List.replicate 64 0)).toArray := B1
  clear B1
  go_loopw [18] (fun i wr => ∃ k : Nat, k ≤ 16 ∧ i = .int .i64 k ∧ Blk wr w.heap.size 96 (wcells (Sha.words b k ++ List.replicate (64 - k) 0)).toArray ∧ Chg (fun j => j = w.heap.size) w1 wr) (fun i _ => 16 - (intOf i).toNat)
  case atStart => exact ⟨0, Nat.zero_le _, rfl, by simpa [Sha.words] using B1', Chg.refl _ _⟩
  case round =>
    obtain ⟨k, hk, rfl, B, hc⟩ := hrel
    by_cases hlt : k < 16
    · have hw : ∀ j (h : j < b.length), wr.cell? ⟨gb, ob + j, none⟩ = some (.int .u8 (b[j].toNat : Int)) := fun j h => by
        rw [(hc1.trans hc (fun q hq h => by omega) : Chg (fun _ => False) w wr).cell (p := ⟨gb, ob + j, none⟩) hgb id]; exact hb j h
      have k0 := hw (4 * k) (by omega)
      have k1 := hw (4 * k + 1) (by omega)
      have k2 := hw (4 * k + 2) (by omega)
      have k3 := hw (4 * k + 3) (by omega)
      have hA : (Sha.words b k).length = k := by simp [Sha.words]
      have c0 : wr.cell? ⟨w.heap.size, k, none⟩ = some (.int .u32 0) := by
        rw [B.cell]; simp only [List.getElem?_toArray, wcells, List.map_append]
        rw [List.getElem?_append_right (by rw [List.length_map, hA]; exact Nat.le_refl _), List.getElem?_map, List.getElem?_replicate, if_pos (by rw [List.length_map, hA]; omega)]; rfl
      have f0 := B.free k
      have hword : Sha.word b k = b[4 * k].toNat * 16777216 + b[4 * k + 1].toNat * 65536 + b[4 * k + 2].toNat * 256 + b[4 * k + 3].toNat := by
        unfold Sha.word; simp [List.getD, show 4 * k < b.length by omega, show 4 * k + 1 < b.length by omega, show 4 * k + 2 < b.length by omega, show 4 * k + 3 < b.length by omega]
      generalize b[4 * k] = b0 at *
      generalize b[4 * k + 1] = b1 at *
      generalize b[4 * k + 2] = b2 at *
      generalize b[4 * k + 3] = b3 at *
      have HW := Lib.hid hword
      clear hword hw
      go_wp2_with fail
      refine wp_region_text mixed (by kernel_rfl) ?_
      go_wp2_with fail
      rw [word_bits, ← HW.out]
      refine TQ.normal (by kernel_rfl) ?_
      go_wp2_with fail
      go_roundw
      case rel =>
        refine ⟨k + 1, by omega, by go_num, ?_, (hc.setCell (.inr rfl) _).drew⟩
        have e1 := (B.set k (.int .u32 (Sha.word b k : Int))).drew
        rw [show List.replicate (64 - k) (0 : Nat) = 0 :: List.replicate (64 - (k + 1)) 0 from by rw [← List.replicate_succ]; congr 1; omega, wset1 hA] at e1
        rw [words_succ]
        simpa using e1
      case measure => simp [intOf]; omega
    · have hk16 : k = 16 := by omega
      rw [hk16] at B
      clear hk16
      have hW16 : (Sha.words b 16).length = 16 := by simp [Sha.words]
      have hW16b : ∀ x ∈ Sha.words b 16, x < 4294967296 := by
        intro x hx
        simp only [Sha.words, List.mem_map] at hx
        obtain ⟨t, _, rfl⟩ := hx
        unfold Sha.word
        have h0 := (b.getD (4 * t) 0).toNat_lt
        have h1 := (b.getD (4 * t + 1) 0).toNat_lt
        have h2 := (b.getD (4 * t + 2) 0).toNat_lt
        have h3 := (b.getD (4 * t + 3) 0).toNat_lt
        omega
      obtain ⟨W0, hWb⟩ : ∃ W0, W0 = Sha.words b 16 := ⟨_, rfl⟩
      rw [← hWb] at B hW16 hW16b
      have HWb := Lib.hid hWb
      clear hWb
      have hWd := True.intro
      have C := hc1.trans hc (T := fun j => j = w.heap.size) fun q hq h => by omega
      have B0 : Blk wr w.heap.size 96 (wcells (Sha.sched W0 0 ++ List.replicate 48 0)).toArray := B
      clear B hWd
      go_wp2_with fail
      go_loopw [6] (fun i wr2 => ∃ n : Nat, 16 ≤ n ∧ n ≤ 64 ∧ i = .int .i64 n ∧ Blk wr2 w.heap.size 96 (wcells (Sha.sched W0 (n - 16) ++ List.replicate (64 - n) 0)).toArray ∧ Chg (fun _ => False) w wr2) (fun i _ => 64 - (intOf i).toNat)
      case atStart => exact ⟨16, Nat.le_refl _, by omega, rfl, B0, C⟩
      case round =>
        clear B0 C
        obtain ⟨n, hn1, hn2, rfl, B, C⟩ := hrel
        have hSl : (Sha.sched W0 (n - 16)).length = n := by rw [Sha.sched_len, hW16]; omega
        have hSb := Sha.sched_lt W0 hW16b (n - 16)
        by_cases hlt : n < 64
        · have hB2 : (wcells (Sha.sched W0 (n - 16) ++ List.replicate (64 - n) 0)) = wcells (Sha.sched W0 (n - 16)) ++ wcells (List.replicate (64 - n) 0) := by simp [wcells]
          have BB := B
          rw [hB2] at BB
          have q15 := wcell BB (n - 15) (by omega)
          have q2 := wcell BB (n - 2) (by omega)
          have hx := Sha.getD_lt hSb (n - 15)
          have hy := Sha.getD_lt hSb (n - 2)
          have h7 := Sha.getD_lt hSb (n - 7)
          have h16 := Sha.getD_lt hSb (n - 16)
          have e15 : (n : Int) - 15 = ((n - 15 : Nat) : Int) := by omega
          have e2 : (n : Int) - 2 = ((n - 2 : Nat) : Int) := by omega
          have e7 : (n : Int) - 7 = ((n - 7 : Nat) : Int) := by omega
          have e16 : (n : Int) - 16 = ((n - 16 : Nat) : Int) := by omega
          have hmore : Sha.more (Sha.sched W0 (n - 16)) = (Sha.s1 ((Sha.sched W0 (n - 16)).getD (n - 2) 0) + (Sha.sched W0 (n - 16)).getD (n - 7) 0 + Sha.s0 ((Sha.sched W0 (n - 16)).getD (n - 15) 0) + (Sha.sched W0 (n - 16)).getD (n - 16) 0) % 4294967296 := by
            unfold Sha.more; rw [hSl]
          have q7 := wcell BB (n - 7) (by omega)
          have q16 := wcell BB (n - 16) (by omega)
          have cn : wr.cell? ⟨w.heap.size, n, none⟩ = some (.int .u32 0) := by
            rw [B.cell]; simp only [List.getElem?_toArray, wcells, List.map_append]
            rw [List.getElem?_append_right (by rw [List.length_map, hSl]; exact Nat.le_refl _), List.getElem?_map, List.getElem?_replicate, if_pos (by rw [List.length_map, hSl]; omega)]; rfl
          have fn := B.free n
          generalize (Sha.sched W0 (n - 16)).getD (n - 15) 0 = x at *
          generalize (Sha.sched W0 (n - 16)).getD (n - 2) 0 = y at *
          generalize (Sha.sched W0 (n - 16)).getD (n - 7) 0 = z7 at *
          generalize (Sha.sched W0 (n - 16)).getD (n - 16) 0 = z16 at *
          have hbn : w.heap.size < wr.heap.size := BB.lt
          have HM := Lib.hid hmore
          have HB := Lib.hid B
          have HC := Lib.hid C
          have HSb := Lib.hid hSb
          clear hmore B C BB hSb
          go_wp2_with fail
          refine wp_region_text mixed (by kernel_rfl) ?_
          go_wp2_with fail
          refine TQ.normal (by kernel_rfl) ?_
          go_wp2_with fail
          refine (turn_any x 7 _ hx (by omega) (by omega)).mono ?_
          rintro e w3 ⟨rfl, hd3⟩
          go_wp2_with fail
          refine (turn_any x 18 _ hx (by omega) (by omega)).mono ?_
          rintro e w4 ⟨rfl, hd4⟩
          go_wp2_with fail
          rw [s0_bits x hx]
          refine (turn_any y 17 _ hy (by omega) (by omega)).mono ?_
          rintro e w5 ⟨rfl, hd5⟩
          go_wp2_with fail
          refine (turn_any y 19 _ hy (by omega) (by omega)).mono ?_
          rintro e w6 ⟨rfl, hd6⟩
          have c6 : Chg (fun _ => False) wr w6 := ((((Chg.refl _ wr).drew.trans (hd3.chg (fun _ => False)) fun _ _ h => h).trans (hd4.chg (fun _ => False)) fun _ _ h => h).trans (hd5.chg (fun _ => False)) fun _ _ h => h).trans (hd6.chg (fun _ => False)) fun _ _ h => h
          have r7 := (c6.cell (p := ⟨w.heap.size, n - 7, none⟩) hbn id).trans q7
          have r16 := (c6.cell (p := ⟨w.heap.size, n - 16, none⟩) hbn id).trans q16
          have rn := (c6.cell (p := ⟨w.heap.size, n, none⟩) hbn id).trans cn
          have rf := (c6.frozen (p := ⟨w.heap.size, n, none⟩) hbn id).trans fn
          have hst : ((((Sha.s1 y : Nat) : Int) + (z7 : Int) + ((Sha.s0 x : Nat) : Int) + (z16 : Int)) % 4294967296) = ((Sha.more (Sha.sched W0 (n - 16)) : Nat) : Int) := by
            rw [HM.out]; omega
          have B6 := HB.out.kept c6 id
          have HST := Lib.hid hst
          clear q15 q2 q7 q16 cn fn hst hd3 hd4 hd5 hd6
          go_wp2_with fail
          rw [s1_bits y hy]
          refine wp_region_text mixed (by kernel_rfl) ?_
          go_wp2_with fail
          rw [HST.out]
          refine TQ.normal (by kernel_rfl) ?_
          go_wp2_with fail
          go_roundw
          case rel =>
            refine ⟨n + 1, by omega, by omega, by go_num, ?_, ((HC.out.trans c6 fun _ _ h => h).setCell (.inl (Nat.le_refl _)) _).drew⟩
            have e1 := (B6.set n (.int .u32 ((Sha.more (Sha.sched W0 (n - 16)) : Nat) : Int))).drew
            rw [show List.replicate (64 - n) (0 : Nat) = 0 :: List.replicate (64 - (n + 1)) 0 from by rw [← List.replicate_succ]; congr 1; omega, wset1 hSl] at e1
            rw [show n + 1 - 16 = (n - 16) + 1 from by omega, Sha.sched]
            simpa using e1
          case measure => simp [intOf]; omega
        · have hn64 : n = 64 := by omega
          rw [hn64] at B
          have hS64 : Blk wr w.heap.size 96 (wcells (Sha.sched W0 48)).toArray := by simpa using B
          have hp3 := hp.kept C id
          clear hn64
          have hrg : wr.rangeAt pb 0 (wcells v.list) := Blk.range (us := []) (by simpa using hp3) rfl
          have hi8 : (Tryd.prog.info? 76).map (·.size) = some (wcells v.list).length := by
            have : (Tryd.prog.info? 76).map (·.size) = some 8 := by kernel_rfl
            simpa [Sha.V8.list] using this
          have h8 : (wcells v.list).toArray.size = 8 := by simp [Sha.V8.list]
          have hone : (wcells v.list).toArray.all (·.oneCell') = true := by simp [wcells, Sha.V8.list, Value.oneCell']
          have hi8' : (Tryd.prog.info? 76).map (·.size) = some (wcells v.list).toArray.size := by simpa using hi8
          generalize hcs : wcells v.list = cs at hrg hi8 h8 hone hi8'
          have HCS := Lib.hid hcs
          have HB := Lib.hid B
          have HP3 := Lib.hid hp3
          clear B hcs hp3 hp hb
          go_wp2_with (first
            | ((with_reducible show wpList _ _ _ (⟨some 107, _, _, _, _, _⟩ :: _) _ _); refine wpl_load_mid rfl 76 (.tmp 106) rfl rfl hrg Tryd.underlying76 hi8 ?_)
            | ((with_reducible show wpList _ _ _ (⟨some 11, _, _, _, _, _⟩ :: _) _ _); refine wpl_alloc_row rfl 76 rfl Tryd.zeroValue76 ?_; intro w7 B7 hc7 hs7)
            | ((with_reducible show wpList _ _ _ (⟨none, .store _ (.tmp 11) _, _, _, _, _⟩ :: _) _ _); refine wpl_store_row rfl 76 (.tmp 11) (.tmp 107) rfl rfl rfl B7 hi8' (by rw [h8]; rfl) hone ?_; intro w8 B8 hc8)
            | fail)
          have hgv : w.heap.size < wr.heap.size := HB.out.lt
          have h2w : 2 < w.heap.size := World.block_lt_of_cell? w _ (hK 0 (by omega))
          have hpw : pb < w.heap.size := hpl
          have c78 : Chg (fun j => j = wr.heap.size) wr w8 := (hc7.mono fun _ _ h => h.elim).trans hc8 fun _ _ h => h
          have SB := hS64.kept c78 (by show ¬ w.heap.size = wr.heap.size; omega)
          have PB := HP3.out.kept c78 (by show ¬ pb = wr.heap.size; omega)
          have C8 : Chg (fun _ => False) w w8 := C.trans c78 fun q hq h => by omega
          have hK8 : ∀ t, t < 64 → w8.cell? ⟨2, t, none⟩ = some (.int .u32 ((K.getD t 0 : Nat) : Int)) := fun t ht => by
            have h := hK t ht
            exact (C8.cell (World.block_lt_of_cell? w _ h) id).trans h
          rw [← HCS.out] at B8
          have hgv8 : wr.heap.size < w8.heap.size := B8.lt
          have hSL : (Sha.sched W0 48).length = 64 := by rw [Sha.sched_len, hW16]
          have hSB := Sha.sched_lt W0 hW16b 48
          have HMX0 : ∀ u, u = Sha.rnds K (Sha.sched W0 48) v 64 → Sha.mix K v b = v.add u := fun u hu => by rw [hu, HWb.out]; rfl
          generalize Sha.sched W0 48 = S at *
          clear hS64 HB HP3 C hc7 hc8 c78 B7 hs7 HCS hrg hi8 h8 hone hi8'
          generalize wr.heap.size = gv at *
          go_loopw [108] (fun i wr3 => ∃ t : Nat, t ≤ 64 ∧ i = .int .i64 t ∧ Blk wr3 gv 76 (wcells (Sha.rnds K S v t).list).toArray ∧ Chg (fun j => j = gv) w8 wr3) (fun i _ => 64 - (intOf i).toNat)
          case atStart => exact ⟨0, Nat.zero_le _, rfl, B8, Chg.refl _ _⟩
          case round =>
            obtain ⟨t, ht, rfl, B, C⟩ := hrel
            have hub := Sha.rnds_lt K S hv t
            by_cases hlt : t < 64
            · have hrs : (Sha.rnds K S v (t + 1)) = Sha.rnd (Sha.rnds K S v t) (K.getD t 0) (S.getD t 0) := rfl
              have kK : wr.cell? ⟨2, t, none⟩ = some (.int .u32 ((K.getD t 0 : Nat) : Int)) := by
                have h := hK8 t hlt
                exact (C.cell (World.block_lt_of_cell? w8 _ h) (by show ¬ 2 = gv; omega)).trans h
              have kS : wr.cell? ⟨w.heap.size, t, none⟩ = some (.int .u32 ((S.getD t 0 : Nat) : Int)) := by
                have h : w8.cell? ⟨w.heap.size, t, none⟩ = some (.int .u32 ((S.getD t 0 : Nat) : Int)) := wcell (R := []) (by simpa using SB) t (by omega)
                exact (C.cell (p := ⟨w.heap.size, t, none⟩) SB.lt (by show ¬ w.heap.size = gv; omega)).trans h
              have hKt := Sha.getD_lt hKb t
              have hSt := Sha.getD_lt hSB t
              generalize K.getD t 0 = kt at *
              generalize S.getD t 0 = st at *
              generalize Sha.rnds K S v t = u at *
              obtain ⟨ua, ub, uc, ud, ue, uf, ug, uh⟩ := u
              simp only [Sha.V8.list, List.mem_cons, List.not_mem_nil, or_false, forall_eq_or_imp, forall_eq] at hub
              obtain ⟨ba, bb, bc, bd, be, bf, bg, bh⟩ := hub
              have v0 : wr.cell? ⟨gv, 0, none⟩ = some (.int .u32 (ua : Int)) := B.cell 0
              have v1 : wr.cell? ⟨gv, 1, none⟩ = some (.int .u32 (ub : Int)) := B.cell 1
              have v2 : wr.cell? ⟨gv, 2, none⟩ = some (.int .u32 (uc : Int)) := B.cell 2
              have v3 : wr.cell? ⟨gv, 3, none⟩ = some (.int .u32 (ud : Int)) := B.cell 3
              have v4 : wr.cell? ⟨gv, 4, none⟩ = some (.int .u32 (ue : Int)) := B.cell 4
              have v5 : wr.cell? ⟨gv, 5, none⟩ = some (.int .u32 (uf : Int)) := B.cell 5
              have v6 : wr.cell? ⟨gv, 6, none⟩ = some (.int .u32 (ug : Int)) := B.cell 6
              have v7 : wr.cell? ⟨gv, 7, none⟩ = some (.int .u32 (uh : Int)) := B.cell 7
              have HB := Lib.hid B
              have HC := Lib.hid C
              clear B C
              go_wp2_with fail
              refine wp_region_text mixed (by kernel_rfl) ?_
              go_wp2_with fail
              refine TQ.normal (by kernel_rfl) ?_
              go_wp2_with fail
              refine wp_region_pin (fun _ => false) [1, 13, 18, 24, 28] [4, 2, 3] (Same (fun _ => False) wr) mixed (by kernel_rfl) (fun _ _ h e => h.ext e) (Same.refl _ _).drew.drew ?_
              simp only [wpSegs, List.take_succ_cons, List.take_zero, List.drop_succ_cons, List.drop_zero]
              go_wp2_with fail
              refine (turn_any ue 6 _ be (by omega) (by omega)).mono ?_
              rintro e w3 ⟨rfl, hd3⟩
              have c3 : Chg (fun _ => False) wr w3 := (Chg.refl _ wr).drew.drew.trans (hd3.chg (fun _ => False)) fun _ _ h => h
              go_wp2_with fail
              refine SegQ.normal ⟨fun z o h hz => c3.keep h id, ?_⟩
              go_wp2_with fail
              refine (turn_any ue 11 _ be (by omega) (by omega)).mono ?_
              rintro e w4 ⟨rfl, hd4⟩
              have c4 := c3.trans (hd4.chg (fun _ => False)) fun _ _ h => h
              go_wp2_with fail
              refine SegQ.normal ⟨fun z o h hz => c4.keep h id, ?_⟩
              go_wp2_with fail
              refine (turn_any ue 25 _ be (by omega) (by omega)).mono ?_
              rintro e w5 ⟨rfl, hd5⟩
              have c5 := c4.trans (hd5.chg (fun _ => False)) fun _ _ h => h
              go_wp2_with fail
              refine SegQ.normal ⟨fun z o h hz => c5.keep h id, ?_⟩
              have hgw : gv < wr.heap.size := HB.out.lt
              have y5 := (c5.cell (p := ⟨gv, 5, none⟩) hgw id).trans v5
              have y6 := (c5.cell (p := ⟨gv, 6, none⟩) hgw id).trans v6
              have yK := (c5.cell (p := ⟨2, t, none⟩) (by show 2 < wr.heap.size; omega) id).trans kK
              have yS := (c5.cell (p := ⟨w.heap.size, t, none⟩) (by show w.heap.size < wr.heap.size; omega) id).trans kS
              go_wp2_with fail
              rw [S1_bits ue be, ch_bits ue uf ug be bf bg]
              refine TQ.normal (by kernel_rfl) ⟨⟨PinAt.cell rfl rfl rfl v7 id (fun X h => by go_simp), PinAt.cell rfl rfl rfl v5 id (fun X h => by go_simp), PinAt.cell rfl rfl rfl v6 id (fun X h => by go_simp), PinAt.cell rfl rfl rfl kK id (fun X h => by go_simp), PinAt.cell rfl rfl rfl kS id (fun X h => by go_simp), trivial⟩, ?_⟩
              have y1 := (c5.cell (p := ⟨gv, 1, none⟩) hgw id).trans v1
              have y2 := (c5.cell (p := ⟨gv, 2, none⟩) hgw id).trans v2
              have HB5 := Lib.hid (HB.out.kept c5 id)
              have HC5 := Lib.hid (HC.out.trans c5 fun _ _ h => h.elim)
              have hg5 : gv < w5.heap.size := HB5.out.lt
              have hpv : ∃ p : Nat, p = (uh + Sha.S1 ue + Sha.ch ue uf ug + kt + st) % 4294967296 := ⟨_, rfl⟩
              clear v0 v1 v2 v3 v4 v5 v6 v7 kK kS HB HC y5 y6 yK yS c3 c4 c5 hd3 hd4 hd5 hgw
              obtain ⟨p, hpv⟩ := hpv
              have hpe : ((uh : Int) + ((Sha.S1 ue : Nat) : Int) + ((Sha.ch ue uf ug : Nat) : Int) + (kt : Int) + (st : Int)) % 4294967296 = ((p : Nat) : Int) := by rw [hpv]; omega
              go_wp2_with fail
              rw [hpe]
              have HPV := Lib.hid hpv
              clear hpv hpe
              refine wp_region_pin (fun _ => false) [10, 14, 18, 20] [2, 2, 3] (Same (fun _ => False) w5) mixed (by kernel_rfl) (fun _ _ h e => h.ext e) (Same.refl _ _).drew.drew ?_
              simp only [wpSegs, List.take_succ_cons, List.take_zero, List.drop_succ_cons, List.drop_zero]
              go_wp2_with fail
              refine (turn_any ua 2 _ ba (by omega) (by omega)).mono ?_
              rintro e w6 ⟨rfl, hd6⟩
              have c6 : Chg (fun _ => False) w5 w6 := (Chg.refl _ w5).drew.trans (hd6.chg (fun _ => False)) fun _ _ h => h
              go_wp2_with fail
              refine SegQ.normal ⟨fun z o h hz => c6.keep h id, ?_⟩
              go_wp2_with fail
              refine (turn_any ua 13 _ ba (by omega) (by omega)).mono ?_
              rintro e w7 ⟨rfl, hd7⟩
              have c7 := c6.trans (hd7.chg (fun _ => False)) fun _ _ h => h
              go_wp2_with fail
              refine SegQ.normal ⟨fun z o h hz => c7.keep h id, ?_⟩
              go_wp2_with fail
              refine (turn_any ua 22 _ ba (by omega) (by omega)).mono ?_
              rintro e w8' ⟨rfl, hd8⟩
              have c8 := c7.trans (hd8.chg (fun _ => False)) fun _ _ h => h
              go_wp2_with fail
              refine SegQ.normal ⟨fun z o h hz => c8.keep h id, ?_⟩
              have z1 := (c8.cell (p := ⟨gv, 1, none⟩) hg5 id).trans y1
              have z2 := (c8.cell (p := ⟨gv, 2, none⟩) hg5 id).trans y2
              go_wp2_with fail
              rw [S0_bits ua ba, maj_bits ua ub uc ba bb bc]
              refine TQ.normal (by kernel_rfl) ⟨⟨PinAt.cell rfl rfl rfl y1 id (fun X h => by go_simp), PinAt.cell rfl rfl rfl y2 id (fun X h => by go_simp), PinAt.cell rfl rfl rfl y1 id (fun X h => by go_simp), PinAt.cell rfl rfl rfl y2 id (fun X h => by go_simp), trivial⟩, ?_⟩
              have HB8 := Lib.hid (HB5.out.kept c8 id)
              have HC8 := Lib.hid (HC5.out.trans c8 fun _ _ h => h.elim)
              obtain ⟨q, hqv⟩ : ∃ q : Nat, q = (Sha.S0 ua + Sha.maj ua ub uc) % 4294967296 := ⟨_, rfl⟩
              have hqe : (((Sha.S0 ua : Nat) : Int) + ((Sha.maj ua ub uc : Nat) : Int)) % 4294967296 = ((q : Nat) : Int) := by rw [hqv]; omega
              clear y1 y2 z1 z2 c6 c7 c8 hd6 hd7 hd8 HB5 HC5 hg5
              rw [hqe]
              have HQV := Lib.hid hqv
              clear hqv hqe
              go_wp2_with fail
              have hB8 := HB8.out.drew.drew
              have hsrc : ∀ j u, (wcells [ua, ub, uc, ud, ue, uf, ug])[j]? = some u → (w8'.drew).cell? ((⟨gv, 0, none⟩ : Addr).add j) = some u := fun j u hu => by
                have hj : j < 7 := by have := (List.getElem?_eq_some_iff.1 hu).1; simpa using this
                rw [addr_add, Nat.zero_add, Blk.cell (w := w8'.drew) hB8]
                have e8 : wcells (Sha.V8.list ⟨ua, ub, uc, ud, ue, uf, ug, uh⟩) = wcells [ua, ub, uc, ud, ue, uf, ug] ++ wcells [uh] := rfl
                rw [e8, List.getElem?_toArray, List.getElem?_append_left (by simpa using hj)]
                exact hu
              have hone7 : ∀ u ∈ wcells [ua, ub, uc, ud, ue, uf, ug], u.oneCell' = true := by
                intro u hu; simp only [wcells, List.mem_map] at hu; obtain ⟨x, _, rfl⟩ := hu; rfl
              refine wp_region_text mixed (by kernel_rfl) ?_
              go_wp2_with ((with_reducible show wpList _ _ _ (⟨some 171, _, _, _, _, _⟩ :: _) _ _); refine wpl_copy_part rfl (.tmp 169) (.tmp 170) 98 rfl Tryd.underlying98 (by kernel_rfl) rfl rfl (w := w8'.drew) hB8 (wcells [ua, ub, uc, ud, ue, uf, ug]) rfl hsrc (by simp [Sha.V8.list]) hone7 ?_; intro w9 B9 hc9)
              refine TQ.normal (by kernel_rfl) ?_
              have B9' : Blk w9 gv 76 (wcells [ua, ua, ub, uc, ud, ue, uf, ug]).toArray := B9
              have d0 : w9.cell? ⟨gv, 0, none⟩ = some (.int .u32 (ua : Int)) := B9'.cell 0
              have d4 : w9.cell? ⟨gv, 4, none⟩ = some (.int .u32 (ud : Int)) := B9'.cell 4
              have f0 := B9'.free 0
              have f4 := B9'.free 4
              have HB9 := Lib.hid B9'
              have HC9 := Lib.hid ((HC8.out.drew).trans hc9 fun _ _ h => h)
              clear hsrc hone7 hB8 B9 B9' hc9 HB8 HC8
              go_wp2_with fail
              have hdp : ((ud : Int) + (p : Int)) % 4294967296 = (((ud + p) % 4294967296 : Nat) : Int) := by omega
              have hpq : ((p : Int) + (q : Int)) % 4294967296 = (((p + q) % 4294967296 : Nat) : Int) := by omega
              have er : (Sha.rnd ⟨ua, ub, uc, ud, ue, uf, ug, uh⟩ kt st).list = [(p + q) % 4294967296, ua, ub, uc, (ud + p) % 4294967296, ue, uf, ug] := by rw [HPV.out, HQV.out]; rfl
              have e1 := (HB9.out.set 4 (.int .u32 (((ud + p) % 4294967296 : Nat) : Int))).set 0 (.int .u32 (((p + q) % 4294967296 : Nat) : Int))
              rw [hdp, hpq]
              refine ⟨⟨t + 1, by omega, by go_num, ?_, (HC9.out.setCell (.inr rfl) _).setCell (.inr rfl) _⟩, by simp [intOf]; omega⟩
              rw [hrs, er]
              exact e1
            · have h64 : t = 64 := by omega
              rw [h64] at B
              clear h64
              have PB2 := PB.kept C (by show ¬ pb = gv; omega)
              have C9 : Chg (fun _ => False) w wr := C8.trans C fun q hq h => by omega
              have hgw : gv < wr.heap.size := B.lt
              have HMX1 := HMX0 _ rfl
              have HMX := Lib.hid HMX1
              clear HMX1 HMX0
              generalize Sha.rnds K S v 64 = u at *
              have hmix : Sha.mix K v b = v.add u := HMX.out
              have UB : Blk wr gv 76 (wcells u.list).toArray := B
              clear B C PB C8 SB hK8
              go_wp2_with fail
              go_loopw [182] (fun i wr4 => ∃ j : Nat, j ≤ 8 ∧ i = .int .i64 j ∧ Blk wr4 pb T (wcells ((v.add u).list.take j ++ v.list.drop j) ++ rest).toArray ∧ Chg (fun z => z = pb) wr wr4) (fun i _ => 8 - (intOf i).toNat)
              case atStart => exact ⟨0, Nat.zero_le _, rfl, by simpa using PB2, Chg.refl _ _⟩
              case round =>
                obtain ⟨j, hj, rfl, B, C⟩ := hrel
                by_cases hlt : j < 8
                · have hvl : v.list.length = 8 := rfl
                  have hul : u.list.length = 8 := rfl
                  have hzl : (v.add u).list.length = 8 := rfl
                  have hA : ((v.add u).list.take j).length = j := by simp [hzl]; omega
                  have hzj : (v.add u).list.getD j 0 = (v.list.getD j 0 + u.list.getD j 0) % 4294967296 := by
                    rcases (by omega : j = 0 ∨ j = 1 ∨ j = 2 ∨ j = 3 ∨ j = 4 ∨ j = 5 ∨ j = 6 ∨ j = 7) with rfl | rfl | rfl | rfl | rfl | rfl | rfl | rfl <;> rfl
                  have hu := wcell (R := []) (w := wr) (g := gv) (A := u.list) (T := 76) (by simpa using UB.kept C (by show ¬ gv = pb; omega)) j (by omega)
                  have hd : v.list.drop j = v.list.getD j 0 :: v.list.drop (j + 1) := by
                    rw [List.drop_eq_getElem_cons (by omega : j < v.list.length)]; simp [List.getD, List.getElem?_eq_getElem (by omega : j < v.list.length)]
                  have hvj := wcell (A := (v.add u).list.take j ++ v.list.drop j) B j (by simp [hzl, hvl]; omega)
                  have hgd : ((v.add u).list.take j ++ v.list.drop j).getD j 0 = v.list.getD j 0 := by
                    rw [hd]; simp only [List.getD]; rw [List.getElem?_append_right (by omega), hA]; simp
                  rw [hgd] at hvj
                  have fj := B.free j
                  have hlb := Sha.getD_lt hv j
                  obtain ⟨z, hz⟩ : ∃ z, z = (v.add u).list.getD j 0 := ⟨_, rfl⟩
                  have et : (v.add u).list.take (j + 1) = (v.add u).list.take j ++ [z] := by
                    rw [hz, List.take_succ_eq_append_getElem (by omega : j < (v.add u).list.length)]; simp [List.getD, List.getElem?_eq_getElem (by omega : j < (v.add u).list.length)]
                  rw [← hz] at hzj
                  have HET := Lib.hid et
                  have HZJ := Lib.hid hzj
                  clear et hz
                  have HD := Lib.hid hd
                  have HA := Lib.hid hA
                  generalize v.list.getD j 0 = x at *
                  generalize u.list.getD j 0 = y at *
                  have HB := Lib.hid B
                  have HC := Lib.hid C
                  clear hzj hd hA hgd B C
                  go_wp2_with fail
                  refine wp_region_text mixed (by kernel_rfl) ?_
                  go_wp2_with fail
                  have hzz : ((x : Int) + (y : Int)) % 4294967296 = (((x + y) % 4294967296 : Nat) : Int) := by omega
                  rw [hzz, ← HZJ.out]
                  refine TQ.normal (by kernel_rfl) ?_
                  go_wp2_with fail
                  go_roundw
                  case rel =>
                    refine ⟨j + 1, by omega, by go_num, ?_, (HC.out.setCell (.inr rfl) _).drew⟩
                    have e1 := (HB.out.set j (.int .u32 ((z : Nat) : Int))).drew
                    rw [HET.out]
                    rw [HD.out] at e1
                    have e2 : (wcells ((v.add u).list.take j ++ x :: v.list.drop (j + 1)) ++ rest).toArray.setIfInBounds j (.int .u32 ((z : Nat) : Int)) = (wcells ((v.add u).list.take j ++ z :: v.list.drop (j + 1)) ++ rest).toArray := by
                      have hA := HA.out
                      generalize (v.add u).list.take j = A at *
                      subst hA
                      simp only [List.setIfInBounds_toArray, wcells, List.map_append, List.map_cons, List.append_assoc]
                      rw [List.set_append_right _ _ (by simp)]
                      simp
                    rw [e2] at e1
                    rw [List.append_assoc]
                    exact e1
                  case measure => simp [intOf]; omega
                · have h8 : j = 8 := by omega
                  rw [h8] at B
                  clear h8
                  go_wp2_with fail
                  go_end0
                  refine ⟨rfl, ?_, (C9.mono fun _ _ h => h.elim).trans C fun _ _ h => h⟩
                  rw [hmix]
                  have e1 : (v.add u).list.take 8 ++ v.list.drop 8 = (v.add u).list := rfl
                  rw [e1] at B
                  exact B
end Go.Proofs.YtafgeppdchnceaaDoor
