import Derived.Test.YtafgeppdchnceaaDoorRRound
set_option linter.unusedVariables false
namespace Go.Sat
open Go Go.RowKit
theorem Own.blk {w : World} {e : TypeId} {g n : Nat} {xs : List Value} (h : Own w e 1 (.slice (some ⟨g, 0, none⟩) n n) n xs) : Blk w g e xs.toArray := by
  rcases h.2 with ⟨h0, _⟩ | ⟨g', c', cur, h0, _, hg, _, _, hcs, htake⟩
  · cases h0
  · cases h0
    have : cur.toList = xs := by rw [← htake, List.take_of_length_le (by simp; omega)]
    unfold Blk
    rw [hg, ← this]
/-- The part from lo to hi of a slice of the call's own. -/
theorem wpl_part_own {P : Program} {ops : Array Oper} {rest : List Oper} {o : Oper} {a : Act} {Q : Exit → Act → World → Prop} {w : World} (hw : Region.wanted o (yielded ops a.tmps) = true) (t : TypeId) (x lo hi : Operand)
    (ho : o.op = .slice t x (some lo) (some hi) none) {e : TypeId} (ht : P.underlying t = some (.slice e)) (hsz : ∀ w, (sizeOf e).run P w = .ok 1 w) {g n c : Nat} (hx : a.eval x = .slice (some ⟨g, 0, none⟩) n c)
    {i j : Int} (l0 h0 : Nat) (hlo : a.eval lo = .int .i64 i) (hhi : a.eval hi = .int .i64 j) (hi0 : i = l0) (hj0 : j = h0) (h1 : l0 < h0) (h2 : h0 ≤ n) (hnc : n ≤ c)
    (h : wpList P ops Q rest (a.put o.dst (.slice (some ⟨g, l0, none⟩) (h0 - l0) (c - l0))) w) : wpList P ops Q (o :: rest) a w := by
  subst hi0 hj0
  have he : P.elem t = e := by simp [Program.elem, ht]
  have hrun : (Instr.slice t (.slice (some ⟨g, 0, none⟩) n c) (some (.int .i64 (l0 : Int))) (some (.int .i64 (h0 : Int))) none).run P w = .ok (.slice (some ⟨g, l0, none⟩) (h0 - l0) (c - l0)) w := by
    rw [run_slice_lh w t (some ⟨g, 0, none⟩) n c (by rw [he]; exact ht) .i64 .i64 l0 h0 (by omega) (by omega) (by omega), he, hsz]
    simp [sliced, show c ≠ l0 by omega, addr_add]
  have hrun2 : (Instr.sliceAt t (.slice (some ⟨g, 0, none⟩) n c) (some (.int .i64 (l0 : Int))) (some (.int .i64 (h0 : Int))) none).run P w = .ok (.slice (some ⟨g, l0, none⟩) (h0 - l0) (c - l0)) w := by
    rw [run_sliceAt_slice _ _ _ _ _ _ (by rw [he]; exact ht)]; exact hrun
  refine BigFrame.wpList_want hw fun K hK => ?_
  unfold Oper.wp execOp
  have := hK _ _ h
  simpa [ho, hlo, hhi, hx, hrun2, Oper.upon] using this
end Go.Sat
namespace Go.Proofs.YtafgeppdchnceaaDoor
open Go Go.RowKit Go.Sat
/-- The reference's tables. -/
structure RLaid (w : World) : Prop where
  b : w.rangeAt 1 0 (wcells64 Sha.h0.list)
  k : ∀ t, t < 64 → w.cell? ⟨3, t, none⟩ = some (.int .u64 ((Sha.k0.getD t 0 : Nat) : Int))
theorem RLaid.size {w : World} (h : RLaid w) : 3 < w.heap.size := World.block_lt_of_cell? w _ (h.k 0 (by decide))
theorem RLaid.kept {S : Nat → Prop} {w w' : World} (h : RLaid w) (hc : Chg S w w') (h1 : ¬ S 1) (h3 : ¬ S 3) : RLaid w' :=
  ⟨fun j v hv => by have := h.b j v hv; rw [hc.cell (p := ⟨1, 0 + j, none⟩) (World.block_lt_of_cell? w _ this) h1]; exact this,
   fun t ht => by have := h.k t ht; rw [hc.cell (p := ⟨3, t, none⟩) (World.block_lt_of_cell? w _ this) h3]; exact this⟩
/-- The words behind i blocks. -/
def stN (P : List UInt8) (i : Nat) : Sha.V8 := (List.range i).foldl (fun v j => Sha.mix Sha.k0 v (Sha.blk P j)) Sha.h0
theorem stN_succ (P : List UInt8) (i : Nat) : stN P (i + 1) = Sha.mix Sha.k0 (stN P i) (Sha.blk P i) := by simp [stN, List.range_succ]
theorem stN_lt (P : List UInt8) : ∀ i, ∀ x ∈ (stN P i).list, x < 4294967296
  | 0 => Sha.h0_lt
  | i + 1 => by rw [stN_succ]; exact mix_lt _ _ _
theorem wordsOf_words : ∀ l : List UInt8, ∀ n, l.length = 4 * n → wordsOf l = Sha.words l n := by
  intro l n hn
  refine List.ext_getElem (by rw [wordsOf_length]; simp [Sha.words]; omega) fun t h1 h2 => ?_
  have key : ∀ (l : List UInt8) (t : Nat), 4 * t + 3 < l.length → (wordsOf l)[t]? = some (Sha.word l t) := by
    intro l
    induction l using wordsOf.induct with
    | case1 a b c d l ih =>
      intro t ht
      cases t with
      | zero => simp [wordsOf, Sha.word]
      | succ t =>
        have := ih t (by simp at ht; omega)
        simp only [wordsOf, List.getElem?_cons_succ, this]
        simp [Sha.word, show 4 * (t + 1) = 4 * t + 4 from by omega]
    | case2 l hl =>
      intro t ht
      exfalso
      match l, hl with
      | [], _ => simp at ht
      | [_], _ => simp at ht
      | [_, _], _ => simp at ht; omega
      | [_, _, _], _ => simp at ht; omega
      | a :: b :: c :: d :: r, hl => exact hl a b c d r rfl
  rw [wordsOf_length] at h1
  have := key l t (by omega)
  rw [List.getElem?_eq_getElem (by rw [wordsOf_length]; omega)] at this
  rw [Option.some.inj this]
  simp [Sha.words]
theorem w64_mem (l : List Nat) : ∀ u ∈ wcells64 l, u.oneCell' = true := fun u hu => by
  simp only [wcells64, List.mem_map] at hu
  obtain ⟨_, _, rfl⟩ := hu
  rfl
theorem wordsOf_drop : ∀ (k : Nat) (l : List UInt8), wordsOf (l.drop (4 * k)) = (wordsOf l).drop k
  | 0, l => rfl
  | k + 1, a :: b :: c :: d :: l => by
    rw [show 4 * (k + 1) = 4 * k + 4 from by omega]
    simp only [List.drop_succ_cons, wordsOf]
    exact wordsOf_drop k l
  | k + 1, [] => by simp [wordsOf]
  | k + 1, [_] => by rw [List.drop_of_length_le (by simp; omega)]; simp [wordsOf]
  | k + 1, [_, _] => by rw [List.drop_of_length_le (by simp; omega)]; simp [wordsOf]
  | k + 1, [_, _, _] => by rw [List.drop_of_length_le (by simp; omega)]; simp [wordsOf]
theorem wordsOf_take : ∀ (k : Nat) (l : List UInt8), 4 * k ≤ l.length → wordsOf (l.take (4 * k)) = (wordsOf l).take k
  | 0, l, _ => rfl
  | k + 1, a :: b :: c :: d :: l, h => by
    rw [show 4 * (k + 1) = 4 * k + 4 from by omega]
    simp only [List.take_succ_cons, wordsOf]
    rw [wordsOf_take k l (by simp at h; omega)]
  | k + 1, [], h => by simp at h
  | k + 1, [_], h => by simp at h; omega
  | k + 1, [_, _], h => by simp at h; omega
  | k + 1, [_, _, _], h => by simp at h; omega
theorem words_blk (P : List UInt8) (i : Nat) (h : 64 * i + 64 ≤ P.length) : ((wordsOf P).drop (16 * i)).take 16 = Sha.words (Sha.blk P i) 16 := by
  rw [← wordsOf_words (Sha.blk P i) 16 (by unfold Sha.blk; rw [List.length_take, List.length_drop]; omega)]
  unfold Sha.blk
  rw [show 64 * i = 4 * (16 * i) from by omega, wordsOf_take 16 _ (by rw [List.length_drop]; omega), wordsOf_drop]
theorem word_lt (b : List UInt8) (t : Nat) : Sha.word b t < 4294967296 := by
  unfold Sha.word
  have h0 := (b.getD (4 * t) 0).toNat_lt
  have h1 := (b.getD (4 * t + 1) 0).toNat_lt
  have h2 := (b.getD (4 * t + 2) 0).toNat_lt
  have h3 := (b.getD (4 * t + 3) 0).toNat_lt
  omega
theorem words_lt (b : List UInt8) (n : Nat) : ∀ x ∈ Sha.words b n, x < 4294967296 := by
  intro x hx
  simp only [Sha.words, List.mem_map] at hx
  obtain ⟨t, _, rfl⟩ := hx
  exact word_lt b t
theorem pad_blocks (d : List UInt8) : (d ++ Sha.pad d).length % 64 = 0 := by
  rw [pad_eq]; simp; omega
theorem wcell64 {w : World} {g : Nat} {T : TypeId} {A : List Nat} {R : List Value} (h : Blk w g T (wcells64 A ++ R).toArray) (j : Nat) (hj : j < A.length) : w.cell? ⟨g, j, none⟩ = some (.int .u64 ((A.getD j 0 : Nat) : Int)) := by
  rw [h.cell, List.getElem?_toArray, List.getElem?_append_left (by simpa using hj)]
  simp only [wcells64, List.getElem?_map, List.getElem?_eq_getElem hj, List.getD, Option.map_some, Option.getD_some]
theorem wset64 {A R : List Nat} {k : Nat} (hA : A.length = k) (z x : Nat) : (wcells64 (A ++ z :: R)).toArray.setIfInBounds k (.int .u64 (x : Int)) = (wcells64 (A ++ x :: R)).toArray := by
  subst hA
  simp only [List.setIfInBounds_toArray, wcells64, List.map_append, List.map_cons]
  rw [List.set_append_right _ _ (by simp)]
  simp
theorem w64_append (A R : List Nat) : wcells64 (A ++ R) = wcells64 A ++ wcells64 R := by simp [wcells64]
theorem w64_drop (A : List Nat) (n : Nat) : (wcells64 A).drop n = wcells64 (A.drop n) := by simp [wcells64]
theorem rround_n (v : Sha.V8) (wl : List Nat) (wb N : Nat) (hN : N = 64) (W : World) (hv : ∀ x ∈ v.list, x < 4294967296) (hK : ∀ t, t < 64 → W.cell? ⟨3, t, none⟩ = some (.int .u64 ((Sha.k0.getD t 0 : Nat) : Int)))
    (hw : ∀ t, t < 64 → W.cell? ⟨wb, t, none⟩ = some (.int .u64 ((wl.getD t 0 : Nat) : Int))) (hwl : ∀ x ∈ wl, x < 4294967296) :
    Calls Tryd.prog 40 #[.agg (wcells64 v.list).toArray, .slice (some ⟨wb, 0, none⟩) N N] W fun e w' => e = .returned (.agg (wcells64 (Sha.rnds Sha.k0 wl v 64).list).toArray) ∧ Chg (fun _ => False) W w' := by
  subst hN; exact rround_any v wl wb W hv hK hw hwl
theorem add_get (u v : Sha.V8) (j : Nat) (hj : j < 8) : (u.add v).list.getD j 0 = (u.list.getD j 0 + v.list.getD j 0) % 4294967296 := by
  rcases (show j = 0 ∨ j = 1 ∨ j = 2 ∨ j = 3 ∨ j = 4 ∨ j = 5 ∨ j = 6 ∨ j = 7 from by omega) with rfl | rfl | rfl | rfl | rfl | rfl | rfl | rfl <;> rfl
theorem out_get (v : Sha.V8) (k r : Nat) (hk : k < 8) (hr : r < 4) : (Sha.out v)[4 * k + r]? = some (UInt8.ofNat (v.list.getD k 0 / 256 ^ (3 - r))) := by
  rcases (show k = 0 ∨ k = 1 ∨ k = 2 ∨ k = 3 ∨ k = 4 ∨ k = 5 ∨ k = 6 ∨ k = 7 from by omega) with rfl | rfl | rfl | rfl | rfl | rfl | rfl | rfl <;>
    rcases (show r = 0 ∨ r = 1 ∨ r = 2 ∨ r = 3 from by omega) with rfl | rfl | rfl | rfl <;> rfl
set_option maxRecDepth 100000 in
set_option maxHeartbeats 6400000 in
theorem rsum_any (x : Value) (d : List UInt8) (W : World) (hL : RLaid W) (hx : Rd W x d) (hd : d.length ≤ 10000000) :
    Calls Tryd.prog 19 #[x] W fun e w' => e = .returned (.agg (bcells (dg d)).toArray) ∧ Chg (fun _ => False) W w' := by
  have hs3 := hL.size
  have hzw : ∀ w, (zeroValue 85).run Tryd.prog w = .ok (.agg (wcells64 [0, 0, 0, 0, 0, 0, 0, 0]).toArray) w := fun w => by kernel_rfl
  have hi8 : (Tryd.prog.info? 85).map (·.size) = some 8 := by kernel_rfl
  have HZW := Lib.hid hzw
  have HI8 := Lib.hid hi8
  have h8 : (wcells64 Sha.h0.list).length = 8 := rfl
  obtain ⟨N, hN⟩ : ∃ N : Nat, N = 64 := ⟨_, rfl⟩
  have hN1 : N ≤ 64 := by omega
  have HN := Lib.hid hN
  clear hzw hi8 hN
  go_enter Tryd.func19, Tryd.ntmps19
  go_wp2_with (first
    | ((with_reducible show wpList _ _ _ (⟨some 2, _, _, _, _, _⟩ :: _) _ _); refine wpl_alloc_row rfl 34 rfl Tryd.zeroValue34 ?_; intro w1 B1 hc1 hs1; have HS1 := Lib.hid hs1; clear hs1)
    | fail)
  have B1' : Blk w1 W.heap.size 34 (bcells (List.replicate 32 0)).toArray := B1
  ((with_reducible refine (padded_any _ d w1 (hx.kept hc1 (fun _ _ => id)) hd).mono ?_); rintro e w2 ⟨pv, rfl, OP, C2⟩)
  have C02 : Chg (fun _ => False) W w2 := hc1.trans C2 (fun _ _ h => h)
  have L2 := hL.kept C02 id id
  have BI := B1'.kept C2 id
  have hgi : W.heap.size < w2.heap.size := BI.lt
  obtain ⟨P, hP⟩ : ∃ P, P = d ++ Sha.pad d := ⟨_, rfl⟩
  rw [← hP] at OP
  have hPm : P.length % 64 = 0 := by rw [hP]; exact pad_blocks d
  have hPl : 64 ≤ P.length ∧ P.length ≤ 10000200 := by rw [hP, pad_eq]; simp; omega
  have hwl : (wordsOf P).length = P.length / 4 := wordsOf_length P
  generalize hnw : (wordsOf P).length = nw at *
  have HNW := Lib.hid hnw
  have hnw16 : nw % 16 = 0 := by omega
  have hwl1 : 4 * nw ≤ P.length := by omega
  have hwl2 : P.length ≤ 4 * nw := by omega
  clear hwl
  obtain ⟨pa, pc, rfl, hpc⟩ := OP.form
  obtain ⟨gm, rfl, hgm⟩ := OP.addr (by omega)
  have HP := Lib.hid hP
  have HB := Lib.hid L2.b
  clear B1 B1' hc1 C2 hP hnw HS1
  generalize hgie : W.heap.size = gi at *
  have HGI := Lib.hid hgie
  clear hgie
  go_wp2_with (first
    | ((with_reducible show wpList _ _ _ (⟨some 18, _, _, _, _, _⟩ :: _) _ _); refine wpl_load_mid rfl 85 (.global 1) rfl rfl HB.out Tryd.underlying85 (by rw [h8]; exact HI8.out) ?_)
    | ((with_reducible show wpList _ _ _ (⟨some 4, _, _, _, _, _⟩ :: _) _ _); refine wpl_alloc_row rfl 85 rfl HZW.out ?_; intro w3 B3 hc3 hs3'; have HS3 := Lib.hid hs3'; clear hs3')
    | ((with_reducible show wpList _ _ _ (⟨none, .store _ (.tmp 4) (.tmp 18), _, _, _, _⟩ :: _) _ _); refine wpl_store_row rfl 85 (.tmp 4) (.tmp 18) rfl rfl rfl B3 HI8.out rfl (w64_one _) ?_; intro w4 B4 hc4)
    | ((with_reducible show wpList _ _ _ (⟨some 19, _, _, _, _, _⟩ :: _) _ _); refine wpl_make rfl (.const (.int .i64 64)) (.const (.int .i64 64)) 83 rfl tyWords rfl N (by rw [HN.out]; rfl) (by rw [HN.out]; rfl) (by unfold maxLen; omega) (by omega) ?_; intro w5 O5 hc5 hs5)
    | fail)
  have hgh : w2.heap.size < w4.heap.size := B4.lt
  have C25 : Chg (fun q => w2.heap.size ≤ q) w2 w5 := ((hc3.mono fun _ _ h => h.elim).trans hc4 (fun _ _ e => Nat.le_of_eq e.symm)).trans hc5 (fun _ _ h => h.elim)
  have OP5 := OP.kept C25 (fun q hq => by have : gm = q := Option.some.inj hq; omega)
  have BI5 := BI.kept C25 (by omega)
  have C05 : Chg (fun _ => False) W w5 := C02.trans C25 (fun q hq h => by have := HGI.out; have := C02.size; omega)
  have BH5 := B4.kept hc5 id
  have BW5 : Blk w5 w4.heap.size 78 (wcells64 (List.replicate N 0)).toArray := by
    have := Own.blk O5
    have e : wcells64 (List.replicate N 0) = List.replicate N (Value.int .u64 0) := by simp [wcells64]
    rw [e]; exact this
  have hm0 : ∀ j, j < nw → w5.cell? ⟨gm, j, none⟩ = (wcells64 (wordsOf P))[j]? := fun j hj => (OP5.store hj undef).2.2
  have HM0 := Lib.hid hm0
  have hgm5 : gm < w5.heap.size := OP5.lt gm rfl
  have hnwpc := hpc
  clear OP OP5 BI B3 B4 hc3 hc4 hc5 O5 C02 L2 HB C25 hm0 HS3
  generalize w4.heap.size = gw at *
  generalize w2.heap.size = gh at *
  clear w4 w3 w2 w1
  go_loopw [6] (fun s6 wr => ∃ (i : Nat) (wl : List Nat), 16 * i ≤ nw ∧ s6 = .int .i64 ((16 * i : Nat) : Int) ∧ wl.length = 64 ∧ (∀ x ∈ wl, x < 4294967296) ∧ Blk wr gh 85 (wcells64 (stN P i).list).toArray ∧ Blk wr gw 78 (wcells64 wl).toArray ∧ Chg (fun q => q = gh ∨ q = gw) w5 wr) (fun s6 _ => nw - (intOf s6).toNat)
  case atStart => exact ⟨0, List.replicate N 0, by omega, rfl, by rw [List.length_replicate]; exact HN.out, fun x hx => by have := List.eq_of_mem_replicate hx; omega, BH5, BW5, Chg.refl _ _⟩
  case round =>
    clear BH5 BW5
    obtain ⟨i, wl, hi, rfl, hwll, hwlb, BH, BW, C⟩ := hrel
    obtain ⟨q, hq⟩ : ∃ q, q = 16 * i := ⟨_, rfl⟩
    rw [← hq]
    by_cases hlt : q < nw
    · have hq16 : q + 16 ≤ nw := by omega
      have hblk : 64 * i + 64 ≤ P.length := by omega
      have hws := words_blk P i hblk
      rw [← hq] at hws
      have hsl : (((wordsOf P).drop q).take 16).length = 16 := by rw [List.length_take, List.length_drop, HNW.out]; omega
      have hsrc : ∀ j u, (wcells64 (((wordsOf P).drop q).take 16))[j]? = some u → wr.cell? ((⟨gm, q, none⟩ : Addr).add j) = some u := fun j u hu => by
        have hj : j < 16 := by have := (List.getElem?_eq_some_iff.1 hu).1; rw [wcells64_length, hsl] at this; exact this
        rw [addr_add, C.cell (p := ⟨gm, q + j, none⟩) hgm5 (by show ¬ (gm = gh ∨ gm = gw); omega), HM0.out (q + j) (by omega), ← hu]
        simp only [wcells64, List.getElem?_map, List.getElem?_take, List.getElem?_drop, if_pos hj]
      have hdec : decide (q < nw) = true := by simp; exact hlt
      have HSL := Lib.hid hsl
      have HSRC := Lib.hid hsrc
      have HWS := Lib.hid hws
      have HQ := Lib.hid hq
      have HBW := Lib.hid BW
      have hszu : (Tryd.prog.info? 78).map (·.size) = some 1 := by kernel_rfl
      have HSZU := Lib.hid hszu
      clear hsl hsrc hws hq BW hszu
      go_wp2_with (first
        | ((with_reducible show wpList _ _ _ (⟨some 31, _, _, _, _, _⟩ :: _) _ _); refine wpl_part_own rfl 83 (.tmp 27) (.tmp 28) (.tmp 30) rfl Tryd.underlying83 Tryd.sizeOf78 rfl q (q + 16) rfl rfl rfl (by omega) (by omega) (by omega) hnwpc ?_)
        | ((with_reducible show wpList _ _ _ (⟨some 32, _, _, _, _, _⟩ :: _) _ _); refine wpl_copy_part rfl (.tmp 26) (.tmp 31) 83 rfl Tryd.underlying83 HSZU.out rfl rfl HBW.out (wcells64 (((wordsOf P).drop q).take 16)) (by rw [wcells64_length, HSL.out, HN.out]; show 16 = min (q + 16 - q) 64; omega) HSRC.out (by rw [wcells64_length, HSL.out]; simp [hwll]) (w64_mem _) ?_; intro w6 BW6 C6)
        | fail)
      have BW7 : Blk w6 gw 78 (wcells64 (Sha.sched (Sha.words (Sha.blk P i) 16) 0 ++ wl.drop (16 + 0))).toArray := by
        have := BW6
        rw [wcells64_length, HSL.out, HWS.out, List.take_zero, List.nil_append, w64_drop, ← w64_append] at this
        exact this
      have hmix0 : stN P (i + 1) = (stN P i).add (Sha.rnds Sha.k0 (Sha.sched (Sha.words (Sha.blk P i) 16) 48) (stN P i) 64) := stN_succ P i
      have HMIX0 := Lib.hid hmix0
      clear hmix0
      have hwsb := words_lt (Sha.blk P i) 16
      have hwsl : (Sha.words (Sha.blk P i) 16).length = 16 := by simp [Sha.words]
      generalize Sha.words (Sha.blk P i) 16 = ws at *
      have HWSL := Lib.hid hwsl
      have HWSB := Lib.hid hwsb
      have BH6 := Lib.hid (BH.kept C6 (by omega))
      have C56 : Chg (fun q => q = gh ∨ q = gw) w5 w6 := C.trans C6 (fun _ _ e => .inr e)
      have HC56 := Lib.hid C56
      have hgwl : gw < w6.heap.size := BW7.lt
      clear BW6 HBW hwsl hwsb BH C C6 C56 HSRC HSL
      go_loopw [7] (fun s7 w7 => ∃ k t : Nat, k ≤ 48 ∧ t = 16 + k ∧ s7 = .int .i64 t ∧ Blk w7 gw 78 (wcells64 (Sha.sched ws k ++ wl.drop (16 + k))).toArray ∧ Chg (fun q => q = gw) w6 w7) (fun s7 _ => 64 - (intOf s7).toNat)
      case atStart => exact ⟨0, 16, by omega, rfl, rfl, BW7, Chg.refl _ _⟩
      case round =>
        clear BW7
        obtain ⟨k, t, hk, ht, rfl, BW, C⟩ := hrel
        by_cases hk48 : k < 48
        · have hsl := Sha.sched_len ws k
          rw [HWSL.out] at hsl
          have hsb := Sha.sched_lt ws HWSB.out k
          have BWa : Blk wr gw 78 (wcells64 (Sha.sched ws k) ++ wcells64 (wl.drop (16 + k))).toArray := by rw [← w64_append]; exact BW
          have c1 := wcell64 BWa (k + 1) (by omega)
          have c2 := wcell64 BWa (k + 14) (by omega)
          have c7 := wcell64 BWa (k + 9) (by omega)
          have c16 := wcell64 BWa k (by omega)
          have b1 := Sha.getD_lt hsb (k + 1)
          have b2 := Sha.getD_lt hsb (k + 14)
          have b7 := Sha.getD_lt hsb (k + 9)
          have b16 := Sha.getD_lt hsb k
          have hmore : Sha.more (Sha.sched ws k) = (Sha.s1 ((Sha.sched ws k).getD (k + 14) 0) + (Sha.sched ws k).getD (k + 9) 0 + Sha.s0 ((Sha.sched ws k).getD (k + 1) 0) + (Sha.sched ws k).getD k 0) % 4294967296 := by
            unfold Sha.more
            rw [hsl, show 16 + k - 2 = k + 14 from by omega, show 16 + k - 7 = k + 9 from by omega, show 16 + k - 15 = k + 1 from by omega, show 16 + k - 16 = k from by omega]
          have hsnx : Sha.sched ws (k + 1) = Sha.sched ws k ++ [Sha.more (Sha.sched ws k)] := rfl
          generalize (Sha.sched ws k).getD (k + 14) 0 = y2 at *
          generalize (Sha.sched ws k).getD (k + 1) 0 = x1 at *
          generalize (Sha.sched ws k).getD (k + 9) 0 = x7 at *
          generalize (Sha.sched ws k).getD k 0 = x16 at *
          have e0 := s0_bits64 x1 b1
          have e1 := s1_bits64 y2 b2
          have l0 := Sha.s0_lt b1
          have l1 := Sha.s1_lt b2
          obtain ⟨p1, hp1⟩ : ∃ p, p = k + 1 := ⟨_, rfl⟩
          obtain ⟨p2, hp2⟩ : ∃ p, p = k + 14 := ⟨_, rfl⟩
          obtain ⟨p7, hp7⟩ : ∃ p, p = k + 9 := ⟨_, rfl⟩
          rw [← hp1] at c1
          rw [← hp2] at c2
          rw [← hp7] at c7
          have h15 : (t : Int) - 15 = (p1 : Int) := by omega
          have h2 : (t : Int) - 2 = (p2 : Int) := by omega
          have h7 : (t : Int) - 7 = (p7 : Int) := by omega
          have h16 : (t : Int) - 16 = (k : Int) := by omega
          have q1 : p1 < 64 := by omega
          have q2 : p2 < 64 := by omega
          have q7 : p7 < 64 := by omega
          have qt : t < 64 := by omega
          have qt0 : 16 ≤ t := by omega
          have ft := BW.free t
          obtain ⟨z, hz⟩ : ∃ z R, wl.drop (16 + k) = z :: R ∧ R = wl.drop (16 + (k + 1)) := ⟨wl[16 + k]'(by omega), _, List.drop_eq_getElem_cons (by omega), by congr 1⟩
          obtain ⟨R, hzR, hR⟩ := hz
          have ct : wr.cell? ⟨gw, t, none⟩ = some (.int .u64 (z : Int)) := by
            rw [BWa.cell, List.getElem?_toArray, List.getElem?_append_right (by rw [wcells64_length, hsl]; omega), wcells64_length, hsl, show t - (16 + k) = 0 from by omega, hzR]; rfl
          have HMO := Lib.hid hmore
          have HSN := Lib.hid hsnx
          have HZR := Lib.hid hzR
          have HR := Lib.hid hR
          have HBWa := Lib.hid BW
          have HSLx := Lib.hid hsl
          have HT := Lib.hid ht
          have hNt : t < N := by have := HN.out; omega
          have hN1' : p1 < N := by have := HN.out; omega
          have hN2' : p2 < N := by have := HN.out; omega
          have hN7' : p7 < N := by have := HN.out; omega
          have hNk' : k < N := by have := HN.out; omega
          clear hmore hsnx hzR hR BW BWa hsl hsb ht hp1 hp2 hp7
          go_wp2_with fail
          refine wp_region_text mixed (by kernel_rfl) ?_
          go_wp2_with fail
          refine TQ.normal (by kernel_rfl) ?_
          go_wp2_with fail
          ((with_reducible refine (rturn_lit x1 7 7 rfl _ b1 (by decide) (by decide)).mono ?_); rintro e w' ⟨rfl, rfl⟩)
          go_wp2_with fail
          ((with_reducible refine (rturn_lit x1 18 18 rfl _ b1 (by decide) (by decide)).mono ?_); rintro e w' ⟨rfl, rfl⟩)
          go_wp2_with fail
          ((with_reducible refine (rturn_lit y2 17 17 rfl _ b2 (by decide) (by decide)).mono ?_); rintro e w' ⟨rfl, rfl⟩)
          go_wp2_with fail
          ((with_reducible refine (rturn_lit y2 19 19 rfl _ b2 (by decide) (by decide)).mono ?_); rintro e w' ⟨rfl, rfl⟩)
          go_wp2_with fail
          refine wp_region_text mixed (by kernel_rfl) ?_
          go_wp2_with fail
          refine TQ.normal (by kernel_rfl) ?_
          go_wp2_with fail
          rw [mask32i _ (by omega) (by omega)]
          have e1 := (HBWa.out.set t (.int .u64 ((Sha.more (Sha.sched ws k) : Nat) : Int))).drew.drew
          rw [HZR.out, wset64 (by rw [HSLx.out]; exact HT.out.symm), HR.out] at e1
          have e2 : ((Sha.s1 y2 : Nat) : Int) + (x7 : Int) + ((Sha.s0 x1 : Nat) : Int) + (x16 : Int) = ((Sha.s1 y2 + x7 + Sha.s0 x1 + x16 : Nat) : Int) := by push_cast; rfl
          have e3 : (((Sha.s1 y2 : Nat) : Int) + (x7 : Int) + ((Sha.s0 x1 : Nat) : Int) + (x16 : Int)) % 4294967296 = ((Sha.more (Sha.sched ws k) : Nat) : Int) := by rw [HMO.out, e2]; rfl
          rw [e3]
          refine ⟨⟨k + 1, t + 1, by omega, by have := HT.out; omega, by go_num, ?_, (C.setCell (.inr rfl) _).drew.drew⟩, by simp [intOf]; omega⟩
          rw [HSN.out, List.append_assoc]
          exact e1
        · skip
          have hk' : k = 48 := by omega
          have hwl0 : wl.drop (16 + k) = [] := by rw [List.drop_eq_nil_iff]; omega
          rw [hwl0, List.append_nil] at BW
          have hS : Sha.sched ws k = Sha.sched ws 48 := by rw [hk']
          rw [hS] at BW
          have hSl : (Sha.sched ws 48).length = 64 := by rw [Sha.sched_len, HWSL.out]
          have hSb := Sha.sched_lt ws HWSB.out 48
          have hdec : decide ((t : Int) < 64) = false := by simp; omega
          have hmix : stN P (i + 1) = (stN P i).add (Sha.rnds Sha.k0 (Sha.sched ws 48) (stN P i) 64) := HMIX0.out
          clear hk hk48 ht hk' hwl0 hS
          generalize Sha.sched ws 48 = S at *
          have BH9 := BH6.out.kept C (by omega)
          have HMIX := Lib.hid hmix
          have HSL := Lib.hid hSl
          have HSB := Lib.hid hSb
          have HBWx := Lib.hid BW
          clear hmix hSl hSb BW
          have h8 : (Tryd.prog.info? 85).map (·.size) = some 8 := by kernel_rfl
          have hgh9 : gh < wr.heap.size := BH9.lt
          have vl8 : (stN P i).list.length = 8 := rfl
          have VL8 := Lib.hid vl8
          clear vl8
          go_wp2_with (first
            | ((with_reducible show wpList _ _ _ (⟨some 82, _, _, _, _, _⟩ :: _) _ _); refine wpl_load_row rfl 85 (.tmp 4) rfl rfl BH9 Tryd.underlying85 (by rw [h8]; exact HI8.out) ?_)
            | fail)
          have hKr : ∀ t, t < 64 → wr.cell? ⟨3, t, none⟩ = some (.int .u64 ((Sha.k0.getD t 0 : Nat) : Int)) := fun t ht => by
            have C8 : Chg (fun _ => False) W w6 := C05.trans HC56.out (fun q hq h => by have := HGI.out; have h' : q = gh ∨ q = gw := h; omega)
            have C9 : Chg (fun _ => False) W wr := C8.trans C (fun q hq h => by have := HGI.out; have h' : q = gw := h; omega)
            exact (hL.kept C9 id id).k t ht
          have hwr : ∀ t, t < 64 → wr.cell? ⟨gw, t, none⟩ = some (.int .u64 ((S.getD t 0 : Nat) : Int)) := fun t ht => by
            have B : Blk wr gw 78 (wcells64 S ++ []).toArray := by rw [List.append_nil]; exact HBWx.out
            exact wcell64 B t (by rw [HSL.out]; exact ht)
          ((with_reducible refine (rround_n (stN P i) S gw N HN.out wr (stN_lt P i) hKr hwr HSB.out).mono ?_); rintro e w7 ⟨rfl, C7⟩)
          clear hKr hwr
          obtain ⟨rv, hrv⟩ : ∃ rv, rv = Sha.rnds Sha.k0 S (stN P i) 64 := ⟨_, rfl⟩
          rw [← hrv]
          have hmixS := HMIX.out
          rw [← hrv] at hmixS
          have hrvb : ∀ x ∈ rv.list, x < 4294967296 := by rw [hrv]; exact Sha.rnds_lt _ _ (stN_lt P i) 64
          have HMIXS := Lib.hid hmixS
          have HRVB := Lib.hid hrvb
          clear hmixS hrv HMIX hrvb
          have BH7 := BH9.kept C7 id
          have hgh7 : gh < w7.heap.size := BH7.lt
          have C67 : Chg (fun q => q = gw) w6 w7 := C.trans C7 (fun _ _ h => h.elim)
          have HC67 := Lib.hid C67
          have HBW67 := Lib.hid (HBWx.out.kept C7 id)
          clear C C7 C67 BH9 BH6 HBWx
          go_wp2_with (first
            | ((with_reducible show wpList _ _ _ (⟨some 12, _, _, _, _, _⟩ :: _) _ _); refine wpl_alloc_row rfl 85 rfl HZW.out ?_; intro w8 B8 hc8 hs8)
            | ((with_reducible show wpList _ _ _ (⟨none, .store _ (.tmp 12) (.tmp 84), _, _, _, _⟩ :: _) _ _); refine wpl_store_row rfl 85 (.tmp 12) (.tmp 84) rfl rfl rfl B8 HI8.out rfl (w64_one _) ?_; intro w9 B9 hc9)
            | fail)
          have BV9 : Blk w9 w7.heap.size 85 (wcells64 rv.list).toArray := B9
          have C79 : Chg (fun q => w7.heap.size ≤ q) w7 w9 := (hc8.mono fun _ _ h => h.elim).trans hc9 (fun _ _ e => Nat.le_of_eq e.symm)
          have BH10 := BH7.kept C79 (by omega)
          have C69 : Chg (fun q => q = gw) w6 w9 := HC67.out.trans C79 (fun q hq h => by have := HC67.out.size; have h' : w7.heap.size ≤ q := h; omega)
          have C59 : Chg (fun q => q = gh ∨ q = gw) w5 w9 := HC56.out.trans C69 (fun _ _ e => .inr e)
          have BS9 := HBW67.out.kept C79 (by have h := HBW67.out.lt; omega)
          have hghv : gh < w7.heap.size := hgh7
          have hgwv : gw < w7.heap.size := HBW67.out.lt
          have ha8 : (stN P i).list.length = 8 := rfl
          have hv8 : rv.list.length = 8 := rfl
          have hs8' : ((stN P i).add rv).list.length = 8 := rfl
          have hsum : ∀ j, j < 8 → ((stN P i).add rv).list.getD j 0 = ((stN P i).list.getD j 0 + rv.list.getD j 0) % 4294967296 := fun j hj => add_get _ _ j hj
          have hab := stN_lt P i
          have hvb := HRVB.out
          have hnextl : (stN P (i + 1)).list = ((stN P i).add rv).list := by rw [HMIXS.out]
          generalize ((stN P i).add rv).list = SL at *
          generalize rv.list = VL at *
          generalize (stN P i).list = AL at *
          generalize w7.heap.size = gv at *
          have HNL := Lib.hid hnextl
          have HA8 := Lib.hid ha8
          have HV8 := Lib.hid hv8
          have HS8 := Lib.hid hs8'
          have HSUM := Lib.hid hsum
          have HAB := Lib.hid hab
          have HVB := Lib.hid hvb
          have HC59 := Lib.hid C59
          have HBS9 := Lib.hid BS9
          have hgv9 : gv < w9.heap.size := BV9.lt
          have HBV := Lib.hid BV9
          clear hnextl ha8 hv8 hs8' hsum hab hvb C59 C69 C79 BS9 B9 B8 hc8 hc9 hs8 BH7 BV9 HRVB HMIXS
          go_loopw [13] (fun s13 wt => ∃ j : Nat, j ≤ 8 ∧ s13 = .int .i64 j ∧ Blk wt gh 85 (wcells64 (SL.take j ++ AL.drop j)).toArray ∧ Chg (fun q => q = gh) w9 wt) (fun s13 _ => 8 - (intOf s13).toNat)
          case atStart => exact ⟨0, by omega, rfl, by simpa using BH10, Chg.refl _ _⟩
          case round =>
            clear BH10
            obtain ⟨j, hj, rfl, BH, C⟩ := hrel
            by_cases hj8 : j < 8
            · have hA8 := HA8.out
              have hS8 := HS8.out
              have hV8 := HV8.out
              have htl : (SL.take j).length = j := by rw [List.length_take]; omega
              obtain ⟨z, hz⟩ : ∃ z, z = AL.getD j 0 := ⟨_, rfl⟩
              obtain ⟨y, hy⟩ : ∃ y, y = VL.getD j 0 := ⟨_, rfl⟩
              have hdr : AL.drop j = z :: AL.drop (j + 1) := by rw [List.drop_eq_getElem_cons (by omega), hz]; simp [List.getD, List.getElem?_eq_getElem (show j < AL.length by omega)]
              have hbz : z < 4294967296 := by rw [hz]; exact Sha.getD_lt HAB.out j
              have hby : y < 4294967296 := by rw [hy]; exact Sha.getD_lt HVB.out j
              have hsj : SL.take (j + 1) = SL.take j ++ [(z + y) % 4294967296] := by
                have := HSUM.out j hj8
                rw [← hz, ← hy] at this
                rw [List.take_succ_eq_append_getElem (by omega), ← this]
                simp [List.getD, List.getElem?_eq_getElem (show j < SL.length by omega)]
              rw [hdr] at BH
              have c1 : wr.cell? ⟨gh, j, none⟩ = some (.int .u64 (z : Int)) := by
                rw [BH.cell, List.getElem?_toArray]
                simp only [wcells64, List.getElem?_map]
                rw [List.getElem?_append_right (by omega), htl, Nat.sub_self]; rfl
              have c2 : wr.cell? ⟨gv, j, none⟩ = some (.int .u64 (y : Int)) := by
                rw [C.cell (p := ⟨gv, j, none⟩) hgv9 (by show ¬ gv = gh; omega)]
                have B : Blk w9 gv 85 (wcells64 VL ++ []).toArray := by rw [List.append_nil]; exact HBV.out
                rw [hy]; exact wcell64 B j (by omega)
              have f1 := BH.free j
              have HBH := Lib.hid BH
              have HSJ := Lib.hid hsj
              have HTL := Lib.hid htl
              have HDR := Lib.hid hdr
              clear hsj htl hdr hz hy BH hA8 hS8 hV8
              go_wp2_with fail
              refine wp_region_text mixed (by kernel_rfl) ?_
              go_wp2_with fail
              refine TQ.normal (by kernel_rfl) ?_
              go_wp2_with fail
              rw [mask32i _ (by omega) (by omega)]
              go_roundw
              case rel =>
                refine ⟨j + 1, by omega, by go_num, ?_, (C.setCell (.inr rfl) _).drew⟩
                have e1 := (HBH.out.set j (.int .u64 (((z + y) % 4294967296 : Nat) : Int))).drew
                rw [wset64 HTL.out] at e1
                rw [HSJ.out, List.append_assoc]
                exact e1
              case measure => simp [intOf]; omega
            · have hj' : j = 8 := by omega
              have hfull : SL.take j ++ AL.drop j = SL := by rw [hj', List.take_of_length_le (by rw [HS8.out]; omega), List.drop_of_length_le (by rw [HA8.out]; omega), List.append_nil]
              rw [hfull] at BH
              have hdec : decide ((j : Int) < 8) = false := by simp; omega
              have hq2 := HQ.out
              have hnx : (q : Int) + 16 = ((16 * (i + 1) : Nat) : Int) := by omega
              have hgs : gw < w9.heap.size := by omega
              have BS := HBS9.out.kept C (by show ¬ gw = gh; omega)
              have HBS := Lib.hid BS
              have HNX := Lib.hid hnx
              clear hj' hfull hj8 hnx BS hq2
              go_wp2_with fail
              go_roundw
              case rel => exact ⟨i + 1, S, by have := HQ.out; omega, by rw [HNX.out], HSL.out, HSB.out, by rw [HNL.out]; exact BH, HBS.out, HC59.out.trans C (fun _ _ e => .inl e)⟩
              case measure => have := HQ.out; simp [intOf]; omega
    · have hq' : q = nw := by omega
      have hPi : P.length = 64 * i := by omega
      have hdg : dg d = Sha.out (stN P i) := by
        unfold dg Sha.sha
        rw [← HP.out]
        unfold stN Sha.state
        rw [show P.length / 64 = i from by omega]
      have hdec : decide ((q : Int) < (nw : Int)) = false := by simp; omega
      have hvb := stN_lt P i
      have hv8 : (stN P i).list.length = 8 := rfl
      have hout : ∀ k r, k < 8 → r < 4 → (Sha.out (stN P i))[4 * k + r]? = some (UInt8.ofNat ((stN P i).list.getD k 0 / 256 ^ (3 - r))) := fun k r => out_get _ k r
      have hol : (Sha.out (stN P i)).length = 32 := by rw [← hdg, dg_length]
      generalize (stN P i).list = VL at *
      generalize Sha.out (stN P i) = OL at *
      have HDG := Lib.hid hdg
      have HVB := Lib.hid hvb
      have HV8 := Lib.hid hv8
      have HOUT := Lib.hid hout
      have HOL := Lib.hid hol
      have HC := Lib.hid C
      have BIr := BI5.kept C (by show ¬ (gi = gh ∨ gi = gw); omega)
      have HBI := Lib.hid BIr
      have HBHx := Lib.hid BH
      have hghr : gh < wr.heap.size := BH.lt
      have hsz : (Tryd.prog.info? 34).map (·.size) = some 32 := by kernel_rfl
      have HSZ := Lib.hid hsz
      clear hq' hPi hdg hvb hv8 hout hol C BH BIr hsz hq
      go_wp2_with (first
        | ((with_reducible show wpList _ _ _ (⟨some 14, _, _, _, _, _⟩ :: _) _ _); refine wpl_alloc_row rfl 34 rfl Tryd.zeroValue34 ?_; intro w6 B6 hc6 hs6)
        | fail)
      have B6' : Blk w6 wr.heap.size 34 (bcells (List.replicate 32 0)).toArray := B6
      have BH6 := HBHx.out.kept hc6 id
      have HBH6 := Lib.hid BH6
      have hgh6 : gh < w6.heap.size := BH6.lt
      generalize hgoe : wr.heap.size = go at *
      have HGO := Lib.hid hgoe
      clear hgoe hs6 B6 BH6
      go_loopw [15] (fun s15 wt => ∃ j : Nat, j ≤ 32 ∧ s15 = .int .i64 j ∧ Blk wt go 34 (bcells (OL.take j ++ List.replicate (32 - j) 0)).toArray ∧ Chg (fun q => q = go) w6 wt) (fun s15 _ => 32 - (intOf s15).toNat)
      case atStart => exact ⟨0, by omega, rfl, by simpa using B6', Chg.refl _ _⟩
      case round =>
        clear B6'
        obtain ⟨j, hj, rfl, BO, C⟩ := hrel
        by_cases hj32 : j < 32
        · obtain ⟨k, hk⟩ : ∃ k, k = j / 4 := ⟨_, rfl⟩
          obtain ⟨r, hr⟩ : ∃ r, r = j % 4 := ⟨_, rfl⟩
          obtain ⟨s, hs⟩ : ∃ s, s = 24 - 8 * r := ⟨_, rfl⟩
          have hk8 : k < 8 := by omega
          have hr4 : r < 4 := by omega
          have hs24 : s ≤ 24 := by omega
          have hjk : j = 4 * k + r := by omega
          have hpow : (2 : Nat) ^ s = 256 ^ (3 - r) := by
            rw [hs]
            rcases (show r = 0 ∨ r = 1 ∨ r = 2 ∨ r = 3 from by omega) with rfl | rfl | rfl | rfl <;> rfl
          have e1 : (j : Int) / 4 = (k : Int) := by omega
          have e2 : (24 : Int) - 8 * ((j : Int) % 4) = (s : Int) := by omega
          obtain ⟨z, hz⟩ : ∃ z, z = VL.getD k 0 := ⟨_, rfl⟩
          have hzb : z < 4294967296 := by rw [hz]; exact Sha.getD_lt HVB.out k
          have hoj : OL.take (j + 1) = OL.take j ++ [UInt8.ofNat (z / 2 ^ s)] := by
            have := HOUT.out k r hk8 hr4
            rw [← hjk, ← hz, ← hpow] at this
            have hl := HOL.out
            rw [List.take_succ_eq_append_getElem (by omega)]
            congr 1
            rw [List.getElem?_eq_getElem (by omega)] at this
            rw [Option.some.inj this]
          have htl : (OL.take j).length = j := by rw [List.length_take, HOL.out]; omega
          have c1 : wr.cell? ⟨gh, k, none⟩ = some (.int .u64 (z : Int)) := by
            rw [C.cell (p := ⟨gh, k, none⟩) hgh6 (by show ¬ gh = go; have := HGO.out; omega)]
            have B : Blk w6 gh 85 (wcells64 VL ++ []).toArray := by rw [List.append_nil]; exact HBH6.out
            rw [hz]; exact wcell64 B k (by rw [HV8.out]; exact hk8)
          have c2 : wr.cell? ⟨go, j, none⟩ = some (.int .u8 0) := by
            rw [BO.cell]; simp only [List.getElem?_toArray, bcells_get]
            rw [List.getElem?_append_right (by omega), htl, List.getElem?_replicate, if_pos (by omega)]; rfl
          have f1 := BO.free j
          have HBO := Lib.hid BO
          have HOJ := Lib.hid hoj
          have HTL := Lib.hid htl
          clear hoj htl hpow hk hr hs hjk hz BO
          go_wp2_with fail
          go_roundw
          case rel =>
            refine ⟨j + 1, by omega, by go_num, ?_, C.setCell (.inr rfl) _⟩
            have e3 := HBO.out.set j (.int .u8 (((UInt8.ofNat (z / 2 ^ s)).toNat : Nat) : Int))
            rw [show List.replicate (32 - j) (0 : UInt8) = 0 :: List.replicate (32 - (j + 1)) 0 from by rw [← List.replicate_succ]; congr 1; omega, bset1 HTL.out] at e3
            have e4 : (((UInt8.ofNat (z / 2 ^ s)).toNat : Nat) : Int) = (z : Int) / 2 ^ s % 256 := by
              rw [UInt8.toNat_ofNat']; simp
            rw [e4] at e3
            rw [HOJ.out, List.append_assoc]
            exact e3
          case measure => simp [intOf]; omega
        · have hj' : j = 32 := by omega
          have hfull : OL.take j ++ List.replicate (32 - j) 0 = OL := by rw [hj', List.take_of_length_le (by rw [HOL.out]; omega)]; simp
          rw [hfull] at BO
          have hdec2 : decide ((j : Int) < 32) = false := by simp; omega
          have hsz32 : (Tryd.prog.info? 34).map (·.size) = some (bcells OL).toArray.size := by rw [List.size_toArray, bcells_length, HOL.out]; exact HSZ.out
          have HS32 := Lib.hid hsz32
          have HBO := Lib.hid BO
          have BI6 := HBI.out.kept hc6 id
          have BI7 := BI6.kept C (by show ¬ gi = go; have := HGO.out; have := HBI.out.lt; omega)
          have HBI7 := Lib.hid BI7
          have hl32 : (bcells (List.replicate 32 (0 : UInt8))).toArray.size = (bcells OL).toArray.size := by rw [List.size_toArray, List.size_toArray, bcells_length, bcells_length, HOL.out]; rfl
          have HL32 := Lib.hid hl32
          clear hj' hfull hj32 BO hsz32 BI6 BI7 hl32
          go_wp2_with (first
            | ((with_reducible show wpList _ _ _ (⟨some 116, _, _, _, _, _⟩ :: _) _ _); refine wpl_load_row rfl 34 (.tmp 14) rfl rfl HBO.out Tryd.underlying34 HS32.out ?_)
            | ((with_reducible show wpList _ _ _ (⟨none, .store _ (.tmp 2) (.tmp 116), _, _, _, _⟩ :: _) _ _); refine wpl_store_row rfl 34 (.tmp 2) (.tmp 116) rfl rfl rfl HBI7.out HS32.out HL32.out (arr_one OL) ?_; intro w9 B9 hc9)
            | fail)
          refine bodyPost_ret (results_cell_row rfl _ _ gi 34 (bcells OL).toArray (0, 0) _ rfl B9 Tryd.underlying34 rfl HS32.out) rfl ⟨by rw [HDG.out], ?_⟩
          have C1 : Chg (fun q => q = gh ∨ q = gw) w5 w6 := HC.out.trans hc6 (fun _ _ h => h.elim)
          have C2 : Chg (fun q => q = gh ∨ q = gw ∨ q = go) w5 wr := (C1.mono (fun _ _ h => by rcases h with h | h; exact .inl h; exact .inr (.inl h))).trans C (fun _ _ h => .inr (.inr h))
          have C3 := C05.trans C2 (fun q hq h => by
            have h' : q = gh ∨ q = gw ∨ q = go := h
            have := HGI.out
            have := C05.size
            have := C1.size
            have := HGO.out
            have := HC.out.size
            omega)
          exact C3.trans hc9 (fun q hq h => by have h' : q = gi := h; have := HGI.out; omega)
end Go.Proofs.YtafgeppdchnceaaDoor
