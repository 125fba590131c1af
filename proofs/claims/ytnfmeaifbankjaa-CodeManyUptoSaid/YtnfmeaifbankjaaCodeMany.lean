import Derived.Test.YtnfmeaifbankjaaCrowd
import Derived.Test.YtnfmeaifbankjaaPin
set_option linter.unusedVariables false
namespace Go.Proofs.Ytnfmeaifbankjaa
open Go Go.RowKit Go.Sat

theorem infoPW : (Try.prog.info? 27).map (fun i => (i.zero, i.size, i.bytes)) = some (some (.pointer none), 1, 8) := by kernel_rfl
theorem tyPW : SliceTy Try.prog 43 27 1 8 (.pointer none) := by
  obtain ⟨i0, hi0, hz0, hz1, hz2⟩ := info_parts infoPW
  exact ⟨Try.underlying43, ⟨i0, hi0, hz0, hz1, hz2⟩, rfl, by decide⟩
theorem infoBB : (Try.prog.info? 22).map (fun i => (i.zero, i.size, i.bytes)) = some (some (.slice none 0 0), 1, 24) := by kernel_rfl
theorem tyBB : SliceTy Try.prog 40 22 1 24 (.slice none 0 0) := by
  obtain ⟨i0, hi0, hz0, hz1, hz2⟩ := info_parts infoBB
  exact ⟨Try.underlying40, ⟨i0, hi0, hz0, hz1, hz2⟩, rfl, by decide⟩
theorem infoPR : (Try.prog.info? 50).map (fun i => (i.zero, i.size, i.bytes)) = some (some (.pointer none), 1, 8) := by kernel_rfl
theorem tyPR : SliceTy Try.prog 49 50 1 8 (.pointer none) := by
  obtain ⟨i0, hi0, hz0, hz1, hz2⟩ := info_parts infoPR
  exact ⟨Try.underlying49, ⟨i0, hi0, hz0, hz1, hz2⟩, rfl, by decide⟩

/-- A slice of slices of bytes that reads. -/
def RdRows (w : World) (v : Value) (bs : List (Value × List UInt8)) : Prop :=
  (∀ x ∈ bs, Rd w x.1 x.2 ∧ ∀ k, rdb x.1 = some k → k < w.heap.size) ∧ ((bs = [] ∧ ∃ ao c, v = .slice ao 0 c) ∨ ∃ b off c, v = .slice (some ⟨b, off, none⟩) bs.length c ∧ b < w.heap.size ∧
    ∀ i (h : i < bs.length), w.cell? ⟨b, off + i, none⟩ = some bs[i].1)
theorem RdRows.form {w : World} {v : Value} {bs : List (Value × List UInt8)} (h : RdRows w v bs) : ∃ ao c, v = .slice ao bs.length c := by
  rcases h.2 with ⟨h0, ao, c, rfl⟩ | ⟨b, off, c, rfl, _⟩
  · exact ⟨ao, c, by rw [h0]; rfl⟩
  · exact ⟨_, c, rfl⟩
def bulkRows (bs : List (Value × List UInt8)) : Nat := (bs.map fun x => x.2.length + 1).sum

theorem bulkRows_take (bs : List (Value × List UInt8)) (k : Nat) : ((bs.take k).map fun x => x.2.length).sum ≤ bulkRows bs := by
  induction bs generalizing k with
  | nil => simp [bulkRows]
  | cons o bs ih =>
    cases k with
    | zero => simp
    | succ k =>
      have := ih k
      simp only [bulkRows, List.take_succ_cons, List.map_cons, List.sum_cons] at this ⊢
      omega
theorem Rd.lt {w : World} {x : Value} {l : List UInt8} (h : Rd w x l) {k : Nat} (hk : rdb x = some k) : k < w.heap.size := by
  by_cases h0 : 0 < l.length
  · obtain ⟨b, off, c, rfl, _, hb⟩ := h.addr h0
    simp only [rdb] at hk
    split at hk
    · cases hk
    · cases hk; exact hb
  · obtain ⟨ao, c, rfl, _⟩ := h.form
    have : l.length = 0 := by omega
    rw [this] at hk
    cases ao <;> simp [rdb] at hk
theorem eq_self_any (x y : Value) (l : List UInt8) (w : World) (hx : Rd w x l) (hy : Rd w y l) (hl : l.length ≤ 1000000000) :
    Calls Try.prog 9 #[x, y] w fun e w' => e = .returned (.bool true) ∧ Drawn w w' := by
  have h := eq_any x y l l w hx hy hl hl
  rwa [eqB_self] at h
/-- The lists that the statement keeps: the Writers, what each is to hold. -/
structure Lists (W w : World) (n : Nat) (it : Nat → It) (lab : Nat → Nat) (wv hv : Value) : Prop where
  ws : Own w 27 1 wv n ((List.range n).map fun i => .pointer (some ⟨(it i).pb, 0, none⟩))
  hs : Own w 22 1 hv n ((List.range n).map fun i => (it i).h)
  wl : ∀ k, wv.ownBlock = some k → Free W lab k
  hl : ∀ k, hv.ownBlock = some k → Free W lab k
  ne : ∀ k, wv.ownBlock = some k → hv.ownBlock ≠ some k
theorem be_len4 (i : Nat) : (be (i : Int) 4 4).length = 4 := by simp

set_option maxRecDepth 100000 in
set_option maxHeartbeats 1600000 in
theorem codeMany_walk (pn : Int) (pv : Value) (bs : List (Value × List UInt8)) (W : World) (hpn : -9223372036854775808 ≤ pn ∧ pn ≤ 9223372036854775807) (hrows : RdRows W pv bs) (hbulk : bulkRows bs ≤ 2000000) :
    Calls Try.prog 4 #[.agg #[.int .i64 pn, pv]] W fun e w' => e = .returned (.bool true) ∧ Chg (fun _ => False) W w' := by
  go_enter Try.func4, Try.ntmps4
  go_wp2_with (go_at_call 7; refine (into_any pn 64 _ (by omega) (by omega) hpn).mono ?_; rintro e w' ⟨rfl, rfl⟩)
  obtain ⟨n, hn, hn64⟩ : ∃ n : Nat, pn % 64 + 1 = n ∧ n ≤ 64 := ⟨(pn % 64 + 1).toNat, by omega, by omega⟩
  have hn1 : 1 + pn % 64 = (n : Int) := by omega
  have hn2 : 0 < n := by omega
  rw [hn1]
  clear hn hn1
  have B0 := Blk.new W 42 #[.int .i64 pn, pv]
  have C0 := (Chg.refl (fun _ => False) W).alloc (.cells #[.int .i64 pn, pv] 42)
  generalize W.alloc (.cells #[.int .i64 pn, pv] 42) = w0 at *
  go_loopw [4, 5, 6] (fun wv hv i wr => ∃ (k : Nat) (it : Nat → It) (lab : Nat → Nat), k ≤ n ∧ i = .int .i64 k ∧ Crowd W wr k it lab ∧ Lists W wr k it lab wv hv ∧ Free W lab W.heap.size ∧ wv.ownBlock ≠ some W.heap.size ∧ hv.ownBlock ≠ some W.heap.size ∧
      Blk wr W.heap.size 42 #[.int .i64 pn, pv] ∧ ∀ j, j < k → (it j).l = be (j : Int) 4 4) (fun _ _ i _ => n - (intOf i).toNat)
  case atStart =>
    refine ⟨0, fun _ => ⟨0, .pointer none, 0, .pointer none, []⟩, fun _ => 0, Nat.zero_le _, rfl, ⟨fun i hi => by omega, fun i hi => by omega, fun _ _ => rfl, C0⟩, ⟨World.ownsRow_nil _ _ _ _, World.ownsRow_nil _ _ _ _, fun k hk => by simp [Value.ownBlock] at hk, fun k hk => by simp [Value.ownBlock] at hk, fun k hk => by simp [Value.ownBlock] at hk⟩, ⟨rfl, Nat.le_refl _⟩, by simp [Value.ownBlock], by simp [Value.ownBlock], B0, fun j hj => by omega⟩
  case round =>
    obtain ⟨k, it, lab, hk, rfl, D, L, hF, hwF, hhF, B, hit⟩ := hrel
    by_cases hlt : k < n
    · obtain ⟨wa, wc, hwv, hwc⟩ := L.ws.form
      obtain ⟨ha, hc, hhv, hhc⟩ := L.hs.form
      subst hwv hhv
      go_wp2_with fail
      refine (new_any _).mono ?_
      rintro e w1 ⟨T0, rfl, N1, hc1, hs1⟩
      have L1w := L.ws.kept hc1 (fun _ _ => id)
      have L1h := L.hs.kept hc1 (fun _ _ => id)
      go_wp2_with (first | ((with_reducible show wpList _ _ _ (⟨some 24, _, _, _, _, _⟩ :: _) _ _); refine Shut.out ?_) | fail)
      show wpList _ _ _ _ _ _
      refine wpl_append (o := ⟨some 24, _, _, _, _, _⟩) rfl (.tmp 21) (.tmp 23) 43 rfl tyPW (L1w.alloc _) (Sl.built1 _ _ _ rfl) rfl rfl (by unfold maxLen; omega) (by omega) ?_
      intro wa2 wc2 w2 O2 hgr2 hblk2
      have hw1 := hc1.size
      have hwlt := L.ws.lt
      have hhlt := L.hs.lt
      have cA : Chg (fun q => (Value.slice wa k wc).ownBlock = some q) w1 w2 := ((Chg.refl _ w1).alloc _).grown hgr2 fun q hq => .inr hq
      have hsA := cA.size
      have H2 := L1h.kept cA (fun q hq h => L.ne q h hq)
      have N2 := N1.kept cA (fun h => by have := hwlt _ h; omega) (fun q hq => by simp [Value.ownBlock] at hq)
      have hsz2 : w1.heap.size < w2.heap.size := by have := hgr2.size; simp at this; omega
      go_wp2_with (first | ((with_reducible show wpList _ _ _ (⟨some 27, _, _, _, _, _⟩ :: _) _ _); refine Shut.out ?_) | fail)
      show wpList _ _ _ _ _ _
      refine wpl_append (o := ⟨some 27, _, _, _, _, _⟩) rfl (.tmp 25) (.tmp 26) 40 rfl tyBB (H2.alloc _) (Sl.built1 _ _ _ rfl) rfl rfl (by unfold maxLen; omega) (by omega) ?_
      intro ha2 hc2 w3 O3 hgr3 hblk3
      have cB : Chg (fun q => (Value.slice ha k hc).ownBlock = some q) w2 w3 := ((Chg.refl _ w2).alloc _).grown hgr3 fun q hq => .inr hq
      have hsz3 : w2.heap.size < w3.heap.size := by have := hgr3.size; simp at this; omega
      obtain ⟨gw, rfl, hgw⟩ := O2.addr (by omega)
      obtain ⟨gh, rfl, hgh⟩ := O3.addr (by omega)
      have hgw2 : (Value.slice wa k wc).ownBlock = some gw ∨ gw = w1.heap.size + 1 := by
        rcases hblk2 with h | h
        · exact .inl h.symm
        · simp [Value.ownBlock] at h; exact .inr h
      have hgh2 : (Value.slice ha k hc).ownBlock = some gh ∨ gh = w2.heap.size + 1 := by
        rcases hblk3 with h | h
        · exact .inl h.symm
        · simp [Value.ownBlock] at h; exact .inr h
      have W3 := O2.kept cB (fun q hq h => by
        simp [Value.ownBlock] at hq; subst hq
        rcases hgw2 with h1 | h1
        · exact L.ne _ h1 h
        · have := hhlt _ h; omega)
      have N3 := N2.kept cB (fun h => by have := hhlt _ h; omega) (fun q hq => by simp [Value.ownBlock] at hq)
      have k0 := W3.cellAt (i := k) (by omega)
      rw [List.getElem?_append_right (by simp), List.length_map, List.length_range, Nat.sub_self] at k0
      have hne : gw ≠ gh := fun e => by
        subst e
        rcases hgw2 with h1 | h1
        · rcases hgh2 with h2 | h2
          · exact L.ne _ h1 h2
          · have := hwlt _ h1; omega
        · rcases hgh2 with h2 | h2
          · have := hhlt _ h2; omega
          · omega
      have HN := Lib.hid hne
      have KH := Lib.hid hit
      clear hblk2 hblk3 hne hit
      go_wp2_with fail
      refine (u32_any wr.heap.size (.slice none 0 0) T0 k [] _ N3 (by omega) (by omega) (by simp)).mono ?_
      rintro e w4 ⟨rfl, v', N4, c4, b4⟩
      have hsz4 := c4.size
      have O4 := O3.kept c4 (fun q hq h => by
        simp [Value.ownBlock] at hq h; subst hq
        rcases hgh2 with h1 | h1
        · have := hhlt _ h1; omega
        · omega)
      go_wp2_with fail
      refine (ru32_any k _ (by omega) (by omega)).mono ?_
      rintro e w5 ⟨h', rfl, OH, c5, b5⟩
      obtain ⟨xa, xc, rfl, _⟩ := OH.form
      have O5 := O4.kept c5 (fun _ _ => id)
      have hst := O5.store (i := k) (by omega) (.slice xa (be (k : Int) 4 4).length xc)
      obtain ⟨O6, fr, cc⟩ := hst
      rw [List.getElem?_append_right (by simp), List.length_map, List.length_range, Nat.sub_self] at cc
      go_wp2_with fail
      have hb4 : ∀ q, v'.ownBlock = some q → w3.heap.size ≤ q := fun q hq => by
        rcases b4 q hq with h | h
        · simp [Value.ownBlock] at h
        · exact h
      have hsz5 := c5.size
      have c6 := setCell_chg w5 ⟨gh, k, none⟩ (.slice xa (be (k : Int) 4 4).length xc)
      have hghlt : gh < w3.heap.size := hgh
      have hgwlt : gw < w2.heap.size := hgw
      have hpbgh : wr.heap.size ≠ gh := fun e => by
        rcases hgh2 with h | h
        · have := hhlt _ h; omega
        · omega
      have CW : Chg (fun q => (Value.slice wa k wc).ownBlock = some q ∨ (Value.slice ha k hc).ownBlock = some q) wr (w5.setCell ⟨gh, k, none⟩ (.slice xa (be (k : Int) 4 4).length xc)) := by
        refine ((((hc1.mono (fun _ _ h => h.elim)).trans cA (fun q hq h => .inl h)).trans cB (fun q hq h => .inr h)).trans c4 (fun q hq h => ?_)).trans c5 (fun q hq h => h.elim) |>.trans c6 (fun q hq h => ?_)
        · rcases h with h | h
          · omega
          · simp [Value.ownBlock] at h
        · have h : q = gh := h
          subst h
          rcases hgh2 with h | h
          · exact .inr h
          · omega
      have CF : Chg (Free W lab) wr (w5.setCell ⟨gh, k, none⟩ (.slice xa (be (k : Int) 4 4).length xc)) := CW.mono fun q hq h => by
        rcases h with h | h
        · exact L.wl q h
        · exact L.hl q h
      have hv6 : ∀ q, v'.ownBlock = some q → ¬ q = gh := fun q hq e => by have := hb4 q hq; omega
      have hx6 : ∀ q, (Value.slice xa (be (k : Int) 4 4).length xc).ownBlock = some q → ¬ q = gh := fun q hq e => by have := b5 q hq; omega
      have hone : One (w5.setCell ⟨gh, k, none⟩ (.slice xa (be (k : Int) 4 4).length xc)) wr.heap.size v' T0 (.slice xa (be (k : Int) 4 4).length xc) (be (k : Int) 4 4) := by
        refine ⟨(N4.kept c5 id (fun _ _ => id)).kept c6 hpbgh hv6, OH.kept c6 hx6, fun h => ?_, fun q hq h => ?_⟩
        · have := b5 _ h; omega
        · have := b5 _ hq
          have := N4.own.lt _ h; omega
      have hfp : ∀ q, FP wr.heap.size v' (.slice xa (be (k : Int) 4 4).length xc) q → wr.heap.size ≤ q := fun q hq => by
        rcases hq with h | h | h
        · omega
        · have := hb4 q h; omega
        · have := b5 q h; omega
      have D6 := D.add (It.mk wr.heap.size v' T0 (.slice xa (be (k : Int) 4 4).length xc) (be (k : Int) 4 4)) hone CF hfp
      have hold : ∀ q, q < wr.heap.size → Free W lab q → Free W (relab lab wr (It.mk wr.heap.size v' T0 (.slice xa (be (k : Int) 4 4).length xc) (be (k : Int) 4 4)).FP (k + 1)) q := fun q hq h => ⟨by rw [relab_old hq]; exact h.1, h.2⟩
      have hWr := D.ch.size
      have hnew : ∀ q, wr.heap.size ≤ q → q < w3.heap.size → q ≠ wr.heap.size → Free W (relab lab wr (It.mk wr.heap.size v' T0 (.slice xa (be (k : Int) 4 4).length xc) (be (k : Int) 4 4)).FP (k + 1)) q := fun q h1 h2 h3 => by
        refine ⟨relab_none h1 fun hf => ?_, by omega⟩
        rcases hf with h | h | h
        · exact h3 h
        · have := hb4 q h; omega
        · have := b5 q h; omega
      have BW := B.lt
      go_roundw
      case rel =>
        refine ⟨k + 1, upd it k (It.mk wr.heap.size v' T0 (.slice xa (be (k : Int) 4 4).length xc) (be (k : Int) 4 4)), _, by omega, by go_num, D6, ⟨?_, ?_, fun q hq => ?_, fun q hq => ?_, fun q hq h => ?_⟩, hold _ BW hF, fun h => ?_, fun h => ?_, B.kept CW (fun h => ?_), fun j hj => ?_⟩
        · refine ((W3.kept c4 (fun q hq h => ?_)).kept c5 (fun _ _ => id) |>.kept c6 (fun q hq h => ?_)).cast rfl ?_
          · simp [Value.ownBlock] at hq h
            subst hq
            rcases hgw2 with h1 | h1
            · have := hwlt _ h1; omega
            · omega
          · simp [Value.ownBlock] at hq
            exact HN.out (hq.trans h)
          · rw [range_map_snoc (fun i => Value.pointer (some ⟨(it i).pb, 0, none⟩)) _ k (fun i hi => by rw [upd_other _ _ _ _ (by omega)]), upd_self]
        · refine O6.cast rfl ?_
          rw [range_map_snoc (fun i => (it i).h) _ k (fun i hi => by rw [upd_other _ _ _ _ (by omega)]), upd_self, List.set_append_right _ _ (by simp)]
          simp
        · simp [Value.ownBlock] at hq
          subst hq
          rcases hgw2 with h1 | h1
          · exact hold _ (hwlt _ h1) (L.wl _ h1)
          · exact hnew _ (by omega) (by omega) (by omega)
        · simp [Value.ownBlock] at hq
          subst hq
          rcases hgh2 with h1 | h1
          · exact hold _ (hhlt _ h1) (L.hl _ h1)
          · exact hnew _ (by omega) (by omega) (by omega)
        · simp [Value.ownBlock] at hq h
          exact HN.out (hq.trans h.symm)
        · simp [Value.ownBlock] at h
          subst h
          rcases hgw2 with h1 | h1
          · exact hwF h1
          · omega
        · simp [Value.ownBlock] at h
          subst h
          rcases hgh2 with h1 | h1
          · exact hhF h1
          · omega
        · rcases h with h | h
          · exact hwF h
          · exact hhF h
        · by_cases e : j = k
          · subst e; rw [upd_self]
          · rw [upd_other _ _ _ _ e]; exact KH.out j (by omega)
      case measure => simp [intOf]; omega
    · obtain rfl : k = n := by omega
      obtain ⟨wa, wc, hwv, hwc⟩ := L.ws.form
      obtain ⟨ha, hc, hhv, hhc⟩ := L.hs.form
      subst hwv hhv
      obtain ⟨gw, rfl, hgw⟩ := L.ws.addr hn2
      obtain ⟨gh, rfl, hgh⟩ := L.hs.addr hn2
      have hwF' : gw ≠ W.heap.size := fun e => hwF (by simp [Value.ownBlock, e])
      have hhF' : gh ≠ W.heap.size := fun e => hhF (by simp [Value.ownBlock, e])
      have hwh : gw ≠ gh := fun e => L.ne gw rfl (by simp [Value.ownBlock, e])
      have HX := Lib.hid (And.intro hwF' (And.intro hhF' hwh))
      have start : ∀ j, j < k → ∃ r, (it j).l = be (j : Int) 4 4 ++ r ∧ r.length ≤ ((bs.take 0).map fun x => x.2.length).sum + 10 * 0 := fun j hj => ⟨[], by simp [hit j hj], by simp⟩
      have HS := Lib.hid start
      clear hwF hhF hit hwF' hhF' hwh start
      obtain ⟨pa, pc, rfl⟩ := hrows.form
      go_wp2_with fail
      go_loopw [7] (fun i wr2 => ∃ (j : Nat) (it : Nat → It) (lab : Nat → Nat), j ≤ bs.length ∧ j ≤ 400 ∧ i = .int .i64 j ∧ Crowd W wr2 k it lab ∧ Lists W wr2 k it lab (.slice (some ⟨gw, 0, none⟩) k wc) (.slice (some ⟨gh, 0, none⟩) k hc) ∧ Free W lab W.heap.size ∧
          Blk wr2 W.heap.size 42 #[.int .i64 pn, .slice pa bs.length pc] ∧ (∀ q, q < k → ∃ r, (it q).l = be (q : Int) 4 4 ++ r ∧ r.length ≤ ((bs.take j).map fun x => x.2.length).sum + 10 * j)) (fun i _ => 400 - (intOf i).toNat)
      case atStart => exact ⟨0, it, lab, Nat.zero_le _, Nat.zero_le _, rfl, D, L, hF, B, HS.out⟩
      case round =>
        clear D L hF B HS it lab hgw hgh
        obtain ⟨j, it, lab, hj1, hj2, rfl, D, L, hF, B, hit⟩ := hrel
        obtain ⟨hgwF, hghF, hgwgh⟩ := HX.out
        have cB : wr.cell? ⟨W.heap.size, 1, none⟩ = some (.slice pa bs.length pc) := B.cell 1
        by_cases hlt : j < bs.length ∧ j < 400
        · obtain ⟨hl1, hl2⟩ := hlt
          rcases hrows.2 with ⟨h0, _⟩ | ⟨pb0, po, pc', hpv, hpb, hcell⟩
          · rw [h0] at hl1; simp at hl1
          injection hpv with e1 e2 e3
          subst e1 e3
          have hrow := hrows.1 bs[j] (List.getElem_mem _)
          have hcell := hcell j hl1
          have hsum : ((bs.take (j + 1)).map fun x => x.2.length).sum = ((bs.take j).map fun x => x.2.length).sum + bs[j].2.length := by
            rw [List.take_succ_eq_append_getElem hl1, List.map_append, List.sum_append]; simp
          have hbound := bulkRows_take bs (j + 1)
          generalize bs[j] = xb at hrow hcell hsum
          obtain ⟨x, b⟩ := xb
          simp only at hrow hcell hsum
          obtain ⟨hrd, hrlt⟩ := hrow
          obtain ⟨xa, xc, rfl, _⟩ := hrd.form
          have hrd1 := hrd.kept D.ch (fun _ _ => id)
          have hcell1 : wr.cell? ⟨pb0, po + j, none⟩ = some (.slice xa b.length xc) := by rw [D.ch.cell (p := ⟨pb0, po + j, none⟩) hpb id]; exact hcell
          have hq : j % k < k := Nat.mod_lt _ hn2
          have hrem : (j : Int).tmod (k : Int) = ((j % k : Nat) : Int) := by rw [Int.tmod_eq_emod_of_nonneg (by omega)]; simp
          have hz : ((k : Int) == 0) = false := by simp; omega
          generalize j % k = q at hq hrem
          have kw := L.ws.cellAt hq
          have kh := L.hs.cellAt hq
          have hone := D.one q hq
          have hlb := D.lb q hq
          have hitq := hit q hq
          simp only [List.getElem?_map, List.getElem?_range hq, Option.map_some] at kw kh
          generalize hx0 : it q = x0 at kw kh hone hlb hitq
          have HX0 := Lib.hid hx0
          clear hx0
          obtain ⟨pb, v, T, h, l⟩ := x0
          simp only [It.One] at hone kw kh hitq
          have hlb' : ∀ z, FP pb v h z → lab z = q + 1 := hlb
          obtain ⟨ya, yc, rfl, _⟩ := hone.held.form
          obtain ⟨rr, hl, hrr⟩ := hitq
          have hll : l.length ≤ 2010000 := by rw [hl]; simp; omega
          have hfg : ¬ FP pb v (.slice ya l.length yc) gw := fun hf => by have := hlb' _ hf; have := (L.wl gw rfl).1; omega
          have hfh : ¬ FP pb v (.slice ya l.length yc) gh := fun hf => by have := hlb' _ hf; have := (L.hl gh rfl).1; omega
          have hfB : ¬ FP pb v (.slice ya l.length yc) W.heap.size := fun hf => by have := hlb' _ hf; have := hF.1; omega
          have hfo : ∀ z, z < W.heap.size → ¬ FP pb v (.slice ya l.length yc) z := fun z hz hf => by have := hlb' _ hf; have := D.old z hz; omega
          have hbl : b.length ≤ 2000000 := by omega
          have hvl := varB_len b.length (by omega)
          have HH := Lib.hid hl
          have HS1 := Lib.hid hsum
          have HIT := Lib.hid hit
          have HLB := Lib.hid hlb'
          clear hl hsum hit hlb hlb' hrr
          go_wp2_with fail
          refine wp_region_text mixed (by kernel_rfl) ?_
          go_wp2_with fail
          refine (wbytes_any pb v (.slice xa b.length xc) T l b _ (hone.wr.kept ((Chg.refl (fun _ => False) wr).drew) id (fun _ _ => id)) hrd1.drew (fun z hz => ⟨fun e => hfo z (hrlt z hz) (.inl e), fun e => hfo z (hrlt z hz) (.inr (.inl e))⟩) (by omega) (by omega)).mono ?_
          rintro e w4 ⟨rfl, v', N4, c4, b4⟩
          go_wp2_with fail
          refine TQ.normal (by kernel_rfl) ?_
          have c4' : Chg (FP pb v (.slice ya l.length yc)) wr w4 := ((Chg.refl _ wr).drew).trans c4 fun z _ hz => hz.imp id .inl
          have kB4 : w4.cell? ⟨W.heap.size, 1, none⟩ = some (.slice (some ⟨pb0, po, none⟩) bs.length pc) := by rw [c4'.cell (p := ⟨W.heap.size, 1, none⟩) B.lt hfB]; exact cB
          have kh4 : w4.cell? ⟨gh, q, none⟩ = some (.slice ya l.length yc) := by rw [c4'.cell (p := ⟨gh, q, none⟩) (L.hs.lt gh rfl) hfh]; exact kh
          have kr4 : w4.cell? ⟨pb0, po + j, none⟩ = some (.slice xa b.length xc) := by rw [c4'.cell (p := ⟨pb0, po + j, none⟩) (World.block_lt_of_cell? wr _ hcell1) (hfo _ hpb)]; exact hcell1
          have hrd4 := hrd1.kept c4' (fun z hz => hfo z (hrlt z hz))
          have held4 : Own w4 5 1 (.slice ya l.length yc) l.length (bcells l) := hone.held.drew.kept c4 (fun z hz hf => by
            rcases hf with hf | hf
            · exact hone.hp (by rw [hz, hf])
            · exact hone.hvv z hz hf)
          clear cB kh kw hcell1 hcell hrd1
          go_wp2_with fail
          refine wp_region_pin (fun _ => false) [5] [12] (Same (fun _ => False) w4) mixed (by kernel_rfl) (fun _ _ h e => h.ext e) (Same.refl _ _).drew ?_
          simp only [wpSegs, List.take_succ_cons, List.take_zero, List.drop_succ_cons, List.drop_zero]
          go_wp2_with (go_at_call 15; refine (rtext_any (.slice xa b.length xc) b _ hrd4.drew (by omega)).mono ?_; rintro e w5 ⟨y, rfl, OY, c5, b5⟩; rw [List.length_append] at OY; obtain ⟨ta, tc, rfl, _⟩ := OY.form)
          refine SegQ.normal ⟨fun z o h _ => c5.keep h id, ?_⟩
          refine wpl_append (o := ⟨some 82, _, _, _, _, _⟩) rfl (.tmp 75) (.tmp 81) 22 rfl tyBytes (held4.drew.kept c5 (fun _ _ => id)) (OY.sl (bcells_one _)) rfl rfl (by unfold maxLen; omega) (by omega) ?_
          intro za zc w6 O6 hgr6 hblk6
          have c6 : Chg (fun z => (Value.slice ya l.length yc).ownBlock = some z) w5 w6 := (Chg.refl _ w5).grown hgr6 fun z hz => .inr hz
          have hvB : ∀ z, v'.ownBlock = some z → v.ownBlock = some z ∨ wr.heap.size ≤ z := b4
          have hs4 := c4'.size
          have hs5 : w4.heap.size ≤ w5.heap.size := c5.size
          have hs6 := c6.size
          have hhs : Own w6 22 1 (.slice (some ⟨gh, 0, none⟩) k hc) k ((List.range k).map fun i => (it i).h) := ((L.hs.kept c4' (fun z hz => by simp [Value.ownBlock] at hz; subst hz; exact hfh)).drew.kept c5 (fun _ _ => id)).kept c6 (fun z hz hf => by simp [Value.ownBlock] at hz; subst hz; exact hfh (.inr (.inr hf)))
          have hst := hhs.store hq (.slice za (l.length + ((varB b.length).length + b.length)) zc)
          obtain ⟨O7, fr7, cc7⟩ := hst
          have hcc7 : w6.cell? ⟨gh, q, none⟩ = some (.slice ya l.length yc) := by
            rw [cc7, List.getElem?_map, List.getElem?_range hq]
            simp only [Option.map_some, HX0.out]
          clear cc7
          go_wp2_with fail
          refine TQ.normal (by kernel_rfl) ⟨⟨PinAt.cell rfl rfl rfl kh4 id (fun X h => by go_simp), trivial⟩, ?_⟩
          go_wp2_with fail
          have c7 := setCell_chg w6 ⟨gh, q, none⟩ (.slice za (l.length + ((varB b.length).length + b.length)) zc)
          have hghlt := L.hs.lt gh rfl
          have hgwlt := L.ws.lt gw rfl
          have hpblt : pb < wr.heap.size := One.lt hone (.inl rfl)
          have hv'gh : ∀ z, v'.ownBlock = some z → ¬ z = gh := fun z hz e => by
            subst e
            rcases hvB z hz with h1 | h1
            · exact hfh (.inr (.inl h1))
            · omega
          have hhlt : ∀ z, (Value.slice ya l.length yc).ownBlock = some z → z < wr.heap.size := hone.held.lt
          have hv'h : ∀ z, v'.ownBlock = some z → ¬ (Value.slice ya l.length yc).ownBlock = some z := fun z hz e => by
            rcases hvB z hz with h1 | h1
            · exact hone.hvv z e h1
            · have := hhlt z e; omega
          have hnh : ∀ z, (Value.slice za (l.length + ((varB b.length).length + b.length)) zc).ownBlock = some z → (Value.slice ya l.length yc).ownBlock = some z ∨ z = w5.heap.size := fun z hz => by
            rcases hblk6 with h1 | h1
            · rw [h1] at hz; exact .inl hz
            · rw [h1] at hz; simp at hz; exact .inr hz.symm
          have hNW := (((N4.kept ((Chg.refl (fun _ => False) w4).drew) id (fun _ _ => id)).kept c5 id (fun _ _ => id)).kept c6 hone.hp hv'h).kept c7 (fun e => hfh (.inl (Eq.symm e))) hv'gh
          have hvlt : ∀ z, v'.ownBlock = some z → z < w4.heap.size := N4.own.lt
          have hone' : One (w6.setCell ⟨gh, q, none⟩ (.slice za (l.length + ((varB b.length).length + b.length)) zc)) pb v' T (.slice za (l.length + ((varB b.length).length + b.length)) zc) (l ++ (varB b.length ++ b)) := by
            refine ⟨hNW, (O6.kept c7 (fun z hz e => ?_)).cast (by simp) (by simp), fun e => ?_, fun z hz e => ?_⟩
            · have e : z = gh := e
              subst e
              rcases hnh z hz with h1 | h1
              · exact hfh (.inr (.inr h1))
              · omega
            · rcases hnh _ e with h1 | h1
              · exact hone.hp h1
              · omega
            · rcases hnh z hz with h1 | h1
              · exact hv'h z e h1
              · have := hvlt z e; omega
          have CW : Chg (fun z => FP pb v (.slice ya l.length yc) z ∨ z = gh) wr (w6.setCell ⟨gh, q, none⟩ (.slice za (l.length + ((varB b.length).length + b.length)) zc)) :=
            ((((c4'.mono (fun _ _ h => Or.inl h)).drew.trans c5 fun _ _ h => h.elim).trans c6 fun _ _ h => Or.inl (.inr (.inr h)))).trans c7 fun _ _ h => Or.inr h
          have hitFP : (it q).FP = FP pb v (.slice ya l.length yc) := by rw [HX0.out]; rfl
          have D7 := D.step hq (It.mk pb v' T (.slice za (l.length + ((varB b.length).length + b.length)) zc) (l ++ (varB b.length ++ b))) hone' (by
            refine CW.mono fun z _ h => ?_
            rw [hitFP]
            rcases h with h | h
            · exact .inl h
            · subst h; exact .inr (L.hl _ rfl)) (fun z hz => by
            rw [hitFP]
            rcases hz with h | h | h
            · exact .inl (.inl h)
            · exact (hvB z h).imp (fun h => .inr (.inl h)) id
            · rcases hnh z h with h1 | h1
              · exact .inl (.inr (.inr h1))
              · exact .inr (by omega))
          have hold : ∀ z, z < wr.heap.size → Free W lab z → Free W (relab lab wr (It.mk pb v' T (.slice za (l.length + ((varB b.length).length + b.length)) zc) (l ++ (varB b.length ++ b))).FP (q + 1)) z := fun z hz h => ⟨by rw [relab_old hz]; exact h.1, h.2⟩
          go_roundw
          case rel =>
            refine ⟨j + 1, upd it q (It.mk pb v' T (.slice za (l.length + ((varB b.length).length + b.length)) zc) (l ++ (varB b.length ++ b))), _, by omega, by omega, by go_num, D7, ⟨?_, ?_, fun z hz => ?_, fun z hz => ?_, L.ne⟩, hold _ B.lt hF, B.kept CW (fun h => ?_), fun i hi => ?_⟩
            · refine (L.ws.kept CW (fun z hz h => ?_)).cast rfl (List.map_congr_left fun i hi => ?_)
              · simp [Value.ownBlock] at hz
                subst hz
                rcases h with h | h
                · exact hfg h
                · exact hgwgh h
              · by_cases e : i = q
                · subst e; rw [upd_self, HX0.out]
                · rw [upd_other _ _ _ _ e]
            · refine O7.cast rfl ?_
              rw [range_map_set]
              refine List.map_congr_left fun i hi => ?_
              by_cases e : i = q
              · subst e; rw [upd_self, if_pos rfl]
              · rw [upd_other _ _ _ _ e, if_neg e]
            · simp [Value.ownBlock] at hz; subst hz; exact hold _ hgwlt (L.wl _ rfl)
            · simp [Value.ownBlock] at hz; subst hz; exact hold _ hghlt (L.hl _ rfl)
            · rcases h with h | h
              · exact hfB h
              · exact hghF h.symm
            · by_cases e : i = q
              · subst e
                rw [upd_self]
                have h1 := HS1.out
                exact ⟨rr ++ (varB b.length ++ b), by rw [HH.out]; simp, by
                  obtain ⟨r2, h2, h3⟩ := HIT.out i hi
                  have h4 : rr = r2 := by
                    have h5 := HH.out
                    rw [HX0.out] at h2
                    simp only at h2
                    rw [h5] at h2
                    exact List.append_cancel_left h2
                  subst h4
                  simp only [List.length_append]; omega⟩
              · rw [upd_other _ _ _ _ e]
                obtain ⟨r2, h2, h3⟩ := HIT.out i hi
                have h1 := HS1.out
                exact ⟨r2, h2, by omega⟩
          case measure => simp [intOf]; omega
        · have hS2 : ∀ q, q < k → (it q).l.length ≤ 2010000 := fun q hq => by
            obtain ⟨r2, h2, h3⟩ := hit q hq
            have := bulkRows_take bs j
            rw [h2]; simp; omega
          have hS3 : ∀ q, q < k → ∃ r, (it q).l = be (q : Int) 4 4 ++ r := fun q hq => by
            obtain ⟨r2, h2, h3⟩ := hit q hq
            exact ⟨r2, h2⟩
          have HIT := Lib.hid (And.intro hS2 hS3)
          clear hit hS2 hS3
          have HWG := Lib.hid hgwgh
          clear hgwgh
          rcases (by omega : ¬ j < bs.length ∨ (j < bs.length ∧ ¬ j < 400)) with h1 | ⟨h1, h2⟩
          all_goals
            go_wp2_with fail
            go_loopw [9, 10] (fun rv i wr3 => ∃ (m : Nat) (rd : Nat → Rt) (lab : Nat → Nat), m ≤ k ∧ i = .int .i64 m ∧ Crowd W wr3 k it lab ∧ Lists W wr3 k it lab (.slice (some ⟨gw, 0, none⟩) k wc) (.slice (some ⟨gh, 0, none⟩) k hc) ∧
                Rds wr3 0 m rd it lab ∧ Own wr3 50 1 rv m ((List.range m).map fun i => .pointer (some ⟨(rd i).pb, 0, none⟩)) ∧ (∀ z, rv.ownBlock = some z → Free W lab z ∧ z ≠ gw ∧ z ≠ gh)) (fun _ i _ => k - (intOf i).toNat)
            case atStart => exact ⟨0, fun _ => ⟨0, .pointer none, 0⟩, lab, Nat.zero_le _, rfl, D, L, fun i h1 h2 => by omega, World.ownsRow_nil _ _ _ _, fun z hz => by simp [Value.ownBlock] at hz⟩
            case round =>
              clear D L hF B cB HX h1 lab
              try clear h2
              obtain ⟨m, rd, lab, hm, rfl, D, L, R, O, hO⟩ := hrel
              obtain ⟨ra, rc, rfl, _⟩ := O.form
              by_cases hlt : m < k
              · have kh := L.hs.cellAt hlt
                have hone := D.one m hlt
                simp only [List.getElem?_map, List.getElem?_range hlt, Option.map_some] at kh
                have hll := HIT.out.1 m hlt
                generalize hx0 : it m = x0 at kh hone hll
                have HX0 := Lib.hid hx0
                clear hx0
                obtain ⟨pb, v, T, h, l⟩ := x0
                simp only [It.One] at hone kh hll
                obtain ⟨ya, yc, rfl, _⟩ := hone.held.form
                have hrd := hone.held.rd
                clear hone
                go_wp2_with fail
                refine (copy_any _ l _ hrd (by omega)).mono ?_
                rintro e w4 ⟨rfl, O4, c4, hs4⟩
                go_wp2_with fail
                refine (read_any _ l _ O4.rd (by omega)).mono ?_
                rintro e w5 ⟨rb, rv, rT, rfl, R5, c5, hpb5, hrv5⟩
                have c45 := c4.trans c5 fun _ _ h => h
                have O5 := O.kept c45 (fun _ _ => id)
                go_wp2_with (first | ((with_reducible show wpList _ _ _ (⟨some 97, _, _, _, _, _⟩ :: _) _ _); refine Shut.out ?_) | fail)
                show wpList _ _ _ _ _ _
                refine wpl_append (o := ⟨some 97, _, _, _, _, _⟩) rfl (.tmp 89) (.tmp 96) 49 rfl tyPR (O5.alloc _) (Sl.built1 _ _ _ rfl) rfl rfl (by unfold maxLen; omega) (by omega) ?_
                intro na nc w6 O6 hgr6 hblk6
                have c6 : Chg (fun z => (Value.slice ra m rc).ownBlock = some z) w5 w6 := ((Chg.refl _ w5).alloc _).grown hgr6 fun q hq => .inr hq
                have hs5 := c5.size
                have hs6 : w5.heap.size < w6.heap.size := by have := hgr6.size; simp at this; omega
                obtain ⟨gr, rfl, hgr⟩ := O6.addr (by omega)
                have k6 := O6.cellAt (i := m) (by omega)
                rw [List.getElem?_append_right (by simp), List.length_map, List.length_range, Nat.sub_self] at k6
                have hgr2 : (Value.slice ra m rc).ownBlock = some gr ∨ gr = w5.heap.size + 1 := by
                  rcases hblk6 with h | h
                  · exact .inl h.symm
                  · simp [Value.ownBlock] at h; exact .inr h
                clear hblk6
                go_wp2_with fail
                have CW : Chg (fun z => (Value.slice ra m rc).ownBlock = some z) wr w6 := (c45.mono fun _ _ h => h.elim).trans c6 fun _ _ h => h
                have hgwlt := L.ws.lt gw rfl
                have hghlt := L.hs.lt gh rfl
                have hrblt := R5.blk.lt
                have hralt := O.lt
                have hl' : ∀ z, z < wr.heap.size → (fun z => if z < wr.heap.size then lab z else if z = rb then 1000 + m else if rdb rv = some z then 2000 else 0) z = lab z := fun z hz => by simp [hz]
                have hWr := D.ch.size
                go_roundw
                case rel =>
                  refine ⟨m + 1, upd rd m ⟨rb, rv, rT⟩, fun z => if z < wr.heap.size then lab z else if z = rb then 1000 + m else if rdb rv = some z then 2000 else 0, by omega, by go_num, D.turn hl' (CW.mono fun z _ hz => ?_), ⟨?_, ?_, fun z hz => ?_, fun z hz => ?_, L.ne⟩, fun i h1 h2 => ?_, ?_, fun z hz => ?_⟩
                  · have := (hO z hz).1
                    exact ⟨fun i hi h => by have := this.1; omega, this.2⟩
                  · exact L.ws.kept CW fun z hz h => by simp [Value.ownBlock] at hz; subst hz; exact (hO _ h).2.1 rfl
                  · exact L.hs.kept CW fun z hz h => by simp [Value.ownBlock] at hz; subst hz; exact (hO _ h).2.2 rfl
                  · simp [Value.ownBlock] at hz; subst hz
                    exact ⟨by rw [hl' _ hgwlt]; exact (L.wl _ rfl).1, (L.wl _ rfl).2⟩
                  · simp [Value.ownBlock] at hz; subst hz
                    exact ⟨by rw [hl' _ hghlt]; exact (L.hl _ rfl).1, (L.hl _ rfl).2⟩
                  · by_cases e : i = m
                    · subst e
                      rw [upd_self]
                      have hnb : ¬ rb < wr.heap.size := by omega
                      refine ⟨?_, by simp [hnb], fun z hz => ?_⟩
                      · rw [HX0.out]
                        exact R5.kept c6 (fun h => by have := hralt _ h; omega) (fun z hz h => by have := hralt _ h; have := hrv5 z hz; omega)
                      · have h3 := hrv5 z hz
                        have h4 := Rd.lt R5.rd hz
                        have h5 := R5.ne z hz
                        have h6 : ¬ z < wr.heap.size := by omega
                        exact ⟨by simp [h6, h5, hz], by omega⟩
                    · rw [upd_other _ _ _ _ e]
                      exact (R.turn (m' := 0) (Nat.le_refl _) hl' CW fun z hz => by have := (hO z hz).1.1; exact ⟨by omega, fun i _ => by omega⟩) i (Nat.zero_le _) (by omega)
                  · refine O6.cast rfl ?_
                    rw [range_map_snoc (fun i => Value.pointer (some ⟨(rd i).pb, 0, none⟩)) _ m (fun i hi => by rw [upd_other _ _ _ _ (by omega)]), upd_self]
                  · simp [Value.ownBlock] at hz; subst hz
                    rcases hgr2 with h1 | h1
                    · have h2 := hO _ h1
                      exact ⟨⟨by rw [hl' _ (hralt _ h1)]; exact h2.1.1, h2.1.2⟩, h2.2⟩
                    · have h3 : ¬ gr < wr.heap.size := by omega
                      have h4 : gr ≠ rb := by omega
                      have h5 : rdb rv ≠ some gr := fun e => by have := Rd.lt R5.rd e; omega
                      exact ⟨⟨by simp [h3, h4, h5], by omega⟩, by omega, by omega⟩
                case measure => simp [intOf]; omega
              · obtain rfl : m = k := by omega
                obtain ⟨gr, rfl, hgr⟩ := O.addr hn2
                have hOg := hO gr rfl
                have HO := Lib.hid hOg
                clear hO hOg hgr
                go_wp2_with fail
                go_loopw [11] (fun i wr4 => ∃ n : Nat, n ≤ m ∧ i = .int .i64 n ∧ Crowd W wr4 m it lab ∧ Lists W wr4 m it lab (.slice (some ⟨gw, 0, none⟩) m wc) (.slice (some ⟨gh, 0, none⟩) m hc) ∧
                    Rds wr4 n m rd it lab ∧ Own wr4 50 1 (.slice (some ⟨gr, 0, none⟩) m rc) m ((List.range m).map fun i => .pointer (some ⟨(rd i).pb, 0, none⟩))) (fun i _ => m - (intOf i).toNat)
                case atStart => exact ⟨0, Nat.zero_le _, rfl, D, L, R, O⟩
                case round =>
                  clear D L R O
                  obtain ⟨n, hn, rfl, D, L, R, O⟩ := hrel
                  by_cases hlt : n < m
                  · have kh := L.hs.cellAt hlt
                    have kw := L.ws.cellAt hlt
                    have kr := O.cellAt hlt
                    have hone := D.one n hlt
                    simp only [List.getElem?_map, List.getElem?_range hlt, Option.map_some] at kh kw kr
                    have hll := HIT.out.1 n hlt
                    obtain ⟨rr, hl⟩ := HIT.out.2 n hlt
                    obtain ⟨R0, hlab, hrdb⟩ := R n (Nat.le_refl _) hlt
                    have hitFP : ∀ z, (it n).FP z → lab z = n + 1 := D.lb n hlt
                    have hrdR : rd n = rd n := rfl
                    generalize hx0 : it n = x0 at kh kw hone hll hl R0 hitFP
                    generalize hy0 : rd n = y0 at kr R0 hlab hrdb hrdR
                    have HX0 := Lib.hid hx0
                    have HY0 := Lib.hid hy0
                    clear hx0 hy0 hrdR
                    obtain ⟨pb, v, T, h, l⟩ := x0
                    obtain ⟨rb, rv, rT⟩ := y0
                    simp only [It.One] at hone kh kw hll hl kr R0 hlab hrdb
                    obtain ⟨ya, yc, rfl, _⟩ := hone.held.form
                    have hfix : (RS.mk l 0 0).fixed 4 = (n, ⟨l, 4, 0⟩) := by
                      have := fixed_be (n : Int) 4 rr (by omega) (by simp; omega)
                      rw [hl]; simpa using this
                    have hl4 : 4 ≤ l.length := by rw [hl]; simp
                    have hleft : ((RS.mk l 4 0).left : Int) = l.length - 4 := by simp only [RS.left]; omega
                    have HL := Lib.hid hl
                    have HF := Lib.hid hfix
                    have HLE := Lib.hid hleft
                    have HFP := Lib.hid hitFP
                    have HLAB := Lib.hid hlab
                    have hghlt := L.hs.lt gh rfl
                    have hgwlt := L.ws.lt gw rfl
                    have hrblt := R0.blk.lt
                    have hnrb : ∀ z, lab z ≠ 1000 + n → ¬ z = rb := fun z hz e => hz (by rw [e]; exact HLAB.out)
                    have hnh := hnrb gh (by have := (L.hl gh rfl).1; omega)
                    have hnw := hnrb gw (by have := (L.wl gw rfl).1; omega)
                    have hnr := hnrb gr (by have := HO.out.1.1; omega)
                    have HNR := Lib.hid hnrb
                    clear hl hfix hleft hitFP hlab hnrb hrdb
                    go_wp2_with fail
                    refine wp_region_pin (fun _ => false) [8, 30] [5, 5, 7, 10] (Same (fun z => z = rb) wr) mixed (by kernel_rfl) (fun _ _ h e => h.ext e) (Same.refl _ _).drew ?_
                    simp only [wpSegs, List.take_succ_cons, List.take_zero, List.drop_succ_cons, List.drop_zero]
                    go_wp2_with fail
                    refine (out_any pb v T l _ (hone.wr.kept ((Chg.refl (fun _ => False) wr).drew) id (fun _ _ => id)) (by omega)).mono ?_
                    rintro e w4 ⟨rfl, O4, c4, _⟩
                    have c4' : Chg (fun _ => False) wr w4 := ((Chg.refl _ wr).drew).trans c4 fun _ _ h => h
                    have kh4 : w4.cell? ⟨gh, n, none⟩ = some (.slice ya l.length yc) := by rw [c4'.cell (p := ⟨gh, n, none⟩) hghlt id]; exact kh
                    have kr4 : w4.cell? ⟨gr, n, none⟩ = some (.pointer (some ⟨rb, 0, none⟩)) := by rw [c4'.cell (p := ⟨gr, n, none⟩) (O.lt gr rfl) id]; exact kr
                    go_wp2_with fail
                    refine SegQ.normal ⟨fun z o h _ => c4'.keep h id, ?_⟩
                    go_wp2_with fail
                    refine (eq_self_any _ _ l _ O4.rd (hone.held.rd.kept c4' (fun _ _ => id)) (by omega)).mono ?_
                    rintro e w5 ⟨rfl, hd5⟩
                    have c5 : Chg (fun _ => False) w4 w5 := hd5.chg _
                    have c5' : Chg (fun _ => False) wr w5 := c4'.trans c5 fun _ _ h => h
                    have kh5 : w5.cell? ⟨gh, n, none⟩ = some (.slice ya l.length yc) := by rw [c5'.cell (p := ⟨gh, n, none⟩) hghlt id]; exact kh
                    have kr5 : w5.cell? ⟨gr, n, none⟩ = some (.pointer (some ⟨rb, 0, none⟩)) := by rw [c5'.cell (p := ⟨gr, n, none⟩) (O.lt gr rfl) id]; exact kr
                    go_wp2_with fail
                    refine SegQ.normal ⟨fun z o h _ => c5'.keep h id, ?_⟩
                    go_wp2_with fail
                    refine (rdu32_any rb rv rT ⟨l, 0, 0⟩ _ (R0.calm c5')).mono ?_
                    rw [HF.out]
                    rintro e w6 ⟨rfl, R6, c6⟩
                    have c6' : Chg (fun z => z = rb) wr w6 := (c5'.mono fun _ _ h => h.elim).trans c6 fun _ _ h => h
                    have kh6 : w6.cell? ⟨gh, n, none⟩ = some (.slice ya l.length yc) := by rw [c6'.cell (p := ⟨gh, n, none⟩) hghlt hnh]; exact kh
                    have kr6 : w6.cell? ⟨gr, n, none⟩ = some (.pointer (some ⟨rb, 0, none⟩)) := by rw [c6'.cell (p := ⟨gr, n, none⟩) (O.lt gr rfl) hnr]; exact kr
                    clear kh5 kr5
                    go_wp2_with fail
                    refine SegQ.normal ⟨fun z o h hz => c6'.keep h hz, ?_⟩
                    go_wp2_with fail
                    refine (rleft_any rb rv rT met ⟨l, 4, 0⟩ _ R6).mono ?_
                    rw [HLE.out]
                    rintro e w7 ⟨rfl, hd7⟩
                    have c7' : Chg (fun z => z = rb) wr w7 := c6'.trans (hd7.chg (fun z => z = rb)) fun _ _ h => h
                    have kh7 : w7.cell? ⟨gh, n, none⟩ = some (.slice ya l.length yc) := by rw [c7'.cell (p := ⟨gh, n, none⟩) hghlt hnh]; exact kh
                    clear kh6 kr6
                    go_wp2_with fail
                    refine SegQ.normal ⟨fun z o h hz => c7'.keep h hz, ?_⟩
                    go_wp2_with fail
                    refine TQ.normal (by kernel_rfl) ⟨⟨PinAt.cell rfl rfl rfl kh hnh (fun X h => by go_simp), PinAt.cell rfl rfl rfl kh hnh (fun X h => by go_simp), trivial⟩, ?_⟩
                    go_wp2_with fail
                    have hW : W.heap.size ≤ rb := by
                      rcases Nat.lt_or_ge rb W.heap.size with h1 | h1
                      · have := D.old rb h1; have := HLAB.out; omega
                      · exact h1
                    go_roundw
                    case rel =>
                      refine ⟨n + 1, by omega, by go_num, D.turn (fun _ _ => rfl) (c7'.mono fun z _ hz => ?_), ⟨L.ws.kept c7' (fun z hz h => ?_), L.hs.kept c7' (fun z hz h => ?_), L.wl, L.hl, L.ne⟩, R.turn (by omega) (fun _ _ => rfl) c7' (fun z hz => ?_), O.kept c7' (fun z hz h => ?_)⟩
                      · have hz : z = rb := hz
                        subst hz
                        exact ⟨fun i hi h => by have := HLAB.out; omega, hW⟩
                      · simp [Value.ownBlock] at hz; subst hz; exact hnw h
                      · simp [Value.ownBlock] at hz; subst hz; exact hnh h
                      · have hz : z = rb := hz
                        subst hz
                        exact ⟨by have := HLAB.out; omega, fun i hi => by have := HLAB.out; omega⟩
                      · simp [Value.ownBlock] at hz; subst hz; exact hnr h
                    case measure => simp [intOf]; omega
                  · obtain rfl : n = m := by omega
                    go_wp2_with fail
                    go_ret
                    exact ⟨rfl, D.ch⟩
end Go.Proofs.Ytnfmeaifbankjaa
