import Derived.Test.YtafgeppdchnceaaDoorKeyed
set_option linter.unusedVariables false
namespace Go.Sat
open Go Go.RowKit
theorem wpl_part {P : Program} {ops : Array Oper} {rest : List Oper} {o : Oper} {a : Act} {Q : Exit → Act → World → Prop} {w : World} (hw : Region.wanted o (yielded ops a.tmps) = true) (t : TypeId) (x lo hi : Operand)
    (ho : o.op = .slice t x (some lo) (some hi) none) {e : TypeId} (ht : P.underlying t = some (.slice e)) (hsz : ∀ w, (sizeOf e).run P w = .ok 1 w) {ao : Option Addr} {n c : Nat} {l : List UInt8} (hx : a.eval x = .slice ao n c) (hr : Rd w (.slice ao n c) l)
    {i j : Int} (l0 h0 : Nat) (hlo : a.eval lo = .int .i64 i) (hhi : a.eval hi = .int .i64 j) (hi0 : i = l0) (hj0 : j = h0) (h1 : l0 ≤ h0) (h2 : h0 ≤ l.length)
    (h : ∀ y, Rd w y ((l.drop l0).take (h0 - l0)) → (∀ k, rdb y = some k → rdb (.slice ao n c) = some k) → wpList P ops Q rest (a.put o.dst y) w) : wpList P ops Q (o :: rest) a w := by
  subst hi0 hj0
  have hp := hr.part h1 h2
  have hc : l.length ≤ c ∧ n = l.length := by
    obtain ⟨ao', c', e1, e2⟩ := hr.form
    injection e1 with e3 e4 e5
    omega
  have he : P.elem t = e := by simp [Program.elem, ht]
  have hrun : (Instr.slice t (.slice ao n c) (some (.int .i64 (l0 : Int))) (some (.int .i64 (h0 : Int))) none).run P w = .ok (.slice (ao.map fun a => if c = l0 then a else a.add l0) (h0 - l0) (c - l0)) w := by
    rw [run_slice_lh w t ao n c (by rw [he]; exact ht) .i64 .i64 l0 h0 (by omega) (by omega) (by omega), he, hsz]
    simp [sliced]
    split
    · cases ao <;> rfl
    · rfl
  have hrun2 : (Instr.sliceAt t (.slice ao n c) (some (.int .i64 (l0 : Int))) (some (.int .i64 (h0 : Int))) none).run P w = .ok (.slice (ao.map fun a => if c = l0 then a else a.add l0) (h0 - l0) (c - l0)) w := by
    rw [run_sliceAt_slice _ _ _ _ _ _ (by rw [he]; exact ht)]; exact hrun
  refine BigFrame.wpList_want hw fun K hK => ?_
  unfold Oper.wp execOp
  have := hK _ _ (h _ hp fun k hk => ?_)
  · simpa [ho, hlo, hhi, hx, hrun2, Oper.upon] using this
  · cases ao with
    | none => simp [rdb] at hk
    | some a =>
      simp only [rdb, Option.map_some] at hk ⊢
      split at hk
      · cases hk
      · rw [if_neg (by omega)]
        rw [← hk]
        split
        · rfl
        · unfold Addr.add; split <;> rfl
end Go.Sat
namespace Go.Proofs.YtafgeppdchnceaaDoor
open Go Go.RowKit Go.Sat
theorem eql_id {l r : List UInt8} (hl : l.length = 32) (hr : r.length = 32) (w : World) : (Op.equalIn 10000 34 (.agg (bcells l).toArray) (.agg (bcells r).toArray)).run Tryd.prog w = .ok (l == r) w :=
  eql_arr Tryd.underlying34 Tryd.underlying5 Tryd.sizeOf5 hl hr
theorem eql_dg (l : List UInt8) (w : World) : (Op.equalIn 10000 34 (.agg (bcells (dg l)).toArray) (.agg (bcells (dg l)).toArray)).run Tryd.prog w = .ok true w := by
  rw [eql_id (dg_length l) (dg_length l)]; simp
theorem sum_arr (x : Value) (l : List UInt8) (w : World) (hL : Laid w) (hx : Rd w x l) (hl : l.length ≤ 4000000000000000000) :
    Calls Tryd.prog 16 #[x] w fun e w' => e = .returned (.agg (bcells (dg l)).toArray) ∧ Chg (fun _ => False) w w' := dsum_any x l w hL hx hl
theorem done_arr (pb : Nat) (d : List UInt8) (w : World) (hI : Hs w pb d) (hL : Laid w) (h2 : 2 < pb) (hd : d.length ≤ 4000000000000000000) :
    Calls Tryd.prog 15 #[.pointer (some ⟨pb, 0, none⟩)] w fun e w' => e = .returned (.agg (bcells (dg d)).toArray) ∧ Chg (fun _ => False) w w' := hdone_any pb d w hI hL h2 hd
set_option maxRecDepth 100000 in
theorem within_any (n m : Int) (w : World) (hm : 0 < m) (hm1 : m ≤ 281474976710656) :
    Calls Tryd.prog 11 #[.int .i64 n, .int .i64 m] w fun e w' => (∃ r : Nat, e = .returned (.int .i64 r) ∧ (r : Int) < m) ∧ w = w' := by
  have a1 := Int.tmod_lt_of_pos n hm
  have a2 : -m < n.tmod m := by
    have := Int.tmod_lt_of_pos (-n) hm
    rw [Int.neg_tmod] at this
    omega
  have hz : (m == 0) = false := by simp; omega
  have h3 := Int.emod_nonneg (n.tmod m + m) (show m ≠ 0 by omega)
  have h4 := Int.emod_lt_of_pos (n.tmod m + m) hm
  have H3 := Lib.hid h3
  have H4 := Lib.hid h4
  clear h3 h4
  go_enter Tryd.func11, Tryd.ntmps11
  go_wp2_with fail
  go_ret
  exact ⟨⟨((n.tmod m + m) % m).toNat, by rw [Int.toNat_of_nonneg H3.out]; rfl, by rw [Int.toNat_of_nonneg H3.out]; exact H4.out⟩, rfl⟩
/-- What was written to the other Hash. -/
def besideL (n : Nat) : List UInt8 := (List.range n).flatMap fun i => [1, UInt8.ofNat i]
theorem besideL_succ (n : Nat) : besideL (n + 1) = besideL n ++ [1, UInt8.ofNat n] := by simp [besideL, List.range_succ]
theorem besideL_length (n : Nat) : (besideL n).length = 2 * n := by
  induction n with
  | zero => rfl
  | succ n ih => rw [besideL_succ]; simp [ih]; omega
/-- The state at the loop's head. -/
structure StreamInv (W w : World) (p1 p2 : Nat) (box : Array Value) (d : List UInt8) (b : Value) (i at_ : Nat) : Prop where
  h1 : Hs w p1 (d.take at_)
  h2 : Hs w p2 (besideL i)
  own : Own w 5 1 b (2 * i) (bcells (besideL i))
  sep : ∀ q, b.ownBlock = some q → p2 < q
  box : Blk w W.heap.size 25 box
  chg : Chg (fun _ => False) W w
set_option maxRecDepth 100000 in
set_option maxHeartbeats 4000000 in
theorem stream_walk (vd vk vc : Value) (d : List UInt8) (cuts : List Int) (W : World) (hL : Laid W) (hd : Rd W vd d) (hc : Sl W 1 vc cuts.length (cuts.map (Value.int .i64))) (hdl : d.length ≤ 140737488351232) (hcl : cuts.length ≤ 140737488351232) :
    Calls Tryd.prog 3 #[.agg #[vd, vk, vc]] W fun e w' => e = .returned (.bool true) ∧ Chg (fun _ => False) W w' := by
  have hs2 := hL.size
  have hdlt := hd.lt
  have Cb : Chg (fun _ => False) W (W.alloc (.cells #[vd, vk, vc] 25)) := (Chg.refl _ W).alloc _
  have B0 : Blk (W.alloc (.cells #[vd, vk, vc] 25)) W.heap.size 25 #[vd, vk, vc] := Blk.new W _ _
  have L0 := hL.kept Cb id id
  have hsz0 : W.heap.size < (W.alloc (.cells #[vd, vk, vc] 25)).heap.size := by simp
  go_enter Tryd.func3, Tryd.ntmps3
  go_wp2_with fail
  generalize W.alloc (.cells #[vd, vk, vc] 25) = w0 at *
  ((with_reducible refine (hnew_any w0 L0).mono ?_); rintro e wa ⟨rfl, Ha, Ca⟩)
  have LA := L0.kept Ca id id
  have hga := Ha.lt
  go_wp2_with fail
  ((with_reducible refine (hnew_any wa LA).mono ?_); rintro e wb ⟨rfl, Hb, Cbb⟩)
  have LB := LA.kept Cbb id id
  have hgb := Hb.lt
  have Ha2 := Ha.kept Cbb id
  have BB := (B0.kept Ca id).kept Cbb id
  have CB : Chg (fun _ => False) W wb := (Cb.trans Ca (fun _ _ h => h)).trans Cbb (fun _ _ h => h)
  have hrl : W.heap.size < w0.heap.size := hsz0
  clear Ha LA L0 Ca Cbb B0 Cb hsz0
  generalize w0.heap.size = p1 at *
  generalize wa.heap.size = p2 at *
  clear w0 wa
  go_wp2_with fail
  ((with_reducible refine (right_any wb LB).mono ?_); rintro e wc ⟨rfl, Cc⟩)
  have LC := LB.kept Cc id id
  have hgc : p2 < wc.heap.size := Nat.lt_of_lt_of_le hgb Cc.size
  have I0 : StreamInv W wc p1 p2 #[vd, vk, vc] d (.slice none 0 0) 0 0 := ⟨by simpa using Ha2.kept Cc id, by simpa [besideL] using Hb.kept Cc id, World.ownsRow_nil _ 0 _ 1, fun q hq => by simp [Value.ownBlock] at hq, BB.kept Cc id, CB.trans Cc (fun _ _ h => h)⟩
  clear LB Ha2 Hb BB CB Cc
  go_wp2_with fail
  obtain ⟨M, hM1, hM2, hM3⟩ : ∃ M : Nat, M ≤ cuts.length ∧ M ≤ 4096 ∧ (M = cuts.length ∨ M = 4096) := by
    by_cases h : cuts.length ≤ 4096
    · exact ⟨cuts.length, by omega, h, .inl rfl⟩
    · exact ⟨4096, by omega, by omega, .inr rfl⟩
  obtain ⟨ca, cc, rfl⟩ : ∃ ca cc, vc = .slice ca cuts.length cc := by
    rcases hc.val with ⟨h0, ao, c, rfl, _⟩ | ⟨b, off, c, rfl, _⟩
    · exact ⟨ao, c, by rw [h0]⟩
    · exact ⟨_, c, rfl⟩
  obtain ⟨da, dc, rfl, _⟩ := hd.form
  have HM3 := Lib.hid hM3
  clear hM3
  go_loopw [5, 6, 7] (fun s5 s6 s7 wr => ∃ i a : Nat, i ≤ M + 1 ∧ a ≤ d.length ∧ (i = M + 1 → a = d.length) ∧ s5 = .int .i64 a ∧ s7 = .int .i64 i ∧ StreamInv W wr p1 p2 #[.slice da d.length dc, vk, .slice ca cuts.length cc] d s6 i a) (fun _ _ s7 _ => M + 1 - (intOf s7).toNat)
  case atStart => exact ⟨0, 0, by omega, by omega, by omega, rfl, rfl, I0⟩
  case round =>
    clear I0
    obtain ⟨i, a, hi, ha, hlast, rfl, rfl, I⟩ := hrel
    obtain ⟨h1, h2, own, sep, box, chg⟩ := I
    have cD : wr.cell? ⟨W.heap.size, 0, none⟩ = some (.slice da d.length dc) := by rw [box.cell]; rfl
    have cC : wr.cell? ⟨W.heap.size, 2, none⟩ = some (.slice ca cuts.length cc) := by rw [box.cell]; rfl
    have LR := hL.kept chg id id
    have RD := hd.kept chg (fun _ _ => id)
    have hbx := box.lt
    by_cases hin : i ≤ M
    · obtain ⟨n0, hn0⟩ : ∃ n0 : Nat, (d.length : Int) - (a : Int) = (n0 : Int) := ⟨d.length - a, by omega⟩
      have hcase : (i < M ∧ i < cuts.length ∧ i < 4096) ∨ (i = M ∧ i < cuts.length ∧ ¬ i < 4096) ∨ (i = M ∧ ¬ i < cuts.length) := by
        have := HM3.out; omega
      rcases hcase with hA | hA | hA
      all_goals
        first
        | (obtain ⟨him, h1c, h2c⟩ : i < M ∧ i < cuts.length ∧ i < 4096 := hA
           obtain ⟨cb, co, rfl, cI⟩ : ∃ cb co, ca = some ⟨cb, co, none⟩ ∧ wr.cell? ⟨cb, co + i, none⟩ = some (.int .i64 cuts[i]) := by
             rcases hc.val with ⟨h0, _⟩ | ⟨b, off, c, h0, _, _, hcell⟩
             · omega
             · injection h0 with e1 e2 e3
               have g := hcell i (.int .i64 cuts[i]) (by simp [h1c])
               exact ⟨b, off, e1, by rw [chg.cell (p := ⟨b, off + i, none⟩) (World.block_lt_of_cell? W _ g) id]; exact g⟩
           generalize cuts[i] = cut at *
           go_wp2_with fail
           ((with_reducible refine (within_any cut _ wr (by omega) (by omega)).mono ?_); rintro e w' ⟨⟨n, rfl, hn⟩, rfl⟩)
           have hnl : a + n ≤ d.length := by omega
           have hnn : i = M → a + n = d.length := fun h => by omega
           go_wp2_with (first | ((with_reducible show wpList _ _ _ (⟨some 62, _, _, _, _, _⟩ :: _) _ _); refine Shut.out ?_) | fail)
           clear cI hn)
        | (obtain ⟨him, h1c, h2c⟩ : i = M ∧ i < cuts.length ∧ ¬ i < 4096 := hA
           have hdc : decide ((i : Int) < 4096) = false := by simp; omega
           clear him h2c
           go_wp2_with (first | ((with_reducible show wpList _ _ _ (⟨some 62, _, _, _, _, _⟩ :: _) _ _); refine Shut.out ?_) | fail)
           clear hdc
           obtain ⟨n, rfl⟩ : ∃ n, n = n0 := ⟨_, rfl⟩
           have hnl : a + n ≤ d.length := by omega
           have hnn : i = M → a + n = d.length := fun h => by omega)
        | (obtain ⟨him, h1c⟩ : i = M ∧ ¬ i < cuts.length := hA
           clear him
           go_wp2_with (first | ((with_reducible show wpList _ _ _ (⟨some 62, _, _, _, _, _⟩ :: _) _ _); refine Shut.out ?_) | fail)
           obtain ⟨n, rfl⟩ : ∃ n, n = n0 := ⟨_, rfl⟩
           have hnl : a + n ≤ d.length := by omega
           have hnn : i = M → a + n = d.length := fun h => by omega)
      all_goals
        show wpList _ _ _ _ _ _
        have hpl : ((d.drop a).take n).length = n := by simp; omega
        have hpt : d.take a ++ (d.drop a).take n = d.take (a + n) := by rw [List.take_add]
        have HPT := Lib.hid hpt
        clear hpt hn0
        go_wp2_with (first | ((with_reducible show wpList _ _ _ (⟨some 62, _, _, _, _, _⟩ :: _) _ _); refine wpl_part rfl 22 (.tmp 57) (.tmp 58) (.tmp 61) rfl Tryd.underlying22 sizeU8 rfl RD a (a + n) rfl rfl rfl (by omega) (by omega) hnl ?_; intro y hy hys; rw [Nat.add_sub_cancel_left] at hy) | fail)
        generalize hpe : (d.drop a).take n = pc at *
        have HPE := Lib.hid hpe
        clear hpe
        ((with_reducible refine (lend_any y pc wr hy (by omega)).mono ?_); rintro e w1 ⟨g, cap, rfl, HLe, C1, hg⟩)
        have LR1 := LR.kept C1 id id
        have RD1 := RD.kept C1 (fun _ _ => id)
        have h11 := h1.kept C1 id
        have h21 := h2.kept C1 id
        have own1 := own.kept C1 (fun _ _ => id)
        have box1 := box.kept C1 id
        have chg1 := chg.trans C1 (fun _ _ h => h)
        have hp2r := h2.lt
        have sepg : ∀ q, q = g → ¬ u6.ownBlock = some q := fun q e hq => by have := own.lt q hq; omega
        clear h1 h2 own box chg cD cC LR RD C1 hy hys
        go_wp2_with fail
        have hW := hwrite_any p1 (d.take a) pc (.slice (some ⟨g, 0, none⟩) pc.length cap) w1 h11 LR1 HLe.rd (fun q hq => by have : g = q := Option.some.inj (rdb_own hq); omega) (by omega) (by rw [List.length_take]; omega) (by omega)
        rw [hpl] at hW
        ((with_reducible refine hW.mono ?_); rintro e w2 ⟨rfl, h12, C2⟩)
        clear hW
        rw [HPT.out] at h12
        have LR2 := LR1.kept C2 (by omega) (by omega)
        have RD2 := RD1.kept C2 (fun q hq => by have := hdlt q hq; omega)
        have h22 := h21.kept C2 (by omega)
        have own2 := own1.kept C2 (fun q hq => by have := sep q hq; omega)
        have box2 := box1.kept C2 (by omega)
        have chg2 : Chg (fun _ => False) W w2 := chg1.trans C2 (fun q hq h => by omega)
        have HLe2 : Lent w2 g cap pc := ⟨HLe.own.kept C2 (fun q hq => by simp [Value.ownBlock] at hq; omega)⟩
        have cD2 : w2.cell? ⟨W.heap.size, 0, none⟩ = some (.slice da d.length dc) := by rw [box2.cell]; rfl
        clear h11 h21 own1 box1 chg1 LR1 RD1 C2 HLe
        go_wp2_with (first | ((with_reducible show wpList _ _ _ (⟨some 74, _, _, _, _, _⟩ :: _) _ _); refine wpl_part rfl 22 (.tmp 69) (.tmp 70) (.tmp 73) rfl Tryd.underlying22 sizeU8 rfl RD2 a (a + n) rfl rfl rfl (by omega) (by omega) hnl ?_; intro y2 hy2 hys2; rw [Nat.add_sub_cancel_left, HPE.out] at hy2) | fail)
        have hint := intact_any g cap y2 pc w2 HLe2 hy2 (by omega)
        rw [hpl] at hint
        ((with_reducible refine hint.mono ?_); rintro e w' ⟨rfl, rfl⟩)
        clear hint hy2 hys2
        go_wp2_with fail
        have O0 : ∃ xs, Own w2 5 1 (.slice (some ⟨g, 0, none⟩) (n + 3) cap) (n + 3) xs := ⟨_, by have := HLe2.own; rw [hpl] at this; exact this⟩
        clear HLe2
        go_loopw [10] (fun s wr2 => ∃ k : Nat, k ≤ n ∧ s = .int .i64 k ∧ (∃ xs, Own wr2 5 1 (.slice (some ⟨g, 0, none⟩) (n + 3) cap) (n + 3) xs) ∧ Chg (fun q => q = g) w2 wr2) (fun s _ => n - (intOf s).toNat)
        case atStart => exact ⟨0, by omega, rfl, O0, Chg.refl _ _⟩
        case round =>
          clear O0
          obtain ⟨k, hk, rfl, ⟨xs, O⟩, C3⟩ := hrel
          by_cases hkn : k < n
          · obtain ⟨O', f, c⟩ := O.store (i := k) (by omega) (.int .u8 238)
            have hx : xs.length = n + 3 := by simpa using O.1
            rw [List.getElem?_eq_getElem (by omega)] at c
            generalize xs[k] = xk at *
            clear hx
            go_wp2_with fail
            go_roundw
            case rel => exact ⟨k + 1, by omega, by go_num, ⟨_, O'⟩, C3.setCell (.inr rfl) _⟩
            case measure => simp [intOf]; omega
          · have hkn' : n = k := by omega
            subst hkn'
            have LR3 := LR2.kept C3 (by omega) (by omega)
            have RD3 := RD2.kept C3 (fun q hq => by have := hdlt q hq; omega)
            have h13 := h12.kept C3 (by omega)
            have h23 := h22.kept C3 (by omega)
            have own3 := own2.kept C3 (fun q hq e => sepg q e hq)
            have box3 := box2.kept C3 (by omega)
            have chg3 : Chg (fun _ => False) W wr := chg2.trans C3 (fun q hq h => by omega)
            clear LR2 RD2 h12 h22 own2 box2 chg2 C3 O cD2
            go_wp2_with fail
            have hby : (i : Int) % 256 = ((UInt8.ofNat i).toNat : Int) := byte_of i
            have hx4 : Rd (wr.alloc (.cells #[.int .u8 1, .int .u8 ((i : Int) % 256)] 5)) (.slice (some ⟨wr.heap.size, 0, none⟩) 2 2) [1, UInt8.ofNat i] := by
              rw [hby]; exact Sl.built wr #[.int .u8 1, .int .u8 ((UInt8.ofNat i).toNat : Int)] 5 1 2 rfl (by simp [Value.oneCell']) (by unfold maxLen; omega)
            have C4 : Chg (fun _ => False) wr (wr.alloc (.cells #[.int .u8 1, .int .u8 ((i : Int) % 256)] 5)) := (Chg.refl _ wr).alloc _
            have hp23 := h23.lt
            have hW := hwrite_any p2 (besideL i) [1, UInt8.ofNat i] _ _ (h23.kept C4 id) (LR3.kept C4 id id) hx4 (fun q hq => by have : wr.heap.size = q := Option.some.inj (rdb_own hq); omega) (by omega) (by rw [besideL_length]; omega) (by simp)
            rw [← besideL_succ] at hW
            have HBY := Lib.hid hby
            clear hby hx4
            ((with_reducible refine hW.mono ?_); rintro e w5 ⟨rfl, h25, C5⟩)
            have C45 : Chg (fun q => q = p2) wr w5 := (C4.mono fun _ _ h => h.elim).trans C5 (fun _ _ h => h)
            have LR5 := LR3.kept C45 (by omega) (by omega)
            have RD5 := RD3.kept C45 (fun q hq => by have := hdlt q hq; omega)
            have h15 := h13.kept C45 (by omega)
            have own5 := own3.kept C45 (fun q hq => by have := sep q hq; omega)
            have box5 := box3.kept C45 (by omega)
            have chg5 : Chg (fun _ => False) W w5 := chg3.trans C45 (fun q hq h => by omega)
            obtain ⟨ba, bc, rfl, _⟩ := own5.form
            clear hW C4 C5 C45 h13 h23 LR3 RD3 own3 box3 chg3
            go_wp2_with ((with_reducible show wpList _ _ _ (⟨some 94, _, _, _, _, _⟩ :: _) _ _); refine wpl_append (o := ⟨some 94, _, _, _, _, _⟩) rfl (.tmp 90) (.tmp 93) 22 rfl tyBytes (own5.alloc _) (Sl.built w5 #[.int .u8 1, .int .u8 ((i : Int) % 256)] 5 1 2 rfl (by simp [Value.oneCell']) (by unfold maxLen; omega)) rfl rfl (by unfold maxLen; omega) (by omega) ?_; intro na nc w6 O6 hgr6 hblk6)
            have own6 : Own w6 5 1 (.slice na (2 * i + 2) nc) (2 * (i + 1)) (bcells (besideL (i + 1))) := O6.cast (by omega) (by rw [HBY.out, besideL_succ]; simp [bcells])
            have C6 : Chg (fun q => (Value.slice ba (2 * i) bc).ownBlock = some q) w5 w6 := ((Chg.refl _ w5).alloc _).grown hgr6 (fun q hq => .inr hq)
            have sep6 : ∀ q, (Value.slice na (2 * i + 2) nc).ownBlock = some q → p2 < q := fun q hq => by
              rcases hblk6 with e | e
              · rw [e] at hq; exact sep q hq
              · rw [e] at hq; have := h25.lt; simp at hq; omega
            have LR6 := LR5.kept C6 (fun e => by have := sep _ e; omega) (fun e => by have := sep _ e; omega)
            have RD6 := RD5.kept C6 (fun q hq e => by have := hdlt q hq; have := sep _ e; omega)
            have h16 := h15.kept C6 (fun e => by have := sep _ e; omega)
            have h26 := h25.kept C6 (fun e => by have := sep _ e; omega)
            have box6 := box5.kept C6 (fun e => by have := sep _ e; omega)
            have chg6 : Chg (fun _ => False) W w6 := chg5.trans C6 (fun q hq e => by have := sep _ e; omega)
            have cD6 : w6.cell? ⟨W.heap.size, 0, none⟩ = some (.slice da d.length dc) := by rw [box6.cell]; rfl
            have hi2 : 2 * i + 2 = 2 * (i + 1) := by omega
            have HIG := Lib.hid hgr6
            have HIB := Lib.hid hblk6
            clear O6 hgr6 hblk6 LR5 RD5 h15 h25 own5 box5 chg5 sep C6 hi2
            have hpt2 : (d.take (a + n)).length = a + n := by simp; omega
            have hed := fun w => eql_dg (d.take (a + n)) w
            by_cases h3 : i % 3 = 0
            · have hq3 : ((i : Int) % 3 == 0) = true := by simp; omega
              have hq3' : (!((i : Int) % 3 == 0)) = false := by simp; omega
              go_wp2_with fail
              refine wp_region_pin (fun o => o.dst == some 109) [7] [6, 5] (Same (fun _ => False) w6) mixed (by kernel_rfl) (fun _ _ h e => h.ext e) (Same.refl _ _).drew ?_
              simp only [wpSegs, List.take_succ_cons, List.take_zero, List.drop_succ_cons, List.drop_zero]
              go_wp2_with fail
              ((with_reducible refine (done_arr p1 (d.take (a + n)) _ h16.drew (LR6.kept ((Chg.refl (fun _ => False) w6).drew) id id) (by omega) (by omega)).mono ?_); rintro e w7 ⟨rfl, C7⟩)
              have C7' : Chg (fun _ => False) w6 w7 := (Chg.refl _ w6).drew.trans C7 (fun _ _ h => h)
              have cD7 : w7.cell? ⟨W.heap.size, 0, none⟩ = some (.slice da d.length dc) := by rw [C7'.cell (p := ⟨W.heap.size, 0, none⟩) (by have := box6.lt; exact this) id]; exact cD6
              have RD7 := RD6.kept C7' (fun _ _ => id)
              have LR7 := LR6.kept C7' id id
              have HC7 := Lib.hid C7'
              clear C7 C7'
              go_wp2_with fail
              refine SegQ.normal ⟨fun z o h _ => HC7.out.keep h id, ?_⟩
              go_wp2_with (first | ((with_reducible show wpList _ _ _ (⟨some 107, _, _, _, _, _⟩ :: _) _ _); refine wpl_upto rfl 22 (.tmp 105) (.tmp 106) rfl Tryd.underlying22 sizeU8 rfl RD7 (a + n) rfl rfl hnl ?_; intro y7 hy7) | fail)
              ((with_reducible refine (sum_arr _ (d.take (a + n)) w7 LR7 hy7 (by omega)).mono ?_); rintro e w8 ⟨rfl, C8⟩)
              have HC8 := Lib.hid (HC7.out.trans C8 (fun _ _ h => h))
              clear C8
              go_wp2_with fail
              refine SegQ.normal ⟨fun z o h _ => HC8.out.keep h id, ?_⟩
              go_wp2_with fail
              refine TQ.normal (by kernel_rfl) ⟨⟨PinAt.cell rfl rfl rfl cD6 id (fun X h => by go_simp), trivial⟩, ?_⟩
              go_wp2_with fail
              exact ⟨⟨i + 1, a + n, by omega, by omega, fun h => hnn (by omega), by go_num, by go_num, ⟨h16.kept HC8.out id, h26.kept HC8.out id, own6.kept HC8.out (fun _ _ => id), sep6, box6.kept HC8.out id, chg6.trans HC8.out (fun _ _ h => h)⟩⟩, by simp [intOf]; omega⟩
            · have hq3 : ((i : Int) % 3 == 0) = false := by simp; omega
              go_wp2_with fail
              refine wp_region_pin (fun o => o.dst == some 109) [7] [6, 5] (Same (fun _ => False) w6) mixed (by kernel_rfl) (fun _ _ h e => h.ext e) (Same.refl _ _).drew ?_
              simp only [wpSegs, List.take_succ_cons, List.take_zero, List.drop_succ_cons, List.drop_zero]
              have C8 : Chg (fun _ => False) w6 w6.drew := (Chg.refl _ w6).drew
              go_wp2_with fail
              refine SegQ.normal ⟨fun z o h _ => h, ?_⟩
              go_wp2_with fail
              refine SegQ.normal ⟨fun z o h _ => h, ?_⟩
              go_wp2_with fail
              refine TQ.normal (by kernel_rfl) ⟨⟨fun o ho hw => by cases ho; exact Bool.noConfusion (show false = true from hw), trivial⟩, ?_⟩
              go_wp2_with fail
              exact ⟨⟨i + 1, a + n, by omega, by omega, fun h => hnn (by omega), by go_num, by go_num, ⟨h16.kept C8 id, h26.kept C8 id, own6.kept C8 (fun _ _ => id), sep6, box6.kept C8 id, chg6.trans C8 (fun _ _ h => h)⟩⟩, by simp [intOf]; omega⟩
    · have hiM : i = M + 1 := by omega
      obtain rfl := hlast hiM
      rw [List.take_length] at h1
      have hil : i ≤ 4097 := by omega
      have hex : (decide (i ≤ cuts.length) = false) ∨ (i ≤ cuts.length ∧ decide ((i : Int) ≤ 4096) = false) := by
        have := HM3.out
        by_cases h : i ≤ cuts.length
        · exact .inr ⟨h, by simp; omega⟩
        · exact .inl (by simp; omega)
      clear hlast hi ha hin hiM
      have ed := fun w => eql_dg d w
      have eb := fun w => eql_dg (besideL i) w
      rcases hex with e | ⟨e, e2⟩
      all_goals
        go_wp2_with fail
        refine wp_region_pin (fun o => o.dst == some 116 || o.dst == some 122 || o.dst == some 129) [3] [2, 3, 4, 2, 5, 2] (Same (fun _ => False) wr) mixed (by kernel_rfl) (fun _ _ h e => h.ext e) (Same.refl _ _).drew ?_
        simp only [wpSegs, List.take_succ_cons, List.take_zero, List.drop_succ_cons, List.drop_zero]
        have C0 : Chg (fun _ => False) wr wr.drew := (Chg.refl _ wr).drew
        go_wp2_with fail
        ((with_reducible refine (done_arr p1 d _ h1.drew (LR.kept C0 id id) (by omega) (by omega)).mono ?_); rintro e w1 ⟨rfl, C1⟩)
        have D1 := C0.trans C1 (fun _ _ h => h)
        have K1 := Lib.hid D1
        have cD1 : w1.cell? ⟨W.heap.size, 0, none⟩ = some (.slice da d.length dc) := by rw [D1.cell (p := ⟨W.heap.size, 0, none⟩) hbx id]; exact cD
        clear C0 C1 D1
        go_wp2_with fail
        refine SegQ.normal ⟨fun z o h _ => K1.out.keep h id, ?_⟩
        go_wp2_with fail
        ((with_reducible refine (sum_arr _ d w1 (LR.kept K1.out id id) (RD.kept K1.out (fun _ _ => id)) (by omega)).mono ?_); rintro e w2 ⟨rfl, C2⟩)
        have K2 := Lib.hid (K1.out.trans C2 (fun _ _ h => h))
        clear C2
        go_wp2_with fail
        refine SegQ.normal ⟨fun z o h _ => K2.out.keep h id, ?_⟩
        go_wp2_with fail
        ((with_reducible refine (done_arr p1 d w2 (h1.kept K2.out id) (LR.kept K2.out id id) (by omega) (by omega)).mono ?_); rintro e w3 ⟨rfl, C3⟩)
        have K3 := Lib.hid (K2.out.trans C3 (fun _ _ h => h))
        clear C3
        go_wp2_with fail
        refine SegQ.normal ⟨fun z o h _ => K3.out.keep h id, ?_⟩
        go_wp2_with fail
        ((with_reducible refine (done_arr p1 d w3 (h1.kept K3.out id) (LR.kept K3.out id id) (by omega) (by omega)).mono ?_); rintro e w4 ⟨rfl, C4⟩)
        have K4 := Lib.hid (K3.out.trans C4 (fun _ _ h => h))
        clear C4
        go_wp2_with fail
        refine SegQ.normal ⟨fun z o h _ => K4.out.keep h id, ?_⟩
        go_wp2_with fail
        ((with_reducible refine (done_arr p2 (besideL i) w4 (h2.kept K4.out id) (LR.kept K4.out id id) (by omega) (by rw [besideL_length]; omega)).mono ?_); rintro e w5 ⟨rfl, C5⟩)
        have K5 := Lib.hid (K4.out.trans C5 (fun _ _ h => h))
        clear C5
        go_wp2_with fail
        refine SegQ.normal ⟨fun z o h _ => K5.out.keep h id, ?_⟩
        have hrb : Rd w5 u6 (besideL i) := Own.rd (e := 5) ((own.kept K5.out (fun _ _ => id)).cast (besideL_length i).symm rfl)
        go_wp2_with fail
        ((with_reducible refine (sum_arr _ (besideL i) w5 (LR.kept K5.out id id) hrb (by rw [besideL_length]; omega)).mono ?_); rintro e w6 ⟨rfl, C6⟩)
        have K6 := Lib.hid (K5.out.trans C6 (fun _ _ h => h))
        clear C6
        go_wp2_with fail
        refine SegQ.normal ⟨fun z o h _ => K6.out.keep h id, ?_⟩
        go_wp2_with fail
        refine TQ.normal (by kernel_rfl) ⟨⟨PinAt.cell rfl rfl rfl cD id (fun X h => by go_simp), trivial⟩, ?_⟩
        go_wp2_with fail
        go_ret
        exact ⟨rfl, chg.trans K6.out (fun _ _ h => h)⟩
end Go.Proofs.YtafgeppdchnceaaDoor
