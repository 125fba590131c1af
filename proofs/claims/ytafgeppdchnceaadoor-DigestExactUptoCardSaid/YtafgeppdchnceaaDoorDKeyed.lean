import Derived.Test.YtafgeppdchnceaaDoorStream
import Derived.Deep.DeepCutAuto
set_option linter.unusedVariables false
namespace Go.Sat
open Go Go.RowKit
/-- The key that is laid out: itself, or its digest. -/
def shortKey (k : List UInt8) : List UInt8 := if 64 < k.length then dg k else k
theorem shortKey_length (k : List UInt8) : (shortKey k).length ≤ 64 := by
  unfold shortKey
  split
  · rw [dg_length]; decide
  · omega
theorem padKey_short (k : List UInt8) : padKey (shortKey k) = padKey k := by
  have h := shortKey_length k
  unfold padKey
  rw [if_neg (by omega)]
  rfl
theorem padKey_eq {k : List UInt8} (h : k.length ≤ 64) : padKey k = k ++ List.replicate (64 - k.length) 0 := by
  unfold padKey; rw [if_neg (by omega)]
theorem padKey_zero {k : List UInt8} (h : k.length < 64) : padKey (k ++ [0]) = padKey k := by
  rw [padKey_eq (by simp; omega), padKey_eq (by omega), List.append_assoc]
  congr 1
  rw [show 64 - k.length = (64 - (k ++ [0]).length) + 1 from by simp; omega, List.replicate_succ]; rfl
theorem kdg_short (k d : List UInt8) : kdg (shortKey k) d = kdg k d := by unfold kdg; rw [padKey_short]
theorem kdg_zero {k : List UInt8} (d : List UInt8) (h : k.length < 64) : kdg (k ++ [0]) d = kdg k d := by unfold kdg; rw [padKey_zero h]
end Go.Sat
namespace Go.Proofs.YtafgeppdchnceaaDoor
open Go Go.RowKit Go.Sat
theorem op_append_if {P : Program} {d : Option Tmp} {s x : Operand} {t ty : TypeId} {pos : String} {after : Array Edge} {guard : Option (Nat × Bool)} {ys : Nat → Option Bool} {X : Prop} {a : Act} {K : Act → World → Prop} {Q : Exit → Act → World → Prop} {w : World}
    (hwant : Region.wanted ⟨d, .call { callee := .builtin .append, args := #[s, x], argTypes := #[t, t] }, ty, pos, after, guard⟩ ys = true) {e : TypeId} {sz bytes : Nat} {z : Value} (hty : SliceTy P t e sz bytes z)
    {v y : Value} {n m : Nat} {xs news : List Value}
    (hown : Own w e sz v n xs) (hx : Sl w sz y m news) (hs : a.eval s = v) (hy : a.eval x = y) (h63 : n + m ≤ maxLen) (hb : (n + m) * bytes ≤ 140737488355328)
    (h : ∀ ao cap w', Own w' e sz (.slice ao (n + m) cap) (n + m) (xs ++ news) → w.grownBy w' v.ownBlock →
      ((Value.slice ao (n + m) cap).ownBlock = v.ownBlock ∨ (Value.slice ao (n + m) cap).ownBlock = some w.heap.size) → K (a.put d (.slice ao (n + m) cap)) w') :
    if Region.wanted ⟨d, .call { callee := .builtin .append, args := #[s, x], argTypes := #[t, t] }, ty, pos, after, guard⟩ ys = true then Oper.wp P ⟨d, .call { callee := .builtin .append, args := #[s, x], argTypes := #[t, t] }, ty, pos, after, guard⟩ a w K Q else X := by
  rw [if_pos hwant]
  exact op_append s x t rfl hty hown hx hs hy h63 hb h
theorem app_rd {w : World} {na : Option Addr} {nc : Nat} {sk : List UInt8} (O : Own w 5 1 (.slice na (sk.length + 1) nc) (sk.length + 1) (bcells sk ++ [.int .u8 0])) : Rd w (.slice na (sk.length + 1) nc) (sk ++ [0]) :=
  Own.rd (e := 5) (show Own w 5 1 (.slice na (sk.length + 1) nc) (sk ++ [0]).length (bcells (sk ++ [0])) from O.cast (by simp) (by simp [bcells]))
theorem keyed_arr (x y : Value) (key b : List UInt8) (w : World) (hL : Laid w) (hx : Rd w x key) (hxb : Rd w y b) (hk : key.length ≤ 140737488351232) (hbl : b.length ≤ 140737488351232) :
    Calls Tryd.prog 17 #[x, y] w fun e w' => e = .returned (.agg (bcells (kdg key b)).toArray) ∧ Chg (fun _ => False) w w' := keyed_any x y key b w hL hx hxb hk hbl
theorem eql_kdg (k d : List UInt8) (w : World) : (Op.equalIn 10000 34 (.agg (bcells (kdg k d)).toArray) (.agg (bcells (kdg k d)).toArray)).run Tryd.prog w = .ok true w := by
  exact eql_dg _ w
/-- Bytes of the call's own, copied: in new memory. -/
theorem taken_own {w w' : World} {l : List UInt8} {e : Ending} (h : Taken w l e w') : Own w' 5 1 (.slice (some ⟨w.heap.size, 0, none⟩) l.length l.length) l.length (bcells l) := h.2.1
set_option maxRecDepth 100000 in
set_option maxHeartbeats 4000000 in
theorem dkeyed_walk (vd vk vc : Value) (d key : List UInt8) (W : World) (hL : Laid W) (hd : Rd W vd d) (hk : Rd W vk key) (hdl : d.length ≤ 140737488351232) (hkl : key.length ≤ 140737488351232) :
    Calls Tryd.prog 7 #[.agg #[vd, vk, vc]] W fun e w' => e = .returned (.bool true) ∧ Chg (fun _ => False) W w' := by
  have hs2 := hL.size
  have hdlt := hd.lt
  have hklt := hk.lt
  have Cb : Chg (fun _ => False) W (W.alloc (.cells #[vd, vk, vc] 25)) := (Chg.refl _ W).alloc _
  have B0 : Blk (W.alloc (.cells #[vd, vk, vc] 25)) W.heap.size 25 #[vd, vk, vc] := Blk.new W _ _
  have L0 := hL.kept Cb id id
  obtain ⟨da, dc, rfl, _⟩ := hd.form
  obtain ⟨ka, kc, rfl, _⟩ := hk.form
  have hsz1 : (Tryd.prog.info? 34).map (·.size) = some 32 := by kernel_rfl
  go_enter Tryd.func7, Tryd.ntmps7
  go_wp2_with fail
  generalize W.alloc (.cells #[.slice da d.length dc, .slice ka key.length kc, vc] 25) = w0 at *
  ((with_reducible refine (right_any w0 L0).mono ?_); rintro e w1 ⟨rfl, C1⟩)
  have L1 := L0.kept C1 id id
  have B1 := B0.kept C1 id
  have C1' : Chg (fun _ => False) W w1 := Cb.trans C1 (fun _ _ h => h)
  have c1K : w1.cell? ⟨W.heap.size, 1, none⟩ = some (.slice ka key.length kc) := by rw [B1.cell]; rfl
  have RK1 := hk.kept C1' (fun _ _ => id)
  clear L0 B0 Cb C1
  go_wp2_with fail
  ((with_reducible refine (copy_any _ key w1 RK1 (by omega)).mono ?_); rintro e w2 ⟨rfl, O2, C2, hz2⟩)
  have hbx1 := B1.lt
  have L2 := L1.kept C2 id id
  have B2 := B1.kept C2 id
  have C2' : Chg (fun _ => False) W w2 := C1'.trans C2 (fun _ _ h => h)
  generalize w1.heap.size = g2 at *
  clear L1 B1 C1' c1K RK1 C2
  have hskl := shortKey_length key
  go_upto_if 17 with (fail)
  go_cut [3] (fun s3 wx => ∃ g c : Nat, s3 = .slice (some ⟨g, 0, none⟩) (shortKey key).length c ∧ Own wx 5 1 (.slice (some ⟨g, 0, none⟩) (shortKey key).length c) (shortKey key).length (bcells (shortKey key)) ∧ W.heap.size < g ∧ Blk wx W.heap.size 25 #[.slice da d.length dc, .slice ka key.length kc, vc] ∧ Chg (fun _ => False) W wx)
  case first =>
    by_cases hlong : 64 < key.length
    · have hsk : shortKey key = dg key := by unfold shortKey; rw [if_pos hlong]
      have hkd : kdg (dg key) d = kdg key d := by rw [← hsk]; exact kdg_short key d
      have ed := fun w => eql_kdg key d w
      have R2 : Rd w2 (.slice (some ⟨g2, 0, none⟩) key.length key.length) key := Own.rd (e := 5) O2
      have HSK := Lib.hid hsk
      have HKD := Lib.hid hkd
      clear hsk hkd O2
      go_wp2_with fail
      ((with_reducible refine (sum_arr _ key w2 L2 R2 (by omega)).mono ?_); rintro e w3 ⟨rfl, C3⟩)
      have L3 := L2.kept C3 id id
      have B3 := B2.kept C3 id
      have C3' : Chg (fun _ => False) W w3 := C2'.trans C3 (fun _ _ h => h)
      have hdl2 := dg_length key
      have HID := Lib.hid (show (Tryd.prog.info? 34).map (·.size) = some (bcells (dg key)).toArray.size by rw [List.size_toArray, bcells_length, hdl2]; kernel_rfl)
      have HSI := Lib.hid (show (bcells (dg key)).toArray.size = 32 by rw [List.size_toArray, bcells_length, hdl2])
      have HDL := Lib.hid hdl2
      have hb3 := B3.lt
      clear hdl2 L2 B2 C2' C3 R2
      go_wp2_with (first
        | ((with_reducible show wpList _ _ _ (⟨some 4, _, _, _, _, _⟩ :: _) _ _); refine wpl_alloc_row rfl 34 rfl Tryd.zeroValue34 ?_; intro w4 B4 hc4 hs4; have HS4 := Lib.hid hs4; clear hs4)
        | ((with_reducible show wpList _ _ _ (⟨none, .store _ (.tmp 4) (.tmp 19), _, _, _, _⟩ :: _) _ _); refine wpl_store_row rfl 34 (.tmp 4) (.tmp 19) rfl rfl rfl B4 HID.out (by rw [HSI.out]; rfl) (arr_one _) ?_; intro w5 B5 hc5)
        | fail)
      have C45 : Chg (fun q => q = w3.heap.size) w3 w5 := (hc4.mono fun _ _ h => h.elim).trans hc5 (fun _ _ h => h)
      have R5 : Rd w5 (.slice (some ⟨w3.heap.size, 0, none⟩) 32 32) (dg key) := by have := B5.rd (by rw [HDL.out]; unfold maxLen; omega); rwa [HDL.out] at this
      have L5 := L3.kept C45 (by omega) (by omega)
      have B5x := B3.kept C45 (by omega)
      have C5' : Chg (fun _ => False) W w5 := C3'.trans C45 (fun q hq e => by omega)
      clear B4 hc4 hc5 B5 C45 L3 B3 C3' HS4
      generalize w3.heap.size = g5 at *
      ((with_reducible refine (copy_any _ (dg key) w5 R5 (by rw [HDL.out]; decide)).mono ?_); rintro e w6 ⟨rfl, O6, C6, hz6⟩)
      have L6 := L5.kept C6 id id
      have B6 := B5x.kept C6 id
      have C6' : Chg (fun _ => False) W w6 := C5'.trans C6 (fun _ _ h => h)
      have hb5 := B5x.lt
      have cD6 : w6.cell? ⟨W.heap.size, 0, none⟩ = some (.slice da d.length dc) := by rw [B6.cell]; rfl
      have cK6 : w6.cell? ⟨W.heap.size, 1, none⟩ = some (.slice ka key.length kc) := by rw [B6.cell]; rfl
      have RD6 := hd.kept C6' (fun _ _ => id)
      have RK6 := hk.kept C6' (fun _ _ => id)
      have RO6 : Rd w6 (.slice (some ⟨w5.heap.size, 0, none⟩) (dg key).length (dg key).length) (dg key) := Own.rd (e := 5) O6
      have HO6 := Lib.hid O6
      have HB6 := Lib.hid B6
      clear L5 B5x C5' C6 R5 O6 B6
      generalize w5.heap.size = g6 at *
      go_wp2_with fail
      refine wp_region_pin (fun o => o.dst == some 31) [5, 7] [4, 5] (Same (fun _ => False) w6) mixed (by kernel_rfl) (fun _ _ h e => h.ext e) (Same.refl _ _).drew ?_
      simp only [wpSegs, List.take_succ_cons, List.take_zero, List.drop_succ_cons, List.drop_zero]
      have C0 : Chg (fun _ => False) w6 w6.drew := (Chg.refl _ w6).drew
      go_wp2_with fail
      ((with_reducible refine (keyed_arr _ _ (dg key) d _ (L6.kept C0 id id) (RO6.kept C0 (fun _ _ => id)) (RD6.kept C0 (fun _ _ => id)) (by rw [HDL.out]; decide) (by omega)).mono ?_); rintro e w7 ⟨rfl, C7⟩)
      rw [HKD.out]
      have K7 := Lib.hid (C0.trans C7 (fun _ _ h => h))
      clear C0 C7
      go_wp2_with fail
      refine SegQ.normal ⟨fun z o h _ => K7.out.keep h id, ?_⟩
      have cD7 : w7.cell? ⟨W.heap.size, 0, none⟩ = some (.slice da d.length dc) := by rw [K7.out.cell (p := ⟨W.heap.size, 0, none⟩) HB6.out.lt id]; exact cD6
      have cK7 : w7.cell? ⟨W.heap.size, 1, none⟩ = some (.slice ka key.length kc) := by rw [K7.out.cell (p := ⟨W.heap.size, 1, none⟩) HB6.out.lt id]; exact cK6
      go_wp2_with fail
      ((with_reducible refine (keyed_arr _ _ key d w7 (L6.kept K7.out id id) (RK6.kept K7.out (fun _ _ => id)) (RD6.kept K7.out (fun _ _ => id)) (by omega) (by omega)).mono ?_); rintro e w8 ⟨rfl, C8⟩)
      have K8 := Lib.hid (K7.out.trans C8 (fun _ _ h => h))
      clear C8 cD7 cK7
      go_wp2_with fail
      refine SegQ.normal ⟨fun z o h _ => K8.out.keep h id, ?_⟩
      go_wp2_with fail
      refine TQ.normal (by kernel_rfl) ⟨⟨PinAt.cell rfl rfl rfl cK6 id (fun X h => by go_simp), PinAt.cell rfl rfl rfl cD6 id (fun X h => by go_simp), trivial⟩, ?_⟩
      go_wp2_with fail
      go_meet
      case rel => exact ⟨g6, (dg key).length, by rw [HSK.out], by rw [HSK.out]; exact HO6.out.kept K8.out (fun _ _ => id), by omega, HB6.out.kept K8.out id, C6'.trans K8.out (fun _ _ h => h)⟩
    · have hq : decide (64 < (key.length : Int)) = false := by simp; omega
      have hsk : shortKey key = key := by unfold shortKey; rw [if_neg hlong]
      have HSK := Lib.hid hsk
      clear hsk
      go_wp2_with fail
      go_meet
      case rel => exact ⟨g2, key.length, by rw [HSK.out], by rw [HSK.out]; exact O2, hbx1, B2, C2'⟩
  case rest =>
    obtain ⟨g, c, rfl, O, hg, B, C⟩ := hcut
    have hps := padKey_short key
    have hks := kdg_short key d
    generalize shortKey key = sk at *
    have HPS := Lib.hid hps
    have HKS := Lib.hid hks
    clear hps hks L2 B2 C2' O2
    have L := hL.kept C id id
    go_upto_region 9 with (fail)
    go_cut [48] (fun s wx => s = .bool false ∧ Own wx 5 1 (.slice (some ⟨g, 0, none⟩) sk.length c) sk.length (bcells sk) ∧ Blk wx W.heap.size 25 #[.slice da d.length dc, .slice ka key.length kc, vc] ∧ Chg (fun _ => False) W wx)
    case first =>
      by_cases hs : sk.length < 64
      · have hq : decide ((sk.length : Int) < 64) = true := by simp; omega
        have hkz := kdg_zero d hs
        have ed := fun w => eql_kdg sk d w
        have HKZ := Lib.hid hkz
        have cD : wc.cell? ⟨W.heap.size, 0, none⟩ = some (.slice da d.length dc) := by rw [B.cell]; rfl
        have RD := hd.kept C (fun _ _ => id)
        have RO : Rd wc (.slice (some ⟨g, 0, none⟩) sk.length c) sk := Own.rd (e := 5) O
        have HO := Lib.hid O
        have HB := Lib.hid B
        have C0 : Chg (fun _ => False) wc wc.drew := (Chg.refl _ wc).drew
        clear hkz O B
        have hKeep : ∀ X : World, Chg (fun _ => False) wc X → X.cell? ⟨W.heap.size, 0, none⟩ = some (.slice da d.length dc) ∧ Chg (fun _ => False) wc X := fun X h => ⟨by rw [h.cell (World.block_lt_of_cell? wc _ cD) id]; exact cD, h⟩
        have hz := hKeep _ C0
        have hRO : ∀ X : World, Chg (fun _ => False) wc X → Rd X (.slice (some ⟨g, 0, none⟩) sk.length c) sk := fun X h => RO.kept h (fun _ _ => id)
        have hRD : ∀ X : World, Chg (fun _ => False) wc X → Rd X (.slice da d.length dc) d := fun X h => RD.kept h (fun _ _ => id)
        have hLL : ∀ X : World, Chg (fun _ => False) wc X → Laid X := fun X h => L.kept h id id
        have hap : ∀ (X Y Z : World) (o : Option Nat), Chg (fun _ => False) wc X → X.grownBy Z o → (∀ k, o = some k → wc.heap.size ≤ k) → Chg (fun _ => False) wc Z := fun X Y Z o h hg hk => h.trans (T := fun q => wc.heap.size ≤ q) (Chg.of_grown hg (fun k hk' _ => hk k hk')) (fun x hx h => by omega)
        have HLZ := Lib.hid (show (sk ++ [0]).length ≤ 140737488351232 by simp; omega)
        have C0a := ((Chg.refl (fun _ => False) wc).alloc (.cells #[.int .u8 0] 5)).drew
        have HKEEP := Lib.hid hKeep
        have HRO := Lib.hid hRO
        have HRD := Lib.hid hRD
        have HLL := Lib.hid hLL
        have HAP := Lib.hid hap
        clear hKeep hRO hRD hLL hap cD RO RD
        go_region_held3 (fun X => X.cell? ⟨W.heap.size, 0, none⟩ = some (.slice da d.length dc) ∧ Chg (fun _ => False) wc X)
          (first | assumption | exact HKEEP.out _ (by assumption) | exact HKEEP.out _ (Chg.alloc (by assumption) _))
          (first
            | (go_at_call 24; (with_reducible refine (copy_any _ sk _ (HRO.out _ (by assumption)) (by omega)).mono ?_); rintro e w1 ⟨rfl, O1, C1, hz1⟩; have S1 := Chg.trans (by assumption) C1 (fun _ _ h => h))
            | (go_at_call 17; (with_reducible refine (keyed_arr (.slice na (sk.length + 1) nc) _ (sk ++ [0]) d w2 (HLL.out _ S2) RA2 (HRD.out _ S2) HLZ.out (by omega)).mono ?_); rw [HKZ.out]; rintro e w3 ⟨rfl, C3⟩; have S3 := S2.trans C3 (fun _ _ h => h))
            | (go_at_call 17; (with_reducible refine (keyed_arr (.slice (some ⟨g, 0, none⟩) sk.length c) _ sk d w3 (HLL.out _ S3) (HRO.out _ S3) (HRD.out _ S3) (by omega) (by omega)).mono ?_); rintro e w4 ⟨rfl, C4⟩; have S4 := S3.trans C4 (fun _ _ h => h))
            | (refine op_append_if (by rfl) tyBytes (O1.alloc _) (Sl.built1 w1 (.int .u8 0) _ rfl) rfl rfl (by unfold maxLen; omega) (by omega) ?_; intro na nc w2 O2 hgr2 hblk2; have S2 := HAP.out _ w1 _ _ (Chg.alloc S1 _) hgr2 (fun k hk => by simp [Value.ownBlock] at hk; omega); have RA2 := app_rd O2)
            | (have O1' : Own w1 5 1 (.slice (some ⟨wc.heap.size + 1, 0, none⟩) sk.length sk.length) sk.length (bcells sk) := (by simpa using O1); refine op_append_if (by rfl) tyBytes O1' ((Sl.drew (Sl.built1 wc (.int .u8 0) _ rfl)).kept C1 (fun _ _ => id)) rfl rfl (by unfold maxLen; omega) (by omega) ?_; intro na nc w2 O2 hgr2 hblk2; have S2 := HAP.out _ w1 _ _ S1 hgr2 (fun k hk => by simp [Value.ownBlock] at hk; omega); have RA2 := app_rd O2)
            | fail)
        all_goals
          go_wp2_with fail
          go_meet
          case rel => exact ⟨rfl, HO.out.kept S4 (fun _ _ => id), HB.out.kept S4 id, C.trans S4 (fun _ _ h => h)⟩
      · have hq : decide ((sk.length : Int) < 64) = false := by simp; omega
        have C0 : Chg (fun _ => False) wc wc.drew := (Chg.refl _ wc).drew
        refine wp_region_dead (fun _ => false) (3, true) mixed (by kernel_rfl) ?_
        go_wp2_with fail
        refine TQ.normal (by kernel_rfl) ?_
        go_wp2_with fail
        go_meet
        case rel => exact ⟨rfl, O.kept C0 (fun _ _ => id), B.kept C0 id, C.trans C0 (fun _ _ h => h)⟩
    case rest =>
      obtain ⟨rfl, O2, B2, C2⟩ := hcut
      clear O B C L
      have hpk := padKey_eq hskl
      have hpl := padKey_length sk
      have HPK := Lib.hid hpk
      clear hpk
      have R0 : Rd wc (.slice (some ⟨g, 0, none⟩) sk.length c) sk := Own.rd (e := 5) O2
      go_wp2_with fail
      go_loopw [5, 6, 7] (fun s5 s6 s7 wr => ∃ n : Nat, n ≤ 64 ∧ s7 = .int .i64 n ∧ Own wr 5 1 s5 n (bcells (xorB 54 ((padKey sk).take n))) ∧ Own wr 5 1 s6 n (bcells (xorB 92 ((padKey sk).take n))) ∧ (∀ q, s5.ownBlock = some q → wc.heap.size ≤ q) ∧ (∀ q, s6.ownBlock = some q → wc.heap.size ≤ q ∧ s5.ownBlock ≠ some q) ∧ Chg (fun _ => False) wc wr) (fun _ _ s7 _ => 64 - (intOf s7).toNat)
      case atStart => exact ⟨0, by omega, rfl, World.ownsRow_nil _ 0 _ 1, World.ownsRow_nil _ 0 _ 1, fun q hq => by simp [Value.ownBlock] at hq, fun q hq => by simp [Value.ownBlock] at hq, Chg.refl _ _⟩
      case round =>
        obtain ⟨n, hn, rfl, OI, OO, si, so, C⟩ := hrel
        obtain ⟨ia, ic, rfl, hic⟩ := OI.form
        obtain ⟨oa, oc, rfl, hoc⟩ := OO.form
        by_cases hlt : n < 64
        · have hnp : n < (padKey sk).length := by omega
          obtain ⟨p, hp⟩ : ∃ p, p = (padKey sk)[n] := ⟨_, rfl⟩
          have t54 : xorB 54 ((padKey sk).take (n + 1)) = xorB 54 ((padKey sk).take n) ++ [p ^^^ 54] := by rw [List.take_succ_eq_append_getElem hnp, hp]; unfold xorB; rw [List.map_append]; rfl
          have t92 : xorB 92 ((padKey sk).take (n + 1)) = xorB 92 ((padKey sk).take n) ++ [p ^^^ 92] := by rw [List.take_succ_eq_append_getElem hnp, hp]; unfold xorB; rw [List.map_append]; rfl
          have e54 : bits BinOp.xor IntKind.u8 (p.toNat : Int) 54 = ((p ^^^ 54).toNat : Int) := xor_u8 p 54
          have e92 : bits BinOp.xor IntKind.u8 (p.toNat : Int) 92 = ((p ^^^ 92).toNat : Int) := xor_u8 p 92
          have hpn : (∀ h : n < sk.length, p = sk[n]) ∧ (¬ n < sk.length → p = 0) := by
            have hg : (padKey sk)[n]? = some p := by rw [List.getElem?_eq_getElem hnp, hp]
            rw [HPK.out] at hg
            refine ⟨fun h => ?_, fun h => ?_⟩
            · rw [List.getElem?_append_left h, List.getElem?_eq_getElem h] at hg
              exact (Option.some.inj hg).symm
            · rw [List.getElem?_append_right (by omega), List.getElem?_replicate] at hg
              split at hg
              · exact (Option.some.inj hg).symm
              · cases hg
          have T54 := Lib.hid t54
          have T92 := Lib.hid t92
          have E54 := Lib.hid e54
          have E92 := Lib.hid e92
          have HP := Lib.hid hpn
          clear t54 t92 e54 e92 hpn hp
          have hsk64 : sk.length ≤ 64 := hskl
          have hgl : g < wr.heap.size := Nat.lt_of_lt_of_le (O2.lt g rfl) C.size
          have hwcr := C.size
          have RK := R0.kept C (fun _ _ => id)
          by_cases hnk : n < sk.length
          · have hp2 := HP.out.1 hnk
            have ck : wr.cell? ⟨g, n, none⟩ = some (.int .u8 (p.toNat : Int)) := by have := RK.cell hnk; rw [Nat.zero_add, ← hp2] at this; exact this
            clear hp2
            go_wp2_with (first
              | ((with_reducible show wpList _ _ _ (⟨some 65, _, _, _, _, _⟩ :: _) _ _); refine wpl_append (o := ⟨some 65, _, _, _, _, _⟩) rfl (.tmp 61) (.tmp 64) 22 rfl tyBytes (OI.alloc _) (Sl.built1 wr (.int .u8 (bits BinOp.xor IntKind.u8 (p.toNat : Int) 54)) _ rfl) rfl rfl (by unfold maxLen; omega) (by omega) ?_; intro na nc w6 O6 hgr6 hblk6; have C6 : Chg (fun q => (Value.slice ia n ic).ownBlock = some q) wr w6 := ((Chg.refl _ wr).alloc _).grown hgr6 (fun q hq => .inr hq); have OO6 := OO.kept C6 (fun q hq e => (so q hq).2 e))
              | ((with_reducible show wpList _ _ _ (⟨some 70, _, _, _, _, _⟩ :: _) _ _); refine wpl_append (o := ⟨some 70, _, _, _, _, _⟩) rfl (.tmp 66) (.tmp 69) 22 rfl tyBytes (OO6.alloc _) (Sl.built1 w6 (.int .u8 (bits BinOp.xor IntKind.u8 (p.toNat : Int) 92)) _ rfl) rfl rfl (by unfold maxLen; omega) (by omega) ?_; intro ma mc w9 O9 hgr9 hblk9; have C9 : Chg (fun q => (Value.slice oa n oc).ownBlock = some q) w6 w9 := ((Chg.refl _ w6).alloc _).grown hgr9 (fun q hq => .inr hq))
              | fail)
            rw [E54.out] at O6
            rw [E92.out] at O9
            have C6n := C6.size
            have hnb6 : ∀ q, (Value.slice na (n + 1) nc).ownBlock = some q → (Value.slice ia n ic).ownBlock = some q ∨ wr.heap.size < q := fun q hq => by
              rcases hblk6 with e | e
              · rw [e] at hq; exact .inl hq
              · rw [e] at hq; simp at hq; exact .inr (by omega)
            have hnb9 : ∀ q, (Value.slice ma (n + 1) mc).ownBlock = some q → (Value.slice oa n oc).ownBlock = some q ∨ w6.heap.size < q := fun q hq => by
              rcases hblk9 with e | e
              · rw [e] at hq; exact .inl hq
              · rw [e] at hq; simp at hq; exact .inr (by omega)
            have hol6 := O6.lt
            have hoo := OO.lt
            have hne : ∀ q, (Value.slice ma (n + 1) mc).ownBlock = some q → (Value.slice na (n + 1) nc).ownBlock ≠ some q := fun q hq e => by
              rcases hnb9 q hq with h | h
              · rcases hnb6 q e with h2 | h2
                · exact (so q h).2 h2
                · have := hoo q h; omega
              · have := hol6 q e; omega
            have RES := Lib.hid (⟨n + 1, by omega, by go_num, (O6.kept C9 (fun q hq e => by
                rcases hnb6 q hq with h2 | h2
                · exact (so q e).2 h2
                · have := hoo q e; omega)).cast rfl (by rw [T54.out]; simp [bcells]), O9.cast rfl (by rw [T92.out]; simp [bcells]), fun q hq => by
                rcases hnb6 q hq with h2 | h2
                · exact si q h2
                · omega, fun q hq => ⟨by
                rcases hnb9 q hq with h2 | h2
                · exact (so q h2).1
                · omega, hne q hq⟩, (C.trans C6 (fun q hq e => by have := si q e; omega)).trans C9 (fun q hq e => by have := (so q e).1; omega)⟩ : ∃ m : Nat, m ≤ 64 ∧ (Value.int .i64 ((n : Int) + 1)) = .int .i64 m ∧ Own w9 5 1 (.slice na (n + 1) nc) m (bcells (xorB 54 ((padKey sk).take m))) ∧ Own w9 5 1 (.slice ma (n + 1) mc) m (bcells (xorB 92 ((padKey sk).take m))) ∧ (∀ q, (Value.slice na (n + 1) nc).ownBlock = some q → wc.heap.size ≤ q) ∧ (∀ q, (Value.slice ma (n + 1) mc).ownBlock = some q → wc.heap.size ≤ q ∧ (Value.slice na (n + 1) nc).ownBlock ≠ some q) ∧ Chg (fun _ => False) wc w9)
            clear O6 O9 hnb6 hnb9 hne hol6 hoo C6 C9 OO6 hgr6 hblk6 hgr9 hblk9
            go_wp2_with fail
            go_roundw
            case rel => exact RES.out
            case measure => simp [intOf]; omega
          · have hp2 := HP.out.2 hnk
            have E54z : bits BinOp.xor IntKind.u8 0 54 = ((p ^^^ 54).toNat : Int) := by have := E54.out; rw [hp2] at this ⊢; exact this
            have E92z : bits BinOp.xor IntKind.u8 0 92 = ((p ^^^ 92).toNat : Int) := by have := E92.out; rw [hp2] at this ⊢; exact this
            have E54h := Lib.hid E54z
            have E92h := Lib.hid E92z
            clear hp2 E54z E92z
            go_wp2_with (first
              | ((with_reducible show wpList _ _ _ (⟨some 65, _, _, _, _, _⟩ :: _) _ _); refine wpl_append (o := ⟨some 65, _, _, _, _, _⟩) rfl (.tmp 61) (.tmp 64) 22 rfl tyBytes (OI.alloc _) (Sl.built1 wr (.int .u8 (bits BinOp.xor IntKind.u8 0 54)) _ rfl) rfl rfl (by unfold maxLen; omega) (by omega) ?_; intro na nc w6 O6 hgr6 hblk6; have C6 : Chg (fun q => (Value.slice ia n ic).ownBlock = some q) wr w6 := ((Chg.refl _ wr).alloc _).grown hgr6 (fun q hq => .inr hq); have OO6 := OO.kept C6 (fun q hq e => (so q hq).2 e))
              | ((with_reducible show wpList _ _ _ (⟨some 70, _, _, _, _, _⟩ :: _) _ _); refine wpl_append (o := ⟨some 70, _, _, _, _, _⟩) rfl (.tmp 66) (.tmp 69) 22 rfl tyBytes (OO6.alloc _) (Sl.built1 w6 (.int .u8 (bits BinOp.xor IntKind.u8 0 92)) _ rfl) rfl rfl (by unfold maxLen; omega) (by omega) ?_; intro ma mc w9 O9 hgr9 hblk9; have C9 : Chg (fun q => (Value.slice oa n oc).ownBlock = some q) w6 w9 := ((Chg.refl _ w6).alloc _).grown hgr9 (fun q hq => .inr hq))
              | fail)
            rw [E54h.out] at O6
            rw [E92h.out] at O9
            have C6n := C6.size
            have hnb6 : ∀ q, (Value.slice na (n + 1) nc).ownBlock = some q → (Value.slice ia n ic).ownBlock = some q ∨ wr.heap.size < q := fun q hq => by
              rcases hblk6 with e | e
              · rw [e] at hq; exact .inl hq
              · rw [e] at hq; simp at hq; exact .inr (by omega)
            have hnb9 : ∀ q, (Value.slice ma (n + 1) mc).ownBlock = some q → (Value.slice oa n oc).ownBlock = some q ∨ w6.heap.size < q := fun q hq => by
              rcases hblk9 with e | e
              · rw [e] at hq; exact .inl hq
              · rw [e] at hq; simp at hq; exact .inr (by omega)
            have hol6 := O6.lt
            have hoo := OO.lt
            have hne : ∀ q, (Value.slice ma (n + 1) mc).ownBlock = some q → (Value.slice na (n + 1) nc).ownBlock ≠ some q := fun q hq e => by
              rcases hnb9 q hq with h | h
              · rcases hnb6 q e with h2 | h2
                · exact (so q h).2 h2
                · have := hoo q h; omega
              · have := hol6 q e; omega
            have RES := Lib.hid (⟨n + 1, by omega, by go_num, (O6.kept C9 (fun q hq e => by
                rcases hnb6 q hq with h2 | h2
                · exact (so q e).2 h2
                · have := hoo q e; omega)).cast rfl (by rw [T54.out]; simp [bcells]), O9.cast rfl (by rw [T92.out]; simp [bcells]), fun q hq => by
                rcases hnb6 q hq with h2 | h2
                · exact si q h2
                · omega, fun q hq => ⟨by
                rcases hnb9 q hq with h2 | h2
                · exact (so q h2).1
                · omega, hne q hq⟩, (C.trans C6 (fun q hq e => by have := si q e; omega)).trans C9 (fun q hq e => by have := (so q e).1; omega)⟩ : ∃ m : Nat, m ≤ 64 ∧ (Value.int .i64 ((n : Int) + 1)) = .int .i64 m ∧ Own w9 5 1 (.slice na (n + 1) nc) m (bcells (xorB 54 ((padKey sk).take m))) ∧ Own w9 5 1 (.slice ma (n + 1) mc) m (bcells (xorB 92 ((padKey sk).take m))) ∧ (∀ q, (Value.slice na (n + 1) nc).ownBlock = some q → wc.heap.size ≤ q) ∧ (∀ q, (Value.slice ma (n + 1) mc).ownBlock = some q → wc.heap.size ≤ q ∧ (Value.slice na (n + 1) nc).ownBlock ≠ some q) ∧ Chg (fun _ => False) wc w9)
            clear O6 O9 hnb6 hnb9 hne hol6 hoo C6 C9 OO6 hgr6 hblk6 hgr9 hblk9
            go_wp2_with fail
            go_roundw
            case rel => exact RES.out
            case measure => simp [intOf]; omega
        · have hn64 : n = 64 := by omega
          subst hn64
          rw [List.take_of_length_le (by omega), HPS.out] at OI OO
          have hkdg : kdg key d = dg (xorB 92 (padKey key) ++ dg (xorB 54 (padKey key) ++ d)) := rfl
          have l54 : (xorB 54 (padKey key)).length = 64 := by simp [xorB, padKey_length]
          have l92 : (xorB 92 (padKey key)).length = 64 := by simp [xorB, padKey_length]
          generalize xorB 54 (padKey key) = p1 at *
          generalize xorB 92 (padKey key) = p2 at *
          have HK := Lib.hid hkdg
          have L54 := Lib.hid l54
          have L92 := Lib.hid l92
          have CW : Chg (fun _ => False) W wr := C2.trans C (fun _ _ h => h)
          have BW := B2.kept C id
          have cD : wr.cell? ⟨W.heap.size, 0, none⟩ = some (.slice da d.length dc) := by rw [BW.cell]; rfl
          have RD := hd.kept CW (fun _ _ => id)
          have hbl := B2.lt
          have hwr := C.size
          clear hkdg l54 l92 R0 HPK hpl
          go_wp2_with ((with_reducible show wpList _ _ _ (⟨some 74, _, _, _, _, _⟩ :: _) _ _); refine wpl_append (o := ⟨some 74, _, _, _, _, _⟩) rfl (.tmp 71) (.tmp 73) 22 rfl tyBytes (OI) (RD) rfl rfl (by unfold maxLen; omega) (by omega) ?_; intro na nc w6 O6 hgr6 hblk6)
          have C6 : Chg (fun q => (Value.slice ia 64 ic).ownBlock = some q) wr w6 := (Chg.refl _ wr).grown hgr6 (fun q hq => .inr hq)
          have OO6 := OO.kept C6 (fun q hq e => (so q hq).2 e)
          have CW6 : Chg (fun _ => False) W w6 := CW.trans C6 (fun q hq e => by have := si q e; omega)
          have BW6 := BW.kept C6 (fun e => by have := si _ e; omega)
          have hpl : (p1 ++ d).length = 64 + d.length := by rw [List.length_append, L54.out]
          have RA : Rd w6 (.slice na (64 + d.length) nc) (p1 ++ d) := Own.rd (e := 5) (show Own w6 5 1 (.slice na (64 + d.length) nc) (p1 ++ d).length (bcells (p1 ++ d)) from O6.cast hpl.symm (bcells_append _ _).symm)
          have HPL := Lib.hid hpl
          have hoo := OO.lt
          have hw6 := C6.size
          clear OI OO O6 hgr6 hblk6 cD RD BW CW C6 hpl si
          ((with_reducible refine (sum_arr _ (p1 ++ d) w6 (hL.kept CW6 id id) RA (by rw [HPL.out]; omega)).mono ?_); rintro e w7 ⟨rfl, C7⟩)
          have hdl2 := dg_length (p1 ++ d)
          generalize dg (p1 ++ d) = di at *
          have HID := Lib.hid (show (Tryd.prog.info? 34).map (·.size) = some (bcells di).toArray.size by rw [List.size_toArray, bcells_length, hdl2]; kernel_rfl)
          have HSI := Lib.hid (show (bcells di).toArray.size = 32 by rw [List.size_toArray, bcells_length, hdl2])
          have HDL := Lib.hid hdl2
          clear hdl2 RA HPL
          go_wp2_with (first
            | ((with_reducible show wpList _ _ _ (⟨some 9, _, _, _, _, _⟩ :: _) _ _); refine wpl_alloc_row rfl 34 rfl Tryd.zeroValue34 ?_; intro w8 B8 hc8 hs8; have HS8 := Lib.hid hs8; clear hs8)
            | ((with_reducible show wpList _ _ _ (⟨none, .store _ (.tmp 9) (.tmp 75), _, _, _, _⟩ :: _) _ _); refine wpl_store_row rfl 34 (.tmp 9) (.tmp 75) rfl rfl rfl B8 HID.out (by rw [HSI.out]; rfl) (arr_one _) ?_; intro w9 B9 hc9)
            | fail)
          have hz7 := C7.size
          have C89 : Chg (fun q => q = w7.heap.size) w7 w9 := (hc8.mono fun _ _ h => h.elim).trans hc9 (fun _ _ h => h)
          have C79 : Chg (fun q => q = w7.heap.size) w6 w9 := (C7.mono fun _ _ h => h.elim).trans C89 (fun _ _ h => h)
          have OO9 := OO6.kept C79 (fun q hq e => by have := hoo q hq; omega)
          have R9 : Rd w9 (.slice (some ⟨w7.heap.size, 0, none⟩) 32 32) di := by have := B9.rd (by rw [HDL.out]; unfold maxLen; omega); rwa [HDL.out] at this
          have hb6 := BW6.lt
          have BW9 := BW6.kept C79 (by omega)
          have CW9 : Chg (fun _ => False) W w9 := CW6.trans C79 (fun q hq e => by have := CW6.size; omega)
          have hg9 : w7.heap.size < w9.heap.size := R9.lt _ (by simp [rdb])
          clear B8 hc8 hc9 B9 C89 C79 OO6 BW6 CW6 C7 HS8
          generalize w7.heap.size = g9 at *
          have cD : w9.cell? ⟨W.heap.size, 0, none⟩ = some (.slice da d.length dc) := by rw [BW9.cell]; rfl
          have cK : w9.cell? ⟨W.heap.size, 1, none⟩ = some (.slice ka key.length kc) := by rw [BW9.cell]; rfl
          have hnb : (Value.slice oa 64 oc).ownBlock ≠ some W.heap.size := fun e => by have := (so _ e).1; omega
          have ed := fun w => eql_kdg key d w
          have C0 : Chg (fun _ => False) w9 w9.drew := (Chg.refl _ w9).drew
          have hdle : di.length ≤ 32 := by rw [HDL.out]; decide
          refine wp_region_pin (fun o => o.dst == some 85) [5, 7] [3, 1, 5] (Same (fun z => (Value.slice oa 64 oc).ownBlock = some z) w9) mixed (by kernel_rfl) (fun _ _ h e => h.ext e) (Same.refl _ _).drew ?_
          simp only [wpSegs, List.take_succ_cons, List.take_zero, List.drop_succ_cons, List.drop_zero]
          go_wp2_with ((with_reducible show wpList _ _ _ (⟨some 78, _, _, _, _, _⟩ :: _) _ _); refine wpl_append (o := ⟨some 78, _, _, _, _, _⟩) rfl (.tmp 76) (.tmp 77) 22 rfl tyBytes (OO9.kept C0 (fun _ _ => id)) (R9.kept C0 (fun _ _ => id)) rfl rfl (by unfold maxLen; omega) (by omega) ?_; intro ma mc x1 P1 hgr1 hblk1)
          have D1 : Chg (fun q => (Value.slice oa 64 oc).ownBlock = some q) w9 x1 := (C0.mono fun _ _ h => h.elim).trans ((Chg.refl (fun q => (Value.slice oa 64 oc).ownBlock = some q) w9.drew).grown hgr1 (fun q hq => .inr hq)) (fun _ _ h => h)
          have K1 := Lib.hid D1
          have hpl2 : (p2 ++ di).length = 64 + di.length := by rw [List.length_append, L92.out]
          have RA : Rd x1 (.slice ma (64 + di.length) mc) (p2 ++ di) := Own.rd (e := 5) (show Own x1 5 1 (.slice ma (64 + di.length) mc) (p2 ++ di).length (bcells (p2 ++ di)) from (P1.cast (by rw [hpl2]) (bcells_append _ _).symm))
          have hso : ∀ q, (Value.slice oa 64 oc).ownBlock = some q → W.heap.size < q := fun q e => by have := (so q e).1; omega
          have CW1 : Chg (fun _ => False) W x1 := CW9.trans D1 (fun q hq e => by have := hso q e; omega)
          have cD1 : x1.cell? ⟨W.heap.size, 0, none⟩ = some (.slice da d.length dc) := by rw [D1.cell (p := ⟨W.heap.size, 0, none⟩) BW9.lt hnb]; exact cD
          have cK1 : x1.cell? ⟨W.heap.size, 1, none⟩ = some (.slice ka key.length kc) := by rw [D1.cell (p := ⟨W.heap.size, 1, none⟩) BW9.lt hnb]; exact cK
          have HPL2 := Lib.hid hpl2
          have hxl := BW9.lt
          have hx1 := D1.size
          clear hpl2 P1 hgr1 hblk1 D1 C0 OO9 hdle
          refine SegQ.normal ⟨fun z o h hz => K1.out.keep h hz, ?_⟩
          go_wp2_with fail
          ((with_reducible refine (sum_arr _ (p2 ++ di) x1 (hL.kept CW1 id id) RA (by rw [HPL2.out, HDL.out]; decide)).mono ?_); rintro e x2 ⟨rfl, D2⟩)
          rw [← HK.out]
          have K2 := Lib.hid (K1.out.trans D2 (fun _ _ h => h.elim))
          have CW2 : Chg (fun _ => False) W x2 := CW1.trans D2 (fun _ _ h => h)
          have cD2 : x2.cell? ⟨W.heap.size, 0, none⟩ = some (.slice da d.length dc) := by rw [D2.cell (p := ⟨W.heap.size, 0, none⟩) (by show W.heap.size < x1.heap.size; omega) id]; exact cD1
          have cK2 : x2.cell? ⟨W.heap.size, 1, none⟩ = some (.slice ka key.length kc) := by rw [D2.cell (p := ⟨W.heap.size, 1, none⟩) (by show W.heap.size < x1.heap.size; omega) id]; exact cK1
          clear D2 cD1 cK1 RA
          go_wp2_with fail
          refine SegQ.normal ⟨fun z o h hz => K2.out.keep h hz, ?_⟩
          go_wp2_with fail
          ((with_reducible refine (keyed_arr _ _ key d x2 (hL.kept CW2 id id) (hk.kept CW2 (fun _ _ => id)) (hd.kept CW2 (fun _ _ => id)) (by omega) (by omega)).mono ?_); rintro e x3 ⟨rfl, D3⟩)
          have K3 := Lib.hid (K2.out.trans D3 (fun _ _ h => h.elim))
          have CW3 : Chg (fun _ => False) W x3 := CW2.trans D3 (fun _ _ h => h)
          clear D3 cD2 cK2
          go_wp2_with fail
          refine SegQ.normal ⟨fun z o h hz => K3.out.keep h hz, ?_⟩
          go_wp2_with fail
          refine TQ.normal (by kernel_rfl) ⟨⟨PinAt.cell rfl rfl rfl cK hnb (fun X h => by go_simp), PinAt.cell rfl rfl rfl cD hnb (fun X h => by go_simp), trivial⟩, ?_⟩
          go_wp2_with fail
          go_ret
          exact ⟨rfl, CW3⟩
end Go.Proofs.YtafgeppdchnceaaDoor
