import Derived.Test.YtafgeppdchnceaaDoorRefsD
import Derived.Lib.SlBytesConst
set_option linter.unusedVariables false
namespace Go.Proofs.YtafgeppdchnceaaDoor
open Go Go.RowKit Go.Sat
/-- COPY of bytes that read, over a part of a block. -/
theorem wpl_copy_rd {P : Program} {ops : Array Oper} {rest : List Oper} {o : Oper} {a : Act} {Q : Exit → Act → World → Prop} {w : World} (hw : Region.wanted o (yielded ops a.tmps) = true) (d s : Operand) (t : TypeId)
    (ho : o.op = .call { callee := .builtin .copy, args := #[d, s], argTypes := #[t, t] }) {e : TypeId} (hu : P.underlying t = some (.slice e)) (hsz : (P.info? e).map (·.size) = some 1) {g off n1 c1 : Nat} {y : Value} {l : List UInt8}
    (hd : a.eval d = .slice (some ⟨g, off, none⟩) n1 c1) (hs : a.eval s = y) (hr : Rd w y l) (hl : l.length ≤ n1) {T : TypeId} {cur : Array Value} (hb : Blk w g T cur) (hfit : off + l.length ≤ cur.size)
    (h : ∀ w', Blk w' g T (cur.toList.take off ++ bcells l ++ cur.toList.drop (off + l.length)).toArray → Chg (fun k => k = g) w w' → wpList P ops Q rest (a.put o.dst (.int .i64 (l.length : Nat))) w') : wpList P ops Q (o :: rest) a w := by
  by_cases h0 : 0 < l.length
  · obtain ⟨b, off2, c2, rfl, hc, _⟩ := hr.addr h0
    exact wpl_copy_part hw d s t ho hu hsz hd hs hb (bcells l) (by rw [bcells_length]; exact (Nat.min_eq_left hl).symm) (hr.src_cells) (by rw [bcells_length]; exact hfit) (bcells_one l) (by rw [bcells_length]; exact h)
  · have hl0 : l.length = 0 := by omega
    obtain rfl : l = [] := List.eq_nil_of_length_eq_zero hl0
    obtain ⟨ao', c', rfl, _⟩ := hr.form
    have hrun : (Builtin.copy_ #[t, t] o.type #[.slice (some ⟨g, off, none⟩) n1 c1, .slice ao' 0 c']).run P w = .ok (.int .i64 0) w := by
      obtain ⟨i, hi, hi1⟩ : ∃ i, P.info? e = some i ∧ i.size = 1 := by
        cases hq : P.info? e with
        | none => simp [hq] at hsz
        | some i => exact ⟨i, rfl, by simpa [hq] using hsz⟩
      cases ao' <;> simp [Builtin.copy_, run_underlying hu, Builtin.lenOf, Builtin.firstCells, sizeOf, typeInfo, hi, loadCells, loadCellsFrom, goInt, storeCells]
    refine BigFrame.wpList_want hw fun K hK => ?_
    unfold Oper.wp execOp
    simp only [ho, resolve, invoke, builtin, Sem.run_bind, Sem.run_pure, Result.andThen_ok, List.map_toArray, List.map_cons, List.map_nil, hd, hs, List.length_nil, hrun]
    refine hK _ _ (h w ?_ (Chg.refl _ w))
    have : cur.toList.take off ++ bcells [] ++ cur.toList.drop (off + ([] : List UInt8).length) = cur.toList := by simp [bcells]
    rw [this]; simpa using hb
theorem _root_.Go.Sat.Sl.builtF (w : World) (cs : Array Value) (t : TypeId) (fr : Nat × Nat) (sz n : Nat) (hn : cs.size = n * sz) (h1 : ∀ u ∈ cs.toList, u.oneCell' = true) (hm : n ≤ maxLen) :
    Sl (w.alloc (.cells cs t fr)) sz (.slice (some ⟨w.heap.size, 0, none⟩) n n) n cs.toList := by
  refine ⟨by simpa using hn, h1, .inr ⟨_, _, _, rfl, Nat.le_refl _, hm, fun j u hu => ?_⟩⟩
  rw [← addr_add]
  exact World.news_of_block (fr := fr) (heap_alloc_new w _) j u hu
theorem padKey_length (k : List UInt8) : (padKey k).length = 64 := by
  unfold padKey
  split
  · rename_i h; simp only [List.length_append, List.length_replicate, dg_length]
  · simp; omega
theorem strB_toList (l : List UInt8) : (strB l).toList = l := by rw [ByteArray.toList_eq]; rfl
theorem abc_hex : hexB (dg [97, 98, 99]) = [98, 97, 55, 56, 49, 54, 98, 102, 56, 102, 48, 49, 99, 102, 101, 97, 52, 49, 52, 49, 52, 48, 100, 101, 53, 100, 97, 101, 50, 50, 50, 51, 98, 48, 48, 51, 54, 49, 97, 51, 57, 54, 49, 55, 55, 97, 57, 99, 98, 52, 49, 48, 102, 102, 54, 49, 102, 50, 48, 48, 49, 53, 97, 100] := by kernel_rfl
set_option maxRecDepth 100000 in
theorem right_any (w : World) (hL : Laid w) : Calls Tryd.prog 10 #[] w fun e w' => e = .returned (.bool true) ∧ Chg (fun _ => False) w w' := by
  have hx : Rd (w.alloc (.cells #[.int .u8 97, .int .u8 98, .int .u8 99] 5 (3, 4))) (.slice (some ⟨w.heap.size, 0, none⟩) 3 3) [97, 98, 99] := Sl.builtF w #[.int .u8 97, .int .u8 98, .int .u8 99] 5 (3, 4) 1 3 rfl (by simp [Value.oneCell']) (by unfold maxLen; omega)
  have C1 : Chg (fun _ => False) w (w.alloc (.cells #[.int .u8 97, .int .u8 98, .int .u8 99] 5 (3, 4))) := (Chg.refl _ w).alloc _
  have HC1 := Lib.hid C1
  have L1 := hL.kept C1 id id
  clear C1
  have kc := fun (w : World) (C : Array Value) (n c : Nat) => Lib.run_convert_bytes_const (P := Tryd.prog) w 22 5 C n c Tryd.underlying22 Tryd.underlying5
  have hst := strB_toList
  go_enter Tryd.func10, Tryd.ntmps10
  go_wp2_with fail
  ((with_reducible refine (dsum_any _ [97, 98, 99] _ L1 hx (by decide)).mono ?_); rintro e w2 ⟨rfl, C2⟩)
  go_wp2_with fail
  ((with_reducible refine (hex_any (dg [97, 98, 99]) w2 (dg_length _)).mono ?_); rintro e w3 ⟨rfl, C3⟩)
  rw [abc_hex]
  go_wp2_with fail
  go_ret
  exact ⟨rfl, (HC1.out.trans C2 (fun _ _ h => h)).trans C3 (fun _ _ h => h)⟩
set_option maxRecDepth 100000 in
set_option maxHeartbeats 1600000 in
theorem keyed_any (x y : Value) (key b : List UInt8) (w : World) (hL : Laid w) (hx : Rd w x key) (hxb : Rd w y b) (hk : key.length ≤ 140737488351232) (hbl : b.length ≤ 140737488351232) :
    Calls Tryd.prog 17 #[x, y] w fun e w' => e = .returned (arrV (kdg key b)) ∧ Chg (fun _ => False) w w' := by
  have hs2 := hL.size
  have hlx := hx.lt
  have hly := hxb.lt
  obtain ⟨xa, xc, rfl, _⟩ := hx.form
  have hsz1 : (Tryd.prog.info? 5).map (·.size) = some 1 := by kernel_rfl
  have HSZ := Lib.hid hsz1
  clear hsz1
  by_cases hlong : 64 < key.length
  · go_enter Tryd.func17, Tryd.ntmps17
    go_wp2_with (first
      | ((with_reducible show wpList _ _ _ (⟨some 4, _, _, _, _, _⟩ :: _) _ _); refine wpl_alloc_row rfl 34 rfl Tryd.zeroValue34 ?_; intro w1 B1 hc1 hs1; have HS1 := Lib.hid hs1; clear hs1)
      | ((with_reducible show wpList _ _ _ (⟨some 5, _, _, _, _, _⟩ :: _) _ _); refine wpl_alloc_row rfl 77 rfl Tryd.zeroValue77 ?_; intro w2 B2 hc2 hs2'; have HS2 := Lib.hid hs2'; clear hs2')
      | fail)
    have B2' : Blk w2 w1.heap.size 77 (bcells (List.replicate 64 0)).toArray := B2
    have B1' : Blk w1 w.heap.size 34 (bcells (List.replicate 32 0)).toArray := B1
    have hgk : w.heap.size < w1.heap.size := by have := HS1.out; omega
    have C12 : Chg (fun _ => False) w w2 := hc1.trans hc2 (fun _ _ h => h)
    have hgk2 : w1.heap.size < w2.heap.size := by have := HS2.out; omega
    have B1w := B1'.kept hc2 id
    clear B1 B2 B1' HS1 HS2 hc1 hc2
    generalize w1.heap.size = gk at *
    clear w1
    ((with_reducible refine (dsum_any _ key w2 (hL.kept C12 id id) (hx.kept C12 (fun _ _ => id)) (by omega)).mono ?_); rintro e w3 ⟨rfl, C3⟩)
    have hdl := dg_length key
    have hid : (Tryd.prog.info? 34).map (·.size) = some (bcells (dg key)).toArray.size := by rw [List.size_toArray, bcells_length, hdl]; kernel_rfl
    have hpk : padKey key = dg key ++ List.replicate 32 0 := by unfold padKey; rw [if_pos hlong, hdl]
    have HSI := Lib.hid (show (bcells (dg key)).toArray.size = 32 by rw [List.size_toArray, bcells_length, hdl])
    have HID := Lib.hid hid
    have HDL := Lib.hid hdl
    have HPK := Lib.hid hpk
    clear hid hdl hpk
    have B3 := B2'.kept C3 id
    have C23 : Chg (fun _ => False) w w3 := C12.trans C3 (fun _ _ h => h)
    have B1x := B1w.kept C3 id
    have hsz3 := C3.size
    unfold arrV
    go_wp2_with (first
      | ((with_reducible show wpList _ _ _ (⟨some 6, _, _, _, _, _⟩ :: _) _ _); refine wpl_alloc_row rfl 34 rfl Tryd.zeroValue34 ?_; intro w4 B4 hc4 hs4; have HS4 := Lib.hid hs4; clear hs4)
      | ((with_reducible show wpList _ _ _ (⟨none, .store _ (.tmp 6) (.tmp 18), _, _, _, _⟩ :: _) _ _); refine wpl_store_row rfl 34 (.tmp 6) (.tmp 18) rfl rfl rfl B4 HID.out (by rw [HSI.out]; rfl) (arr_one _) ?_; intro w5 B5 hc5)
      | fail)
    have C45 : Chg (fun q => w3.heap.size ≤ q) w3 w5 := (hc4.mono fun _ _ h => h.elim).trans hc5 (fun q _ e => Nat.le_of_eq e.symm)
    have B3' := B3.kept C45 (by omega)
    have B1y := B1x.kept C45 (by omega)
    have hrd : Rd w5 (.slice (some ⟨w3.heap.size, 0, none⟩) 32 32) (dg key) := by have := B5.rd (by rw [HDL.out]; unfold maxLen; omega); rwa [HDL.out] at this
    have C35 : Chg (fun _ => False) w w5 := C23.trans C45 (fun q hq h => by have := C23.size; omega)
    have hz5 := C45.size
    clear C45 hc4 hc5 B4 B5 B1x B3 C23
    generalize w3.heap.size = g6 at *
    refine wp_region_text mixed (by kernel_rfl) ?_
    go_wp2_with (first
      | ((with_reducible show wpList _ _ _ (⟨some 21, _, _, _, _, _⟩ :: _) _ _); refine wpl_copy_rd rfl (.tmp 19) (.tmp 20) 22 rfl Tryd.underlying22 HSZ.out rfl rfl hrd.drew (by rw [HDL.out]; decide) B3'.drew (by rw [HDL.out]; simp) ?_; intro w6 B6 C6)
      | fail)
    refine TQ.normal (by kernel_rfl) ?_
    have C6' : Chg (fun q => q = gk) w5 w6 := (Chg.refl _ w5).drew.trans C6 (fun _ _ h => h)
    have BZ : Blk w6 gk 77 (bcells (padKey key)).toArray := by
      rw [HPK.out]; rw [HDL.out] at B6; simpa [bcells] using B6
    have B1Z := B1y.kept C6' (by omega)
    have CZ : Chg (fun _ => False) w w6 := C35.trans C6' (fun q hq e => by omega)
    have hzz : gk < w6.heap.size := BZ.lt
    clear HPK HID HDL C6 C6' B6 B1y B3' hrd C35 C3 B2' B1w C12
    generalize w6 = wz at *
    have hpl := padKey_length key
    have HKD : Hid (kdg key b = dg (xorB 92 (padKey key) ++ dg (xorB 54 (padKey key) ++ b))) := Lib.hid rfl
    generalize padKey key = pk at *
    have LZ := hL.kept CZ id id
    have hbz := hxb.kept CZ (fun _ _ => id)
    go_wp2_with fail
    ((with_reducible refine (hnew_any wz LZ).mono ?_); rintro e wa ⟨rfl, Ha, Ca⟩)
    have LA := LZ.kept Ca id id
    have hga := Ha.lt
    go_wp2_with fail
    ((with_reducible refine (hnew_any wa LA).mono ?_); rintro e wb ⟨rfl, Hb, Cb⟩)
    have LB := LA.kept Cb id id
    have hgb := Hb.lt
    have Ha2 := Ha.kept Cb id
    have BK := (BZ.kept Ca id).kept Cb id
    have BR := (B1Z.kept Ca id).kept Cb id
    have hbb := (hbz.kept Ca (fun _ _ => id)).kept Cb (fun _ _ => id)
    have CB : Chg (fun _ => False) w wb := (CZ.trans Ca (fun _ _ h => h)).trans Cb (fun _ _ h => h)
    have hinf : (Tryd.prog.info? 77).map (·.size) = some (bcells pk).toArray.size := by rw [List.size_toArray, bcells_length, hpl]; kernel_rfl
    have HINF := Lib.hid hinf
    have hszw := CZ.size
    have hrl : w.heap.size < wz.heap.size := by omega
    clear Ha hinf LZ LA BZ B1Z hbz CZ Ca Cb
    generalize wz.heap.size = gi at *
    generalize wa.heap.size = gj at *
    clear wz wa
    go_wp2_with (first
      | ((with_reducible show wpList _ _ _ (⟨some 9, _, _, _, _, _⟩ :: _) _ _); refine wpl_alloc_row rfl 77 rfl Tryd.zeroValue77 ?_; intro wc BI0 hcc hsc; have HSC := Lib.hid hsc; clear hsc)
      | ((with_reducible show wpList _ _ _ (⟨some 10, _, _, _, _, _⟩ :: _) _ _); refine wpl_alloc_row rfl 77 rfl Tryd.zeroValue77 ?_; intro wd BO0 hcd hsd; have HSD := Lib.hid hsd; clear hsd)
      | ((with_reducible show wpList _ _ _ (⟨some 27, _, _, _, _, _⟩ :: _) _ _); refine wpl_load_row rfl 77 (.tmp 5) rfl rfl ((BK.kept hcc id).kept hcd id) Tryd.underlying77 HINF.out ?_)
      | fail)
    have BI : Blk wd wb.heap.size 77 (bcells (xorB 54 (pk.take 0) ++ List.replicate (64 - 0) 0)).toArray := by have := BI0.kept hcd id; exact this
    have BO : Blk wd wc.heap.size 77 (bcells (xorB 92 (pk.take 0) ++ List.replicate (64 - 0) 0)).toArray := BO0
    have CD : Chg (fun _ => False) wb wd := hcc.trans hcd (fun _ _ h => h)
    have hgx : wb.heap.size < wc.heap.size := by have := HSC.out; omega
    have LD := LB.kept CD id id
    have HaD := Ha2.kept CD id
    have HbD := Hb.kept CD id
    have BRD := BR.kept CD id
    have hbd := hbb.kept CD (fun _ _ => id)
    have CDw : Chg (fun _ => False) w wd := CB.trans CD (fun _ _ h => h)
    clear BI0 BO0 hcc hcd HSC HSD LB Ha2 Hb BR hbb CB CD BK
    generalize wb.heap.size = ga at *
    generalize wc.heap.size = gb at *
    clear wb wc
    go_loopw [28] (fun i wr => ∃ k : Nat, k ≤ 64 ∧ i = .int .i64 k ∧ Blk wr ga 77 (bcells (xorB 54 (pk.take k) ++ List.replicate (64 - k) 0)).toArray ∧ Blk wr gb 77 (bcells (xorB 92 (pk.take k) ++ List.replicate (64 - k) 0)).toArray ∧ Chg (fun q => q = ga ∨ q = gb) wd wr) (fun i _ => 64 - (intOf i).toNat)
    case atStart => exact ⟨0, Nat.zero_le _, rfl, BI, BO, Chg.refl _ _⟩
    case round =>
      clear BI BO
      obtain ⟨k, hk, rfl, BI, BO, C⟩ := hrel
      by_cases hlt : k < 64
      · have hkp : k < pk.length := by omega
        have hxi := fun w => run_index_arr (P := Tryd.prog) (w := w) Tryd.underlying77 Tryd.underlying5 Tryd.sizeOf5 .i64 hpl hkp
        have e54 : bits BinOp.xor IntKind.u8 (pk[k].toNat : Int) 54 = ((pk[k] ^^^ 54).toNat : Int) := xor_u8 pk[k] 54
        have e92 : bits BinOp.xor IntKind.u8 (pk[k].toNat : Int) 92 = ((pk[k] ^^^ 92).toNat : Int) := xor_u8 pk[k] 92
        have hrep : List.replicate (64 - k) (0 : UInt8) = 0 :: List.replicate (64 - (k + 1)) 0 := by rw [← List.replicate_succ]; congr 1; omega
        have t54 : xorB 54 (pk.take (k + 1)) = xorB 54 (pk.take k) ++ [pk[k] ^^^ 54] := by rw [List.take_succ_eq_append_getElem hkp]; unfold xorB; rw [List.map_append]; rfl
        have t92 : xorB 92 (pk.take (k + 1)) = xorB 92 (pk.take k) ++ [pk[k] ^^^ 92] := by rw [List.take_succ_eq_append_getElem hkp]; unfold xorB; rw [List.map_append]; rfl
        have l54 : (xorB 54 (pk.take k)).length = k := by simp [xorB]; omega
        have l92 : (xorB 92 (pk.take k)).length = k := by simp [xorB]; omega
        rw [hrep] at BI BO
        have fi := BI.free k
        have ci : wr.cell? ⟨ga, k, none⟩ = some (.int .u8 0) := by rw [BI.cell, List.getElem?_toArray, bcells_get, List.getElem?_append_right (by omega), l54]; simp
        have fo := BO.free k
        have co : wr.cell? ⟨gb, k, none⟩ = some (.int .u8 0) := by rw [BO.cell, List.getElem?_toArray, bcells_get, List.getElem?_append_right (by omega), l92]; simp
        generalize pk[k] = p at *
        have E54 := Lib.hid e54
        have E92 := Lib.hid e92
        have T54 := Lib.hid t54
        have T92 := Lib.hid t92
        have L54 := Lib.hid l54
        have L92 := Lib.hid l92
        have hga' : ga < wr.heap.size := BI.lt
        have hgb' : gb < wr.heap.size := BO.lt
        have HBI := Lib.hid BI
        have HBO := Lib.hid BO
        clear e54 e92 t54 t92 l54 l92 hrep BI BO
        go_wp2_with fail
        rw [E54.out, E92.out]
        refine ⟨⟨k + 1, by omega, by go_num, ?_, ?_, (C.setCell (.inr (.inl rfl)) _).setCell (.inr (.inr rfl)) _⟩, by simp [intOf]; omega⟩
        · have e := (HBI.out.set k (.int .u8 ((p ^^^ 54).toNat : Int)))
          rw [bset1 L54.out] at e
          have e2 := e.kept (setCell_chg _ ⟨gb, k, none⟩ (.int .u8 ((p ^^^ 92).toNat : Int))) (by show ¬ ga = gb; omega)
          rw [T54.out]
          simpa using e2
        · have e0 := HBO.out.kept (setCell_chg _ ⟨ga, k, none⟩ (.int .u8 ((p ^^^ 54).toNat : Int))) (by show ¬ gb = ga; omega)
          have e := (e0.set k (.int .u8 ((p ^^^ 92).toNat : Int)))
          rw [bset1 L92.out] at e
          rw [T92.out]
          simpa using e
      · obtain rfl : k = 64 := by omega
        rw [List.take_of_length_le (by omega), Nat.sub_self, List.replicate_zero, List.append_nil] at BI BO
        have l54 : (xorB 54 pk).length = 64 := by simp [xorB]; exact hpl
        have l92 : (xorB 92 pk).length = 64 := by simp [xorB]; exact hpl
        have RI := BI.rd (by rw [l54]; unfold maxLen; omega)
        have RO := BO.rd (by rw [l92]; unfold maxLen; omega)
        rw [l54] at RI
        rw [l92] at RO
        generalize xorB 54 pk = p1 at *
        generalize xorB 92 pk = p2 at *
        have LR := LD.kept C (by omega) (by omega)
        have Ha := HaD.kept C (by omega)
        have Hb := HbD.kept C (by omega)
        have BR := BRD.kept C (by omega)
        have RB := hbd.kept C (fun q hq => by have := hly q hq; omega)
        have CR : Chg (fun _ => False) w wr := CDw.trans C (fun q hq h => by omega)
        clear BI BO C LD HaD HbD BRD hbd CDw hL hx hxb
        go_wp2_with fail
        ((with_reducible refine (hwrite_any gi [] p1 _ wr Ha LR RI (fun q hq => by simp [rdb] at hq; omega) (by omega) (by simp) (by omega)).mono ?_); rintro e x1 ⟨rfl, Ha1, K1⟩)
        rw [List.nil_append] at Ha1
        have LR1 := LR.kept K1 (by omega) (by omega)
        have Hb1 := Hb.kept K1 (by omega)
        have BR1 := BR.kept K1 (by omega)
        have RB1 := RB.kept K1 (fun q hq => by have := hly q hq; omega)
        have RO1 := RO.kept K1 (fun q hq => by simp [rdb] at hq; omega)
        have CR1 : Chg (fun _ => False) w x1 := CR.trans K1 (fun q hq h => by omega)
        clear LR Ha Hb BR RB RI RO CR K1
        go_wp2_with fail
        ((with_reducible refine (hwrite_any gi p1 b y x1 Ha1 LR1 RB1 (fun q hq => by have := hly q hq; omega) (by omega) (by omega) (by omega)).mono ?_); rintro e x2 ⟨rfl, Ha2, K2⟩)
        have LR2 := LR1.kept K2 (by omega) (by omega)
        have Hb2 := Hb1.kept K2 (by omega)
        have BR2 := BR1.kept K2 (by omega)
        have RO2 := RO1.kept K2 (fun q hq => by simp [rdb] at hq; omega)
        have CR2 : Chg (fun _ => False) w x2 := CR1.trans K2 (fun q hq h => by omega)
        clear LR1 Ha1 Hb1 BR1 RB1 RO1 CR1 K2
        go_wp2_with fail
        ((with_reducible refine (hdone_any gi (p1 ++ b) x2 Ha2 LR2 (by omega) (by rw [List.length_append]; omega)).mono ?_); rintro e x3 ⟨rfl, K3⟩)
        have LR3 := LR2.kept K3 id id
        have Hb3 := Hb2.kept K3 id
        have BR3 := BR2.kept K3 id
        have RO3 := RO2.kept K3 (fun _ _ => id)
        have CR3 : Chg (fun _ => False) w x3 := CR2.trans K3 (fun _ _ h => h)
        have hdi := dg_length (p1 ++ b)
        generalize dg (p1 ++ b) = di at *
        have hidi : (Tryd.prog.info? 34).map (·.size) = some (bcells di).toArray.size := by rw [List.size_toArray, bcells_length, hdi]; kernel_rfl
        have HIDI := Lib.hid hidi
        have HDI := Lib.hid hdi
        have HSI2 := Lib.hid (show (bcells di).toArray.size = 32 by rw [List.size_toArray, bcells_length, hdi])
        have hx3 : gb < x3.heap.size := RO3.lt gb (by simp [rdb])
        clear LR2 Ha2 Hb2 BR2 RO2 CR2 K3 hdi hidi
        unfold arrV
        go_wp2_with (first
          | ((with_reducible show wpList _ _ _ (⟨some 13, _, _, _, _, _⟩ :: _) _ _); refine wpl_alloc_row rfl 34 rfl Tryd.zeroValue34 ?_; intro x4 B4 hc4 hs4; have HS4 := Lib.hid hs4; clear hs4)
          | ((with_reducible show wpList _ _ _ (⟨none, .store _ (.tmp 13) (.tmp 48), _, _, _, _⟩ :: _) _ _); refine wpl_store_row rfl 34 (.tmp 13) (.tmp 48) rfl rfl rfl B4 HIDI.out (by rw [HSI2.out]; rfl) (arr_one _) ?_; intro x5 B5 hc5)
          | fail)
        have K45 : Chg (fun q => q = x3.heap.size) x3 x5 := (hc4.mono fun _ _ h => h.elim).trans hc5 (fun _ _ h => h)
        have LR5 := LR3.kept K45 (by omega) (by omega)
        have Hb5 := Hb3.kept K45 (by omega)
        have BR5 := BR3.kept K45 (by omega)
        have RO5 := RO3.kept K45 (fun q hq => by simp [rdb] at hq; omega)
        have CR5 : Chg (fun _ => False) w x5 := CR3.trans K45 (fun q hq h => by omega)
        have RD5 : Rd x5 (.slice (some ⟨x3.heap.size, 0, none⟩) 32 32) di := by have := B5.rd (by rw [HDI.out]; unfold maxLen; omega); rwa [HDI.out] at this
        clear LR3 Hb3 BR3 RO3 CR3 K45 B4 B5 hc4 hc5
        generalize x3.heap.size = gd at *
        ((with_reducible refine (hwrite_any gj [] p2 _ x5 Hb5 LR5 RO5 (fun q hq => by simp [rdb] at hq; omega) (by omega) (by simp) (by omega)).mono ?_); rintro e x6 ⟨rfl, Hb6, K6⟩)
        rw [List.nil_append] at Hb6
        have LR6 := LR5.kept K6 (by omega) (by omega)
        have BR6 := BR5.kept K6 (by omega)
        have RD6 := RD5.kept K6 (fun q hq => by simp [rdb] at hq; omega)
        have CR6 : Chg (fun _ => False) w x6 := CR5.trans K6 (fun q hq h => by omega)
        clear LR5 Hb5 BR5 RO5 RD5 CR5 K6
        go_wp2_with fail
        ((with_reducible refine (hwrite_any gj p2 di _ x6 Hb6 LR6 RD6 (fun q hq => by simp [rdb] at hq; omega) (by omega) (by omega) (by rw [HDI.out]; decide)).mono ?_); rintro e x7 ⟨rfl, Hb7, K7⟩)
        have LR7 := LR6.kept K7 (by omega) (by omega)
        have BR7 := BR6.kept K7 (by omega)
        have CR7 : Chg (fun _ => False) w x7 := CR6.trans K7 (fun q hq h => by omega)
        clear LR6 Hb6 BR6 RD6 CR6 K7
        go_wp2_with fail
        ((with_reducible refine (hdone_any gj (p2 ++ di) x7 Hb7 LR7 (by omega) (by rw [List.length_append, HDI.out]; omega)).mono ?_); rintro e x8 ⟨rfl, K8⟩)
        have BR8 := Lib.hid (BR7.kept K8 id)
        have CR8 : Chg (fun _ => False) w x8 := CR7.trans K8 (fun _ _ h => h)
        have hde := dg_length (p2 ++ di)
        generalize dg (p2 ++ di) = de at *
        have HIDE := Lib.hid (show (Tryd.prog.info? 34).map (·.size) = some (bcells de).toArray.size by rw [List.size_toArray, bcells_length, hde]; kernel_rfl)
        have HSI3 := Lib.hid (show (bcells de).toArray.size = 32 by rw [List.size_toArray, bcells_length, hde])
        clear LR7 Hb7 BR7 CR7 K8 hde
        unfold arrV
        go_wp2_with (first
          | ((with_reducible show wpList _ _ _ (⟨none, .store _ (.tmp 4) (.tmp 56), _, _, _, _⟩ :: _) _ _); refine wpl_store_row rfl 34 (.tmp 4) (.tmp 56) rfl rfl rfl BR8.out HIDE.out (by rw [HSI3.out]; rfl) (arr_one _) ?_; intro x9 B9 hc9)
          | fail)
        refine bodyPost_ret (results_cell_row rfl _ _ w.heap.size 34 (bcells de).toArray (0, 0) _ rfl B9 Tryd.underlying34 rfl HIDE.out) rfl ?_
        refine ⟨by rw [HKD.out]; rfl, CR8.trans hc9 (fun q hq h => by omega)⟩
  · go_enter Tryd.func17, Tryd.ntmps17
    go_wp2_with (first
      | ((with_reducible show wpList _ _ _ (⟨some 4, _, _, _, _, _⟩ :: _) _ _); refine wpl_alloc_row rfl 34 rfl Tryd.zeroValue34 ?_; intro w1 B1 hc1 hs1; have HS1 := Lib.hid hs1; clear hs1)
      | ((with_reducible show wpList _ _ _ (⟨some 5, _, _, _, _, _⟩ :: _) _ _); refine wpl_alloc_row rfl 77 rfl Tryd.zeroValue77 ?_; intro w2 B2 hc2 hs2'; have HS2 := Lib.hid hs2'; clear hs2')
      | ((with_reducible show wpList _ _ _ (⟨some 24, _, _, _, _, _⟩ :: _) _ _); refine Shut.out ?_)
      | fail)
    have B2' : Blk w2 w1.heap.size 77 (bcells (List.replicate 64 0)).toArray := B2
    have B1' : Blk w1 w.heap.size 34 (bcells (List.replicate 32 0)).toArray := B1
    have hgk : w.heap.size < w1.heap.size := by have := HS1.out; omega
    have C12 : Chg (fun _ => False) w w2 := hc1.trans hc2 (fun _ _ h => h)
    have hgk2 : w1.heap.size < w2.heap.size := by have := HS2.out; omega
    have B1w := B1'.kept hc2 id
    clear B1 B2 B1' HS1 HS2 hc1 hc2
    generalize w1.heap.size = gk at *
    clear w1
    have hpk : padKey key = key ++ List.replicate (64 - key.length) 0 := by unfold padKey; rw [if_neg hlong]
    have HPK := Lib.hid hpk
    clear hpk
    have hxk := hx.kept C12 (fun _ _ => id)
    show wpList _ _ _ _ _ _
    go_wp2_with (first
      | ((with_reducible show wpList _ _ _ (⟨some 24, _, _, _, _, _⟩ :: _) _ _); refine wpl_copy_rd rfl (.tmp 22) (.tmp 23) 22 rfl Tryd.underlying22 HSZ.out rfl rfl hxk (by omega) B2' (by simp; omega) ?_; intro w6 B6 C6)
      | fail)
    have BZ : Blk w6 gk 77 (bcells (padKey key)).toArray := by
      have e : (bcells (List.replicate 64 0)).take 0 ++ bcells key ++ (bcells (List.replicate 64 0)).drop (0 + key.length) = bcells (key ++ List.replicate (64 - key.length) 0) := by
        rw [Nat.zero_add, ← bcells_drop, List.drop_replicate, bcells_append, List.take_zero, List.nil_append]
      rw [HPK.out, ← e]; exact B6
    have B1Z := B1w.kept C6 (by omega)
    have CZ : Chg (fun _ => False) w w6 := C12.trans C6 (fun q hq e => by omega)
    have hzz : gk < w6.heap.size := BZ.lt
    clear HPK C6 B6 B2' B1w C12 hxk
    generalize w6 = wz at *
    have hpl := padKey_length key
    have HKD : Hid (kdg key b = dg (xorB 92 (padKey key) ++ dg (xorB 54 (padKey key) ++ b))) := Lib.hid rfl
    generalize padKey key = pk at *
    have LZ := hL.kept CZ id id
    have hbz := hxb.kept CZ (fun _ _ => id)
    go_wp2_with fail
    ((with_reducible refine (hnew_any wz LZ).mono ?_); rintro e wa ⟨rfl, Ha, Ca⟩)
    have LA := LZ.kept Ca id id
    have hga := Ha.lt
    go_wp2_with fail
    ((with_reducible refine (hnew_any wa LA).mono ?_); rintro e wb ⟨rfl, Hb, Cb⟩)
    have LB := LA.kept Cb id id
    have hgb := Hb.lt
    have Ha2 := Ha.kept Cb id
    have BK := (BZ.kept Ca id).kept Cb id
    have BR := (B1Z.kept Ca id).kept Cb id
    have hbb := (hbz.kept Ca (fun _ _ => id)).kept Cb (fun _ _ => id)
    have CB : Chg (fun _ => False) w wb := (CZ.trans Ca (fun _ _ h => h)).trans Cb (fun _ _ h => h)
    have hinf : (Tryd.prog.info? 77).map (·.size) = some (bcells pk).toArray.size := by rw [List.size_toArray, bcells_length, hpl]; kernel_rfl
    have HINF := Lib.hid hinf
    have hszw := CZ.size
    have hrl : w.heap.size < wz.heap.size := by omega
    clear Ha hinf LZ LA BZ B1Z hbz CZ Ca Cb
    generalize wz.heap.size = gi at *
    generalize wa.heap.size = gj at *
    clear wz wa
    go_wp2_with (first
      | ((with_reducible show wpList _ _ _ (⟨some 9, _, _, _, _, _⟩ :: _) _ _); refine wpl_alloc_row rfl 77 rfl Tryd.zeroValue77 ?_; intro wc BI0 hcc hsc; have HSC := Lib.hid hsc; clear hsc)
      | ((with_reducible show wpList _ _ _ (⟨some 10, _, _, _, _, _⟩ :: _) _ _); refine wpl_alloc_row rfl 77 rfl Tryd.zeroValue77 ?_; intro wd BO0 hcd hsd; have HSD := Lib.hid hsd; clear hsd)
      | ((with_reducible show wpList _ _ _ (⟨some 27, _, _, _, _, _⟩ :: _) _ _); refine wpl_load_row rfl 77 (.tmp 5) rfl rfl ((BK.kept hcc id).kept hcd id) Tryd.underlying77 HINF.out ?_)
      | fail)
    have BI : Blk wd wb.heap.size 77 (bcells (xorB 54 (pk.take 0) ++ List.replicate (64 - 0) 0)).toArray := by have := BI0.kept hcd id; exact this
    have BO : Blk wd wc.heap.size 77 (bcells (xorB 92 (pk.take 0) ++ List.replicate (64 - 0) 0)).toArray := BO0
    have CD : Chg (fun _ => False) wb wd := hcc.trans hcd (fun _ _ h => h)
    have hgx : wb.heap.size < wc.heap.size := by have := HSC.out; omega
    have LD := LB.kept CD id id
    have HaD := Ha2.kept CD id
    have HbD := Hb.kept CD id
    have BRD := BR.kept CD id
    have hbd := hbb.kept CD (fun _ _ => id)
    have CDw : Chg (fun _ => False) w wd := CB.trans CD (fun _ _ h => h)
    clear BI0 BO0 hcc hcd HSC HSD LB Ha2 Hb BR hbb CB CD BK
    generalize wb.heap.size = ga at *
    generalize wc.heap.size = gb at *
    clear wb wc
    go_loopw [28] (fun i wr => ∃ k : Nat, k ≤ 64 ∧ i = .int .i64 k ∧ Blk wr ga 77 (bcells (xorB 54 (pk.take k) ++ List.replicate (64 - k) 0)).toArray ∧ Blk wr gb 77 (bcells (xorB 92 (pk.take k) ++ List.replicate (64 - k) 0)).toArray ∧ Chg (fun q => q = ga ∨ q = gb) wd wr) (fun i _ => 64 - (intOf i).toNat)
    case atStart => exact ⟨0, Nat.zero_le _, rfl, BI, BO, Chg.refl _ _⟩
    case round =>
      clear BI BO
      obtain ⟨k, hk, rfl, BI, BO, C⟩ := hrel
      by_cases hlt : k < 64
      · have hkp : k < pk.length := by omega
        have hxi := fun w => run_index_arr (P := Tryd.prog) (w := w) Tryd.underlying77 Tryd.underlying5 Tryd.sizeOf5 .i64 hpl hkp
        have e54 : bits BinOp.xor IntKind.u8 (pk[k].toNat : Int) 54 = ((pk[k] ^^^ 54).toNat : Int) := xor_u8 pk[k] 54
        have e92 : bits BinOp.xor IntKind.u8 (pk[k].toNat : Int) 92 = ((pk[k] ^^^ 92).toNat : Int) := xor_u8 pk[k] 92
        have hrep : List.replicate (64 - k) (0 : UInt8) = 0 :: List.replicate (64 - (k + 1)) 0 := by rw [← List.replicate_succ]; congr 1; omega
        have t54 : xorB 54 (pk.take (k + 1)) = xorB 54 (pk.take k) ++ [pk[k] ^^^ 54] := by rw [List.take_succ_eq_append_getElem hkp]; unfold xorB; rw [List.map_append]; rfl
        have t92 : xorB 92 (pk.take (k + 1)) = xorB 92 (pk.take k) ++ [pk[k] ^^^ 92] := by rw [List.take_succ_eq_append_getElem hkp]; unfold xorB; rw [List.map_append]; rfl
        have l54 : (xorB 54 (pk.take k)).length = k := by simp [xorB]; omega
        have l92 : (xorB 92 (pk.take k)).length = k := by simp [xorB]; omega
        rw [hrep] at BI BO
        have fi := BI.free k
        have ci : wr.cell? ⟨ga, k, none⟩ = some (.int .u8 0) := by rw [BI.cell, List.getElem?_toArray, bcells_get, List.getElem?_append_right (by omega), l54]; simp
        have fo := BO.free k
        have co : wr.cell? ⟨gb, k, none⟩ = some (.int .u8 0) := by rw [BO.cell, List.getElem?_toArray, bcells_get, List.getElem?_append_right (by omega), l92]; simp
        generalize pk[k] = p at *
        have E54 := Lib.hid e54
        have E92 := Lib.hid e92
        have T54 := Lib.hid t54
        have T92 := Lib.hid t92
        have L54 := Lib.hid l54
        have L92 := Lib.hid l92
        have hga' : ga < wr.heap.size := BI.lt
        have hgb' : gb < wr.heap.size := BO.lt
        have HBI := Lib.hid BI
        have HBO := Lib.hid BO
        clear e54 e92 t54 t92 l54 l92 hrep BI BO
        go_wp2_with fail
        rw [E54.out, E92.out]
        refine ⟨⟨k + 1, by omega, by go_num, ?_, ?_, (C.setCell (.inr (.inl rfl)) _).setCell (.inr (.inr rfl)) _⟩, by simp [intOf]; omega⟩
        · have e := (HBI.out.set k (.int .u8 ((p ^^^ 54).toNat : Int)))
          rw [bset1 L54.out] at e
          have e2 := e.kept (setCell_chg _ ⟨gb, k, none⟩ (.int .u8 ((p ^^^ 92).toNat : Int))) (by show ¬ ga = gb; omega)
          rw [T54.out]
          simpa using e2
        · have e0 := HBO.out.kept (setCell_chg _ ⟨ga, k, none⟩ (.int .u8 ((p ^^^ 54).toNat : Int))) (by show ¬ gb = ga; omega)
          have e := (e0.set k (.int .u8 ((p ^^^ 92).toNat : Int)))
          rw [bset1 L92.out] at e
          rw [T92.out]
          simpa using e
      · obtain rfl : k = 64 := by omega
        rw [List.take_of_length_le (by omega), Nat.sub_self, List.replicate_zero, List.append_nil] at BI BO
        have l54 : (xorB 54 pk).length = 64 := by simp [xorB]; exact hpl
        have l92 : (xorB 92 pk).length = 64 := by simp [xorB]; exact hpl
        have RI := BI.rd (by rw [l54]; unfold maxLen; omega)
        have RO := BO.rd (by rw [l92]; unfold maxLen; omega)
        rw [l54] at RI
        rw [l92] at RO
        generalize xorB 54 pk = p1 at *
        generalize xorB 92 pk = p2 at *
        have LR := LD.kept C (by omega) (by omega)
        have Ha := HaD.kept C (by omega)
        have Hb := HbD.kept C (by omega)
        have BR := BRD.kept C (by omega)
        have RB := hbd.kept C (fun q hq => by have := hly q hq; omega)
        have CR : Chg (fun _ => False) w wr := CDw.trans C (fun q hq h => by omega)
        clear BI BO C LD HaD HbD BRD hbd CDw hL hx hxb
        go_wp2_with fail
        ((with_reducible refine (hwrite_any gi [] p1 _ wr Ha LR RI (fun q hq => by simp [rdb] at hq; omega) (by omega) (by simp) (by omega)).mono ?_); rintro e x1 ⟨rfl, Ha1, K1⟩)
        rw [List.nil_append] at Ha1
        have LR1 := LR.kept K1 (by omega) (by omega)
        have Hb1 := Hb.kept K1 (by omega)
        have BR1 := BR.kept K1 (by omega)
        have RB1 := RB.kept K1 (fun q hq => by have := hly q hq; omega)
        have RO1 := RO.kept K1 (fun q hq => by simp [rdb] at hq; omega)
        have CR1 : Chg (fun _ => False) w x1 := CR.trans K1 (fun q hq h => by omega)
        clear LR Ha Hb BR RB RI RO CR K1
        go_wp2_with fail
        ((with_reducible refine (hwrite_any gi p1 b y x1 Ha1 LR1 RB1 (fun q hq => by have := hly q hq; omega) (by omega) (by omega) (by omega)).mono ?_); rintro e x2 ⟨rfl, Ha2, K2⟩)
        have LR2 := LR1.kept K2 (by omega) (by omega)
        have Hb2 := Hb1.kept K2 (by omega)
        have BR2 := BR1.kept K2 (by omega)
        have RO2 := RO1.kept K2 (fun q hq => by simp [rdb] at hq; omega)
        have CR2 : Chg (fun _ => False) w x2 := CR1.trans K2 (fun q hq h => by omega)
        clear LR1 Ha1 Hb1 BR1 RB1 RO1 CR1 K2
        go_wp2_with fail
        ((with_reducible refine (hdone_any gi (p1 ++ b) x2 Ha2 LR2 (by omega) (by rw [List.length_append]; omega)).mono ?_); rintro e x3 ⟨rfl, K3⟩)
        have LR3 := LR2.kept K3 id id
        have Hb3 := Hb2.kept K3 id
        have BR3 := BR2.kept K3 id
        have RO3 := RO2.kept K3 (fun _ _ => id)
        have CR3 : Chg (fun _ => False) w x3 := CR2.trans K3 (fun _ _ h => h)
        have hdi := dg_length (p1 ++ b)
        generalize dg (p1 ++ b) = di at *
        have hidi : (Tryd.prog.info? 34).map (·.size) = some (bcells di).toArray.size := by rw [List.size_toArray, bcells_length, hdi]; kernel_rfl
        have HIDI := Lib.hid hidi
        have HDI := Lib.hid hdi
        have HSI2 := Lib.hid (show (bcells di).toArray.size = 32 by rw [List.size_toArray, bcells_length, hdi])
        have hx3 : gb < x3.heap.size := RO3.lt gb (by simp [rdb])
        clear LR2 Ha2 Hb2 BR2 RO2 CR2 K3 hdi hidi
        unfold arrV
        go_wp2_with (first
          | ((with_reducible show wpList _ _ _ (⟨some 13, _, _, _, _, _⟩ :: _) _ _); refine wpl_alloc_row rfl 34 rfl Tryd.zeroValue34 ?_; intro x4 B4 hc4 hs4; have HS4 := Lib.hid hs4; clear hs4)
          | ((with_reducible show wpList _ _ _ (⟨none, .store _ (.tmp 13) (.tmp 48), _, _, _, _⟩ :: _) _ _); refine wpl_store_row rfl 34 (.tmp 13) (.tmp 48) rfl rfl rfl B4 HIDI.out (by rw [HSI2.out]; rfl) (arr_one _) ?_; intro x5 B5 hc5)
          | fail)
        have K45 : Chg (fun q => q = x3.heap.size) x3 x5 := (hc4.mono fun _ _ h => h.elim).trans hc5 (fun _ _ h => h)
        have LR5 := LR3.kept K45 (by omega) (by omega)
        have Hb5 := Hb3.kept K45 (by omega)
        have BR5 := BR3.kept K45 (by omega)
        have RO5 := RO3.kept K45 (fun q hq => by simp [rdb] at hq; omega)
        have CR5 : Chg (fun _ => False) w x5 := CR3.trans K45 (fun q hq h => by omega)
        have RD5 : Rd x5 (.slice (some ⟨x3.heap.size, 0, none⟩) 32 32) di := by have := B5.rd (by rw [HDI.out]; unfold maxLen; omega); rwa [HDI.out] at this
        clear LR3 Hb3 BR3 RO3 CR3 K45 B4 B5 hc4 hc5
        generalize x3.heap.size = gd at *
        ((with_reducible refine (hwrite_any gj [] p2 _ x5 Hb5 LR5 RO5 (fun q hq => by simp [rdb] at hq; omega) (by omega) (by simp) (by omega)).mono ?_); rintro e x6 ⟨rfl, Hb6, K6⟩)
        rw [List.nil_append] at Hb6
        have LR6 := LR5.kept K6 (by omega) (by omega)
        have BR6 := BR5.kept K6 (by omega)
        have RD6 := RD5.kept K6 (fun q hq => by simp [rdb] at hq; omega)
        have CR6 : Chg (fun _ => False) w x6 := CR5.trans K6 (fun q hq h => by omega)
        clear LR5 Hb5 BR5 RO5 RD5 CR5 K6
        go_wp2_with fail
        ((with_reducible refine (hwrite_any gj p2 di _ x6 Hb6 LR6 RD6 (fun q hq => by simp [rdb] at hq; omega) (by omega) (by omega) (by rw [HDI.out]; decide)).mono ?_); rintro e x7 ⟨rfl, Hb7, K7⟩)
        have LR7 := LR6.kept K7 (by omega) (by omega)
        have BR7 := BR6.kept K7 (by omega)
        have CR7 : Chg (fun _ => False) w x7 := CR6.trans K7 (fun q hq h => by omega)
        clear LR6 Hb6 BR6 RD6 CR6 K7
        go_wp2_with fail
        ((with_reducible refine (hdone_any gj (p2 ++ di) x7 Hb7 LR7 (by omega) (by rw [List.length_append, HDI.out]; omega)).mono ?_); rintro e x8 ⟨rfl, K8⟩)
        have BR8 := Lib.hid (BR7.kept K8 id)
        have CR8 : Chg (fun _ => False) w x8 := CR7.trans K8 (fun _ _ h => h)
        have hde := dg_length (p2 ++ di)
        generalize dg (p2 ++ di) = de at *
        have HIDE := Lib.hid (show (Tryd.prog.info? 34).map (·.size) = some (bcells de).toArray.size by rw [List.size_toArray, bcells_length, hde]; kernel_rfl)
        have HSI3 := Lib.hid (show (bcells de).toArray.size = 32 by rw [List.size_toArray, bcells_length, hde])
        clear LR7 Hb7 BR7 CR7 K8 hde
        unfold arrV
        go_wp2_with (first
          | ((with_reducible show wpList _ _ _ (⟨none, .store _ (.tmp 4) (.tmp 56), _, _, _, _⟩ :: _) _ _); refine wpl_store_row rfl 34 (.tmp 4) (.tmp 56) rfl rfl rfl BR8.out HIDE.out (by rw [HSI3.out]; rfl) (arr_one _) ?_; intro x9 B9 hc9)
          | fail)
        refine bodyPost_ret (results_cell_row rfl _ _ w.heap.size 34 (bcells de).toArray (0, 0) _ rfl B9 Tryd.underlying34 rfl HIDE.out) rfl ?_
        refine ⟨by rw [HKD.out]; rfl, CR8.trans hc9 (fun q hq h => by omega)⟩
end Go.Proofs.YtafgeppdchnceaaDoor
