import Derived.Test.YtafgeppdchnceaaDoorExactC
set_option linter.unusedVariables false
namespace Go.Proofs.YtafgeppdchnceaaDoor
open Go Go.RowKit Go.Sat
set_option maxRecDepth 100000 in
set_option maxHeartbeats 6400000 in
theorem exact_walk (vd vk vc : Value) (d key : List UInt8) (W : World) (hL : Laid W) (hR : RLaid W) (hd : Rd W vd d) (hk : Rd W vk key) (hdl : d.length ≤ 5000000) (hkl : key.length ≤ 5000000) :
    Calls Tryd.prog 5 #[.agg #[vd, vk, vc]] W fun e w' => e = .returned (.bool true) ∧ Chg (fun _ => False) W w' := by
  have hs3 := hR.size
  have Cb : Chg (fun _ => False) W (W.alloc (.cells #[vd, vk, vc] 25)) := (Chg.refl _ W).alloc _
  have B0 : Blk (W.alloc (.cells #[vd, vk, vc] 25)) W.heap.size 25 #[vd, vk, vc] := Blk.new W _ _
  have L0 := hL.kept Cb id id
  have R0 := hR.kept Cb id id
  obtain ⟨da, dc, rfl, _⟩ := hd.form
  obtain ⟨ka, kc, rfl, _⟩ := hk.form
  have hsz : (Tryd.prog.info? 34).map (·.size) = some 32 := by kernel_rfl
  have HSZ := Lib.hid hsz
  obtain ⟨fd, hfd⟩ : ∃ fd, fd = xorB 85 d := ⟨_, rfl⟩
  obtain ⟨fk, hfk⟩ : ∃ fk, fk = xorB 85 key := ⟨_, rfl⟩
  have hfdl : fd.length = d.length := by rw [hfd, xorB_length]
  have hfkl : fk.length = key.length := by rw [hfk, xorB_length]
  have hfd2 : xorB 85 fd = d := by rw [hfd, xorB_xorB]
  obtain ⟨iA, hiA⟩ : ∃ l, l = dg d := ⟨_, rfl⟩
  have liA : iA.length = 32 := by rw [hiA]; exact dg_length _
  have HiA := Lib.hid hiA.symm
  have LiA := Lib.hid liA
  have ZiA := Lib.hid (show (bcells iA).toArray.size = 32 by rw [List.size_toArray, bcells_length, liA])
  have IiA := Lib.hid (show (Tryd.prog.info? 34).map (·.size) = some (bcells iA).toArray.size by rw [List.size_toArray, bcells_length, liA]; exact hsz)
  clear hiA liA
  obtain ⟨iM, hiM⟩ : ∃ l, l = kdg key d := ⟨_, rfl⟩
  have liM : iM.length = 32 := by rw [hiM]; exact kdg_length _ _
  have HiM := Lib.hid hiM.symm
  have LiM := Lib.hid liM
  have ZiM := Lib.hid (show (bcells iM).toArray.size = 32 by rw [List.size_toArray, bcells_length, liM])
  have IiM := Lib.hid (show (Tryd.prog.info? 34).map (·.size) = some (bcells iM).toArray.size by rw [List.size_toArray, bcells_length, liM]; exact hsz)
  clear hiM liM
  obtain ⟨iB, hiB⟩ : ∃ l, l = dg fd := ⟨_, rfl⟩
  have liB : iB.length = 32 := by rw [hiB]; exact dg_length _
  have HiB := Lib.hid hiB.symm
  have LiB := Lib.hid liB
  have ZiB := Lib.hid (show (bcells iB).toArray.size = 32 by rw [List.size_toArray, bcells_length, liB])
  have IiB := Lib.hid (show (Tryd.prog.info? 34).map (·.size) = some (bcells iB).toArray.size by rw [List.size_toArray, bcells_length, liB]; exact hsz)
  clear hiB liB
  obtain ⟨iY, hiY⟩ : ∃ l, l = kdg key fd := ⟨_, rfl⟩
  have liY : iY.length = 32 := by rw [hiY]; exact kdg_length _ _
  have HiY := Lib.hid hiY.symm
  have LiY := Lib.hid liY
  have ZiY := Lib.hid (show (bcells iY).toArray.size = 32 by rw [List.size_toArray, bcells_length, liY])
  have IiY := Lib.hid (show (Tryd.prog.info? 34).map (·.size) = some (bcells iY).toArray.size by rw [List.size_toArray, bcells_length, liY]; exact hsz)
  clear hiY liY
  obtain ⟨iO, hiO⟩ : ∃ l, l = kdg fk d := ⟨_, rfl⟩
  have liO : iO.length = 32 := by rw [hiO]; exact kdg_length _ _
  have HiO := Lib.hid hiO.symm
  have LiO := Lib.hid liO
  have ZiO := Lib.hid (show (bcells iO).toArray.size = 32 by rw [List.size_toArray, bcells_length, liO])
  have IiO := Lib.hid (show (Tryd.prog.info? 34).map (·.size) = some (bcells iO).toArray.size by rw [List.size_toArray, bcells_length, liO]; exact hsz)
  clear hiO liO
  have HFD := Lib.hid hfd.symm
  have HFK := Lib.hid hfk.symm
  have HFDL := Lib.hid hfdl
  have HFKL := Lib.hid hfkl
  have HFD2 := Lib.hid hfd2
  clear hfd hfk hfdl hfkl hfd2 hsz
  go_enter Tryd.func5, Tryd.ntmps5
  go_wp2_with fail
  generalize W.alloc (.cells #[.slice da d.length dc, .slice ka key.length kc, vc] 25) = w0 at *
  have cD0 : w0.cell? ⟨W.heap.size, 0, none⟩ = some (.slice da d.length dc) := by rw [B0.cell]; rfl
  have cK0 : w0.cell? ⟨W.heap.size, 1, none⟩ = some (.slice ka key.length kc) := by rw [B0.cell]; rfl
  have HB0 := Lib.hid B0
  clear B0
  refine wp_region_pin (fun _ => false) [1, 4] [3, 3] (Same (fun _ => False) w0) mixed (by kernel_rfl) (fun _ _ h e => h.ext e) (Same.refl _ _).drew ?_
  simp only [wpSegs, List.take_succ_cons, List.take_zero, List.drop_succ_cons, List.drop_zero]
  have C0 : Chg (fun _ => False) w0 w0.drew := (Chg.refl _ w0).drew
  go_wp2_with fail
  ((with_reducible refine (lend_any _ d _ ((hd.kept Cb (fun _ _ => id)).kept C0 (fun _ _ => id)) (by omega)).mono ?_); rintro e w1 ⟨gd, cd, rfl, ld, C1, hgd⟩)
  have K1 := Lib.hid (C0.trans C1 (fun _ _ h => h))
  clear C0 C1
  go_wp2_with fail
  refine SegQ.normal ⟨fun z o h _ => K1.out.keep h id, ?_⟩
  have cK1 : w1.cell? ⟨W.heap.size, 1, none⟩ = some (.slice ka key.length kc) := by rw [K1.out.cell (p := ⟨W.heap.size, 1, none⟩) HB0.out.lt id]; exact cK0
  have hgd1 : gd < w1.heap.size := ld.own.lt gd rfl
  go_wp2_with fail
  ((with_reducible refine (lend_any _ key _ ((hk.kept Cb (fun _ _ => id)).kept K1.out (fun _ _ => id)) (by omega)).mono ?_); rintro e w2 ⟨gk, ck, rfl, lk, C2, hgk⟩)
  have K2 := Lib.hid (K1.out.trans C2 (fun _ _ h => h))
  have hbl0 := HB0.out.lt
  have E2 : Ex W w2 #[.slice da d.length dc, .slice ka key.length kc, vc] gd cd gk ck d key [] := by
    have hgd' : w0.heap.size ≤ gd := hgd
    exact ⟨L0.kept K2.out id id, R0.kept K2.out id id, ld.kept C2 id, lk, HB0.out.kept K2.out id, Cb.trans K2.out (fun _ _ h => h), fun p hp => (List.not_mem_nil hp).elim, by omega, by omega, by omega, hs3⟩
  clear C2 ld lk L0 R0
  go_wp2_with fail
  refine SegQ.normal ⟨fun z o h _ => K2.out.keep h id, ?_⟩
  go_wp2_with fail
  refine TQ.normal (by kernel_rfl) ⟨⟨PinAt.cell rfl rfl rfl cD0 id (fun X h => by go_simp), PinAt.cell rfl rfl rfl cK0 id (fun X h => by go_simp), trivial⟩, ?_⟩
  clear cD0 cK0 cK1 K1 K2 HB0 Cb hgd hgk hgd1 hbl0 w0 w1
  have hdk := E2.dk
  have hWd := E2.gd
  have hWk := E2.gk
  go_wp2_with fail
  ((with_reducible refine (dg_arr _ d iA HiA.out _ E2.L (E2.ld.rdN rfl) (by omega)).mono ?_); rintro e w3 ⟨rfl, C3⟩)
  have E3 := E2.kept C3
  clear C3 E2
  go_wp2_with (first
    | ((with_reducible show wpList _ _ _ (⟨some 5, _, _, _, _, _⟩ :: _) _ _); refine wpl_alloc_row rfl 34 rfl Tryd.zeroValue34 ?_; intro w4 B4 hc4 hs4; have HS4 := Lib.hid hs4; clear hs4)
    | ((with_reducible show wpList _ _ _ (⟨none, .store _ (.tmp 5) (.tmp 19), _, _, _, _⟩ :: _) _ _); refine wpl_store_row rfl 34 (.tmp 5) (.tmp 19) rfl rfl rfl B4 IiA.out (by rw [ZiA.out]; rfl) (arr_one _) ?_; intro w5 B5 hc5)
    | fail)
  have E5 := E3.put hc4 hc5 B5
  have hg5 := E3.bx.lt
  have hz5 : w3.heap.size < w5.heap.size := B5.lt
  clear B4 B5 hc4 hc5 HS4 E3
  generalize w3.heap.size = g5 at *
  go_wp2_with fail
  ((with_reducible refine (kdg_arr _ _ key d iM HiM.out _ E5.L (E5.lk.rdN rfl) (E5.ld.rdN rfl) (by omega) (by omega)).mono ?_); rintro e w6 ⟨rfl, C6⟩)
  have E6 := E5.kept C6
  clear C6 E5
  go_wp2_with (first
    | ((with_reducible show wpList _ _ _ (⟨some 6, _, _, _, _, _⟩ :: _) _ _); refine wpl_alloc_row rfl 34 rfl Tryd.zeroValue34 ?_; intro w7 B7 hc7 hs7; have HS7 := Lib.hid hs7; clear hs7)
    | ((with_reducible show wpList _ _ _ (⟨none, .store _ (.tmp 6) (.tmp 22), _, _, _, _⟩ :: _) _ _); refine wpl_store_row rfl 34 (.tmp 6) (.tmp 22) rfl rfl rfl B7 IiM.out (by rw [ZiM.out]; rfl) (arr_one _) ?_; intro w8 B8 hc8)
    | ((with_reducible show wpList _ _ _ (⟨some 24, _, _, _, _, _⟩ :: _) _ _); refine Shut.out ?_)
    | fail)
  show wpList _ _ _ _ _ _
  have E8 := E6.put hc7 hc8 B8
  have hg6 := E6.bx.lt
  have hz6 : w6.heap.size < w8.heap.size := B8.lt
  clear B7 B8 hc7 hc8 HS7 E6
  generalize w6.heap.size = g6 at *
  have cD : w8.cell? ⟨W.heap.size, 0, none⟩ = some (.slice da d.length dc) := by rw [E8.bx.cell]; rfl
  have cK : w8.cell? ⟨W.heap.size, 1, none⟩ = some (.slice ka key.length kc) := by rw [E8.bx.cell]; rfl
  have RD := Lib.hid (hd.kept E8.chg (fun _ _ => id))
  have RK := Lib.hid (hk.kept E8.chg (fun _ _ => id))
  have LDx := Lib.hid E8.ld
  have LKx := Lib.hid E8.lk
  go_wp2_with fail
  (refine (intact_any gd cd _ d _ LDx.out RD.out (by omega)).mono ?_; rintro e w' ⟨rfl, rfl⟩)
  go_wp2_with fail
  (refine (intact_any gk ck _ key _ LKx.out RK.out (by omega)).mono ?_; rintro e w' ⟨rfl, rfl⟩)
  clear cD cK RD RK LDx LKx
  go_wp2_with fail
  ((with_reducible refine (dg_arr _ d iA HiA.out _ E8.L (E8.ld.rdN rfl) (by omega)).mono ?_); rintro e w9 ⟨rfl, C9⟩)
  have E9 := E8.kept C9
  clear C9 E8
  go_wp2_with (first
    | ((with_reducible show wpList _ _ _ (⟨some 7, _, _, _, _, _⟩ :: _) _ _); refine wpl_alloc_row rfl 34 rfl Tryd.zeroValue34 ?_; intro w10 B10 hc10 hs10; have HS10 := Lib.hid hs10; clear hs10)
    | ((with_reducible show wpList _ _ _ (⟨none, .store _ (.tmp 7) (.tmp 36), _, _, _, _⟩ :: _) _ _); refine wpl_store_row rfl 34 (.tmp 7) (.tmp 36) rfl rfl rfl B10 IiA.out (by rw [ZiA.out]; rfl) (arr_one _) ?_; intro w11 B11 hc11)
    | fail)
  have E11 := E9.put hc10 hc11 B11
  have hg7 := E9.bx.lt
  have hz7 : w9.heap.size < w11.heap.size := B11.lt
  clear B10 B11 hc10 hc11 HS10 E9
  generalize w9.heap.size = g7 at *
  go_wp2_with fail
  ((with_reducible refine (flip_n gd cd d.length d _ E11.ld rfl (by omega)).mono ?_); rintro e w12 ⟨rfl, l12, C12⟩)
  rw [HFD.out] at l12
  have E12 := E11.flipD l12 C12
  clear l12 C12 E11
  go_wp2_with fail
  ((with_reducible refine (dg_arr _ fd iB HiB.out _ E12.L (E12.ld.rdN HFDL.out) (by have := HFDL.out; omega)).mono ?_); rintro e w13 ⟨rfl, C13⟩)
  have E13 := E12.kept C13
  clear C13 E12
  go_wp2_with (first
    | ((with_reducible show wpList _ _ _ (⟨some 8, _, _, _, _, _⟩ :: _) _ _); refine wpl_alloc_row rfl 34 rfl Tryd.zeroValue34 ?_; intro w14 B14 hc14 hs14; have HS14 := Lib.hid hs14; clear hs14)
    | ((with_reducible show wpList _ _ _ (⟨none, .store _ (.tmp 8) (.tmp 40), _, _, _, _⟩ :: _) _ _); refine wpl_store_row rfl 34 (.tmp 8) (.tmp 40) rfl rfl rfl B14 IiB.out (by rw [ZiB.out]; rfl) (arr_one _) ?_; intro w15 B15 hc15)
    | fail)
  have E15 := E13.put hc14 hc15 B15
  have hg8 := E13.bx.lt
  have hz8 : w13.heap.size < w15.heap.size := B15.lt
  clear B14 B15 hc14 hc15 HS14 E13
  generalize w13.heap.size = g8 at *
  go_wp2_with fail
  ((with_reducible refine (kdg_arr _ _ key fd iY HiY.out _ E15.L (E15.lk.rdN rfl) (E15.ld.rdN HFDL.out) (by omega) (by have := HFDL.out; omega)).mono ?_); rintro e w16 ⟨rfl, C16⟩)
  have E16 := E15.kept C16
  clear C16 E15
  go_wp2_with (first
    | ((with_reducible show wpList _ _ _ (⟨some 9, _, _, _, _, _⟩ :: _) _ _); refine wpl_alloc_row rfl 34 rfl Tryd.zeroValue34 ?_; intro w17 B17 hc17 hs17; have HS17 := Lib.hid hs17; clear hs17)
    | ((with_reducible show wpList _ _ _ (⟨none, .store _ (.tmp 9) (.tmp 43), _, _, _, _⟩ :: _) _ _); refine wpl_store_row rfl 34 (.tmp 9) (.tmp 43) rfl rfl rfl B17 IiY.out (by rw [ZiY.out]; rfl) (arr_one _) ?_; intro w18 B18 hc18)
    | fail)
  have E18 := E16.put hc17 hc18 B18
  have hg9 := E16.bx.lt
  have hz9 : w16.heap.size < w18.heap.size := B18.lt
  clear B17 B18 hc17 hc18 HS17 E16
  generalize w16.heap.size = g9 at *
  go_wp2_with fail
  ((with_reducible refine (flip_n gd cd d.length fd _ E18.ld HFDL.out (by omega)).mono ?_); rintro e w19 ⟨rfl, l19, C19⟩)
  rw [HFD2.out] at l19
  have E19 := E18.flipD l19 C19
  clear l19 C19 E18
  go_wp2_with fail
  ((with_reducible refine (kdg_arr _ _ key d iM HiM.out _ E19.L (E19.lk.rdN rfl) (E19.ld.rdN rfl) (by omega) (by omega)).mono ?_); rintro e w20 ⟨rfl, C20⟩)
  have E20 := E19.kept C20
  clear C20 E19
  go_wp2_with (first
    | ((with_reducible show wpList _ _ _ (⟨some 10, _, _, _, _, _⟩ :: _) _ _); refine wpl_alloc_row rfl 34 rfl Tryd.zeroValue34 ?_; intro w21 B21 hc21 hs21; have HS21 := Lib.hid hs21; clear hs21)
    | ((with_reducible show wpList _ _ _ (⟨none, .store _ (.tmp 10) (.tmp 48), _, _, _, _⟩ :: _) _ _); refine wpl_store_row rfl 34 (.tmp 10) (.tmp 48) rfl rfl rfl B21 IiM.out (by rw [ZiM.out]; rfl) (arr_one _) ?_; intro w22 B22 hc22)
    | fail)
  have E22 := E20.put hc21 hc22 B22
  have hg10 := E20.bx.lt
  have hz10 : w20.heap.size < w22.heap.size := B22.lt
  clear B21 B22 hc21 hc22 HS21 E20
  generalize w20.heap.size = g10 at *
  go_wp2_with fail
  ((with_reducible refine (flip_n gk ck key.length key _ E22.lk rfl (by omega)).mono ?_); rintro e w23 ⟨rfl, l23, C23⟩)
  rw [HFK.out] at l23
  have E23 := E22.flipK l23 C23
  clear l23 C23 E22
  go_wp2_with fail
  ((with_reducible refine (kdg_arr _ _ fk d iO HiO.out _ E23.L (E23.lk.rdN HFKL.out) (E23.ld.rdN rfl) (by have := HFKL.out; omega) (by omega)).mono ?_); rintro e w24 ⟨rfl, C24⟩)
  have E24 := E23.kept C24
  clear C24 E23
  go_wp2_with (first
    | ((with_reducible show wpList _ _ _ (⟨some 11, _, _, _, _, _⟩ :: _) _ _); refine wpl_alloc_row rfl 34 rfl Tryd.zeroValue34 ?_; intro w25 B25 hc25 hs25; have HS25 := Lib.hid hs25; clear hs25)
    | ((with_reducible show wpList _ _ _ (⟨none, .store _ (.tmp 11) (.tmp 53), _, _, _, _⟩ :: _) _ _); refine wpl_store_row rfl 34 (.tmp 11) (.tmp 53) rfl rfl rfl B25 IiO.out (by rw [ZiO.out]; rfl) (arr_one _) ?_; intro w26 B26 hc26)
    | fail)
  have E26 := E24.put hc25 hc26 B26
  have hg11 := E24.bx.lt
  have hz11 : w24.heap.size < w26.heap.size := B26.lt
  clear B25 B26 hc25 hc26 HS25 E24
  generalize w24.heap.size = g11 at *
  have B5 : Blk w26 g5 34 (bcells iA).toArray := (E26.ids (g5, iA) (by simp)).1
  have B6 : Blk w26 g6 34 (bcells iM).toArray := (E26.ids (g6, iM) (by simp)).1
  have B7 : Blk w26 g7 34 (bcells iA).toArray := (E26.ids (g7, iA) (by simp)).1
  have B8 : Blk w26 g8 34 (bcells iB).toArray := (E26.ids (g8, iB) (by simp)).1
  have B9 : Blk w26 g9 34 (bcells iY).toArray := (E26.ids (g9, iY) (by simp)).1
  have B10 : Blk w26 g10 34 (bcells iM).toArray := (E26.ids (g10, iM) (by simp)).1
  have B11 : Blk w26 g11 34 (bcells iO).toArray := (E26.ids (g11, iO) (by simp)).1
  have eiA := eql_same iA LiA.out
  have eiM := eql_same iM LiM.out
  have eiB := eql_same iB LiB.out
  have eiY := eql_same iY LiY.out
  have eiO := eql_same iO LiO.out
  have cD : w26.cell? ⟨W.heap.size, 0, none⟩ = some (.slice da d.length dc) := by rw [E26.bx.cell]; rfl
  have cK : w26.cell? ⟨W.heap.size, 1, none⟩ = some (.slice ka key.length kc) := by rw [E26.bx.cell]; rfl
  have hgb := E26.bx.lt
  have HB5 := Lib.hid B5
  have HB6 := Lib.hid B6
  have HB7 := Lib.hid B7
  have HB8 := Lib.hid B8
  have HB9 := Lib.hid B9
  have HB10 := Lib.hid B10
  have HB11 := Lib.hid B11
  clear B5 B6 B7 B8 B9 B10 B11
  have HE := Lib.hid E26
  have hdlx : fd.length = d.length → fd.length ≤ 5000000 := fun h => by omega
  clear E26 hdk hWd hWk hgb
  have K0 := Lib.hid ((Chg.refl (fun _ => False) w26).drew)
  go_wp2_with fail
  refine wp_region_pin (fun o => o.dst == some 56 || o.dst == some 60 || o.dst == some 68 || o.dst == some 78 || o.dst == some 88) [9, 17, 19, 27, 32] [3, 4, 6, 1, 1, 8, 1, 1, 6, 3] (Same (fun _ => False) w26) mixed (by kernel_rfl) (fun _ _ h e => h.ext e) (Same.refl _ _).drew ?_
  simp only [wpSegs, List.take_succ_cons, List.take_zero, List.drop_succ_cons, List.drop_zero]
  go_wp2_with (first
    | ((with_reducible show wpList _ _ _ (⟨some 54, _, _, _, _, _⟩ :: _) _ _); refine wpl_load_row rfl 34 (.tmp 7) rfl rfl (HB7.out.kept K0.out id) Tryd.underlying34 IiA.out ?_)
    | ((with_reducible show wpList _ _ _ (⟨some 55, _, _, _, _, _⟩ :: _) _ _); refine wpl_load_row rfl 34 (.tmp 5) rfl rfl (HB5.out.kept K0.out id) Tryd.underlying34 IiA.out ?_)
    | fail)
  refine SegQ.normal ⟨fun z o h _ => K0.out.keep h id, ?_⟩
  go_wp2_with (first
    | ((with_reducible show wpList _ _ _ (⟨some 58, _, _, _, _, _⟩ :: _) _ _); refine wpl_load_row rfl 34 (.tmp 10) rfl rfl (HB10.out.kept K0.out id) Tryd.underlying34 IiM.out ?_)
    | ((with_reducible show wpList _ _ _ (⟨some 59, _, _, _, _, _⟩ :: _) _ _); refine wpl_load_row rfl 34 (.tmp 6) rfl rfl (HB6.out.kept K0.out id) Tryd.underlying34 IiM.out ?_)
    | fail)
  refine SegQ.normal ⟨fun z o h _ => K0.out.keep h id, ?_⟩
  go_wp2_with (first
    | ((with_reducible show wpList _ _ _ (⟨some 63, _, _, _, _, _⟩ :: _) _ _); refine wpl_load_row rfl 34 (.tmp 8) rfl rfl (HB8.out.kept K0.out id) Tryd.underlying34 IiB.out ?_)
    | fail)
  ((with_reducible refine (flipped_any _ d _ ((hd.kept HE.out.chg (fun _ _ => id)).kept K0.out (fun _ _ => id)) (by omega)).mono ?_); rintro e x1 ⟨v1, rfl, R1, C1⟩)
  rw [HFD.out] at R1
  have K1 := Lib.hid (K0.out.trans C1 (fun _ _ h => h))
  clear C1
  go_wp2_with fail
  refine SegQ.normal ⟨fun z o h _ => K1.out.keep h id, ?_⟩
  go_wp2_with fail
  ((with_reducible refine (rdg_arr _ fd iB HiB.out _ (HE.out.R.kept K1.out id id) R1 (by have := HFDL.out; omega)).mono ?_); rintro e x2 ⟨rfl, C2⟩)
  have K2 := Lib.hid (K1.out.trans C2 (fun _ _ h => h))
  clear C2
  go_wp2_with fail
  refine SegQ.normal ⟨fun z o h _ => K2.out.keep h id, ?_⟩
  have cD2 : x2.cell? ⟨W.heap.size, 0, none⟩ = some (.slice da d.length dc) := by rw [K2.out.cell (p := ⟨W.heap.size, 0, none⟩) HE.out.bx.lt id]; exact cD
  have cK2 : x2.cell? ⟨W.heap.size, 1, none⟩ = some (.slice ka key.length kc) := by rw [K2.out.cell (p := ⟨W.heap.size, 1, none⟩) HE.out.bx.lt id]; exact cK
  go_wp2_with fail
  refine SegQ.normal ⟨fun z o h _ => K2.out.keep h id, ?_⟩
  go_wp2_with (first
    | ((with_reducible show wpList _ _ _ (⟨some 71, _, _, _, _, _⟩ :: _) _ _); refine wpl_load_row rfl 34 (.tmp 9) rfl rfl (HB9.out.kept K2.out id) Tryd.underlying34 IiY.out ?_)
    | fail)
  ((with_reducible refine (flipped_any _ d _ ((hd.kept HE.out.chg (fun _ _ => id)).kept K2.out (fun _ _ => id)) (by omega)).mono ?_); rintro e x3 ⟨v3, rfl, R3, C3⟩)
  rw [HFD.out] at R3
  have K3 := Lib.hid (K2.out.trans C3 (fun _ _ h => h))
  clear C3
  go_wp2_with fail
  refine SegQ.normal ⟨fun z o h _ => K3.out.keep h id, ?_⟩
  go_wp2_with fail
  ((with_reducible refine (rkdg_arr _ _ key fd iY HiY.out _ (HE.out.R.kept K3.out id id) ((hk.kept HE.out.chg (fun _ _ => id)).kept K3.out (fun _ _ => id)) R3 (by omega) (by have := HFDL.out; omega)).mono ?_); rintro e x4 ⟨rfl, C4⟩)
  have K4 := Lib.hid (K3.out.trans C4 (fun _ _ h => h))
  clear C4
  go_wp2_with fail
  refine SegQ.normal ⟨fun z o h _ => K4.out.keep h id, ?_⟩
  have cD4 : x4.cell? ⟨W.heap.size, 0, none⟩ = some (.slice da d.length dc) := by rw [K4.out.cell (p := ⟨W.heap.size, 0, none⟩) HE.out.bx.lt id]; exact cD
  have cK4 : x4.cell? ⟨W.heap.size, 1, none⟩ = some (.slice ka key.length kc) := by rw [K4.out.cell (p := ⟨W.heap.size, 1, none⟩) HE.out.bx.lt id]; exact cK
  go_wp2_with fail
  refine SegQ.normal ⟨fun z o h _ => K4.out.keep h id, ?_⟩
  go_wp2_with (first
    | ((with_reducible show wpList _ _ _ (⟨some 81, _, _, _, _, _⟩ :: _) _ _); refine wpl_load_row rfl 34 (.tmp 11) rfl rfl (HB11.out.kept K4.out id) Tryd.underlying34 IiO.out ?_)
    | fail)
  ((with_reducible refine (flipped_any _ key _ ((hk.kept HE.out.chg (fun _ _ => id)).kept K4.out (fun _ _ => id)) (by omega)).mono ?_); rintro e x5 ⟨v5, rfl, R5, C5⟩)
  rw [HFK.out] at R5
  have K5 := Lib.hid (K4.out.trans C5 (fun _ _ h => h))
  clear C5
  have cD5 : x5.cell? ⟨W.heap.size, 0, none⟩ = some (.slice da d.length dc) := by rw [K5.out.cell (p := ⟨W.heap.size, 0, none⟩) HE.out.bx.lt id]; exact cD
  have cK5 : x5.cell? ⟨W.heap.size, 1, none⟩ = some (.slice ka key.length kc) := by rw [K5.out.cell (p := ⟨W.heap.size, 1, none⟩) HE.out.bx.lt id]; exact cK
  go_wp2_with fail
  refine SegQ.normal ⟨fun z o h _ => K5.out.keep h id, ?_⟩
  go_wp2_with fail
  ((with_reducible refine (rkdg_arr _ _ fk d iO HiO.out _ (HE.out.R.kept K5.out id id) R5 ((hd.kept HE.out.chg (fun _ _ => id)).kept K5.out (fun _ _ => id)) (by have := HFKL.out; omega) (by omega)).mono ?_); rintro e x6 ⟨rfl, C6⟩)
  have K6 := Lib.hid (K5.out.trans C6 (fun _ _ h => h))
  clear C6
  go_wp2_with fail
  refine SegQ.normal ⟨fun z o h _ => K6.out.keep h id, ?_⟩
  go_wp2_with fail
  refine TQ.normal (by kernel_rfl) ⟨⟨PinAt.row rfl rfl rfl HB8.out id Tryd.underlying34 IiB.out, PinAt.row rfl rfl rfl HB9.out id Tryd.underlying34 IiY.out, PinAt.cell rfl rfl rfl cK id (fun X h => by go_simp), PinAt.row rfl rfl rfl HB11.out id Tryd.underlying34 IiO.out, PinAt.cell rfl rfl rfl cD id (fun X h => by go_simp), trivial⟩, ?_⟩
  have cD6 : x6.cell? ⟨W.heap.size, 0, none⟩ = some (.slice da d.length dc) := by rw [K6.out.cell (p := ⟨W.heap.size, 0, none⟩) HE.out.bx.lt id]; exact cD
  have cK6 : x6.cell? ⟨W.heap.size, 1, none⟩ = some (.slice ka key.length kc) := by rw [K6.out.cell (p := ⟨W.heap.size, 1, none⟩) HE.out.bx.lt id]; exact cK
  have E6 := HE.out.kept K6.out
  have HC5 := Lib.hid (HB5.out.kept K6.out id)
  have HC6 := Lib.hid (HB6.out.kept K6.out id)
  have HE6 := Lib.hid E6
  clear cD cK cD2 cK2 cD4 cK4 cD5 cK5 E6 K0 K1 K2 K3 K4 K5 K6 HB5 HB6 HB7 HB8 HB9 HB10 HB11 R1 R3 R5 HE
  have M0 := Lib.hid ((Chg.refl (fun _ => False) x6).drew)
  go_wp2_with fail
  refine wp_region_pin (fun o => o.dst == some 94 || o.dst == some 102) [0, 6, 15, 17] [4, 1, 7, 1, 4, 2] (Same (fun _ => False) x6) mixed (by kernel_rfl) (fun _ _ h e => h.ext e) (Same.refl _ _).drew ?_
  simp only [wpSegs, List.take_succ_cons, List.take_zero, List.drop_succ_cons, List.drop_zero]
  go_wp2_with (first
    | ((with_reducible show wpList _ _ _ (⟨some 90, _, _, _, _, _⟩ :: _) _ _); refine wpl_load_row rfl 34 (.tmp 5) rfl rfl (HC5.out.kept M0.out id) Tryd.underlying34 IiA.out ?_)
    | fail)
  ((with_reducible refine (rdg_arr _ d iA HiA.out _ (HE6.out.R.kept M0.out id id) ((hd.kept HE6.out.chg (fun _ _ => id)).kept M0.out (fun _ _ => id)) (by omega)).mono ?_); rintro e y1 ⟨rfl, C1⟩)
  have M1 := Lib.hid (M0.out.trans C1 (fun _ _ h => h))
  clear C1
  have dD1 : y1.cell? ⟨W.heap.size, 0, none⟩ = some (.slice da d.length dc) := by rw [M1.out.cell (p := ⟨W.heap.size, 0, none⟩) HE6.out.bx.lt id]; exact cD6
  have dK1 : y1.cell? ⟨W.heap.size, 1, none⟩ = some (.slice ka key.length kc) := by rw [M1.out.cell (p := ⟨W.heap.size, 1, none⟩) HE6.out.bx.lt id]; exact cK6
  go_wp2_with fail
  refine SegQ.normal ⟨fun z o h _ => M1.out.keep h id, ?_⟩
  go_wp2_with fail
  refine SegQ.normal ⟨fun z o h _ => M1.out.keep h id, ?_⟩
  go_wp2_with (first
    | ((with_reducible show wpList _ _ _ (⟨some 96, _, _, _, _, _⟩ :: _) _ _); refine wpl_load_row rfl 34 (.tmp 6) rfl rfl (HC6.out.kept M1.out id) Tryd.underlying34 IiM.out ?_)
    | fail)
  ((with_reducible refine (rkdg_arr _ _ key d iM HiM.out _ (HE6.out.R.kept M1.out id id) ((hk.kept HE6.out.chg (fun _ _ => id)).kept M1.out (fun _ _ => id)) ((hd.kept HE6.out.chg (fun _ _ => id)).kept M1.out (fun _ _ => id)) (by omega) (by omega)).mono ?_); rintro e y2 ⟨rfl, C2⟩)
  have M2 := Lib.hid (M1.out.trans C2 (fun _ _ h => h))
  clear C2
  go_wp2_with fail
  refine SegQ.normal ⟨fun z o h _ => M2.out.keep h id, ?_⟩
  go_wp2_with fail
  refine SegQ.normal ⟨fun z o h _ => M2.out.keep h id, ?_⟩
  go_wp2_with (first
    | ((with_reducible show wpList _ _ _ (⟨some 105, _, _, _, _, _⟩ :: _) _ _); refine wpl_load_row rfl 34 (.tmp 5) rfl rfl (HC5.out.kept M2.out id) Tryd.underlying34 IiA.out ?_)
    | fail)
  ((with_reducible refine (hex_arr iA _ LiA.out).mono ?_); rintro e y3 ⟨rfl, C3⟩)
  have M3 := Lib.hid (M2.out.trans C3 (fun _ _ h => h))
  clear C3
  go_wp2_with fail
  refine SegQ.normal ⟨fun z o h _ => M3.out.keep h id, ?_⟩
  go_wp2_with (first
    | ((with_reducible show wpList _ _ _ (⟨some 107, _, _, _, _, _⟩ :: _) _ _); refine wpl_load_row rfl 34 (.tmp 5) rfl rfl (HC5.out.kept M3.out id) Tryd.underlying34 IiA.out ?_)
    | fail)
  ((with_reducible refine (rhex_any iA _ LiA.out).mono ?_); rintro e y4 ⟨rfl, C4⟩)
  have M4 := Lib.hid (M3.out.trans C4 (fun _ _ h => h))
  clear C4
  go_wp2_with fail
  refine SegQ.normal ⟨fun z o h _ => M4.out.keep h id, ?_⟩
  go_wp2_with fail
  refine TQ.normal (by kernel_rfl) ⟨⟨PinAt.row rfl rfl rfl HC5.out id Tryd.underlying34 IiA.out, PinAt.row rfl rfl rfl HC6.out id Tryd.underlying34 IiM.out, PinAt.row rfl rfl rfl HC5.out id Tryd.underlying34 IiA.out, PinAt.row rfl rfl rfl HC5.out id Tryd.underlying34 IiA.out, trivial⟩, ?_⟩
  go_wp2_with fail
  go_ret
  exact ⟨rfl, HE6.out.chg.trans M4.out (fun _ _ h => h)⟩
end Go.Proofs.YtafgeppdchnceaaDoor
