import Derived.Test.YtlanabocdoacgaaDoorDPairs
set_option linter.unusedVariables false
namespace Go.Proofs.YtlanabocdoacgaaDoor
open Go Go.RowKit Go.Sat
set_option maxRecDepth 100000 in
set_option maxHeartbeats 6400000 in
theorem dexact_walk (v : Value) (ps : List PairV) (W : World) (hE : Errnos W) (hv : RdPairs W v ps) (hb : bulkPairs ps ≤ 1048576) :
    Calls Tryd.prog 3 #[v] W fun e w' => e = .returned (.bool true) ∧ Chg (fun _ => False) W w' := by
  have hW0 : 0 < W.heap.size := World.block_lt_of_cell? W _ (hE 0 (by decide))
  have hlen := bulk_len ps
  obtain ⟨va, vc, rfl⟩ := hv.form
  have HE := Lib.hid hE
  have HV := Lib.hid hv
  clear hE hv
  go_enter Tryd.func3, Tryd.ntmps3
  go_wp2_with fail
  (refine (lives_any W HE.out).mono ?_; rintro e w0 ⟨rfl, C0⟩)
  go_wp2_with fail
  go_loopw [3] (fun s3 wr => ∃ i : Nat, i ≤ ps.length ∧ s3 = .int .i64 (i : Int) ∧ Chg (fun _ => False) W wr) (fun s3 _ => ps.length - (intOf s3).toNat)
  case atStart => exact ⟨0, by omega, rfl, C0⟩
  case round =>
    clear C0
    obtain ⟨i, hi, rfl, C⟩ := hrel
    by_cases hlt : i < ps.length
    · have hq1 : decide (i < ps.length) = true := by simp; omega
      by_cases h60 : i < 60
      · have hq2 : decide ((i : Int) < 60) = true := by simp; omega
        obtain ⟨gv, off, c, e1, hgv, hcell⟩ : ∃ b off c, (Value.slice va ps.length vc) = .slice (some ⟨b, off, none⟩) ps.length c ∧ b < W.heap.size ∧ ∀ j u, ps[i].cells[j]? = some u → W.cell? ⟨b, off + i * 2 + j, none⟩ = some u := by
          rcases HV.out.2 with ⟨h0, _⟩ | ⟨b, off, c, h1, h2, h3⟩
          · rw [h0] at hlt; simp at hlt
          · exact ⟨b, off, c, h1, h2, h3 i hlt⟩
        cases e1
        have hok := HV.out.1 ps[i] (List.getElem_mem hlt)
        have hbm := bulk_mem (List.getElem_mem hlt)
        generalize ps[i] = p at *
        obtain ⟨vb, vd, b, d⟩ := p
        obtain ⟨hrb, hrd⟩ := hok
        simp only at hrb hrd hbm
        have hk0 : ∀ w, Chg (fun _ => False) W w → w.cell? ⟨gv, off + i * 2, none⟩ = some vb := fun w c => by rw [c.cell (p := ⟨gv, off + i * 2, none⟩) hgv id]; exact hcell 0 vb rfl
        have hk1 : ∀ w, Chg (fun _ => False) W w → w.cell? ⟨gv, off + i * 2 + 1, none⟩ = some vd := fun w c => by rw [c.cell (p := ⟨gv, off + i * 2 + 1, none⟩) hgv id]; exact hcell 1 vd rfl
        have K0 := Lib.hid hk0
        have K1 := Lib.hid hk1
        have RB := Lib.hid hrb
        have RD := Lib.hid hrd
        have hblt : ∀ k, rdb vb = some k → k < W.heap.size := fun k hk => Rd.lt hrb hk
        have hdlt : ∀ k, rdb vd = some k → k < W.heap.size := fun k hk => Rd.lt hrd hk
        have HBL := Lib.hid hblt
        have HDL := Lib.hid hdlt
        have hbl : b.length ≤ 2000000 := by omega
        have hdl : d.length ≤ 2000000 := by omega
        obtain ⟨ba, bc, rfl, _⟩ := hrb.form
        obtain ⟨da, dc, rfl, _⟩ := hrd.form
        have c0 := K0.out _ C
        clear hcell hk0 hk1 hrb hrd hbm hblt hdlt
        go_wp2_with fail
        (refine (lend_any _ b wr (RB.out.kept C (fun _ _ => id)) (by omega)).mono ?_; rintro e w1 ⟨gb, cb, rfl, lb, D1, hgb⟩)
        have C1 := C.trans D1 (fun _ _ h => h)
        have c1 := K1.out _ C1
        have hWr := C.size
        have hgb1 := lb.own.lt gb rfl
        clear D1 c0 C
        go_wp2_with fail
        (refine (lend_any _ d w1 (RD.out.kept C1 (fun _ _ => id)) (by omega)).mono ?_; rintro e w2 ⟨gd, cd, rfl, ld, D2, hgd⟩)
        have C2 := C1.trans D2 (fun _ _ h => h)
        have lb2 := lb.kept D2 id
        have hgd2 := ld.own.lt gd rfl
        clear D2 c1 C1 lb
        go_wp2_with fail
        (refine (apply_any _ _ b d w2 (HE.out.kept C2 id) lb2.rd ld.rd hbl hdl).mono ?_; rintro e w3 ⟨y3, rfl, O3, hb3, D3⟩)
        have C3 := C2.trans D3 (fun _ _ h => h)
        have lb3 := lb2.kept D3 id
        have ld3 := ld.kept D3 id
        have RY3 : Rd w3 y3 (appR b d).1 := Own.rd O3
        have hy3 : ∀ k, rdb y3 = some k → k ≠ gb ∧ k ≠ gd := fun k hk => by have := hb3 k (rdb_own hk); exact ⟨by omega, by omega⟩
        have HY3 := Lib.hid hy3
        obtain ⟨ya, yc, rfl, _⟩ := RY3.form
        have L3 := appR_len b d
        have c0 := K0.out _ C3
        have c1 := K1.out _ C3
        clear C2 lb2 ld O3 hb3 D3 hy3
        go_wp2_with fail
        refine wp_region_text mixed (by kernel_rfl) ?_
        go_wp2_with fail
        have C3' := C3.drew
        (refine (rapply_any _ _ b d w3.drew (RB.out.kept C3' (fun _ _ => id)) (RD.out.kept C3' (fun _ _ => id)) hbl hdl).mono ?_; rintro e w4 ⟨y4, rfl, O4, hb4, D4⟩)
        have D34 : Chg (fun _ => False) w3 w4 := ((Chg.refl _ w3).drew).trans D4 (fun _ _ h => h)
        have C4 := C3.trans D34 (fun _ _ h => h)
        have lb4 := lb3.kept D34 id
        have ld4 := ld3.kept D34 id
        have RY4 := RY3.kept D34 (fun _ _ => id)
        have RU4 : Rd w4 y4 (appR b d).1 := Own.rd O4
        have hWx := C3.size
        have hgb3 := lb3.own.lt gb rfl
        have hgd3 := ld3.own.lt gd rfl
        have hu4 : ∀ k, rdb y4 = some k → k ≠ gb ∧ k ≠ gd := fun k hk => by have := hb4 k (rdb_own hk); have h' : w3.heap.size ≤ k := this; exact ⟨by omega, by omega⟩
        have HU4 := Lib.hid hu4
        obtain ⟨ua, uc, rfl, _⟩ := RU4.form
        clear C3 C3' lb3 ld3 RY3 O4 hb4 D4 D34 c0 c1 hu4
        generalize appR b d = r1 at *
        obtain ⟨t1, f1⟩ := r1
        simp only at L3 RY4 RU4 HY3 HU4 ⊢
        go_wp2_with fail
        refine TQ.normal (by kernel_rfl) ?_
        go_wp2_with fail
        (refine (size_any _ d w4 (HE.out.kept C4 id) ld4.rd hdl).mono ?_; rintro e w5 ⟨rfl, D5⟩)
        have C5 := C4.trans D5 (fun _ _ h => h)
        have lb5 := lb4.kept D5 id
        have ld5 := ld4.kept D5 id
        have RY5 := RY4.kept D5 (fun _ _ => id)
        have RU5 := RU4.kept D5 (fun _ _ => id)
        have c1 := K1.out _ C5
        clear C4 lb4 ld4 RY4 RU4 D5
        go_wp2_with fail
        (refine (rsize_any _ d w5 (RD.out.kept C5 (fun _ _ => id)) hdl).mono ?_; rintro e w6 ⟨rfl, D6⟩)
        have C6 := C5.trans D6 (fun _ _ h => h)
        have lb6 := lb5.kept D6 id
        have ld6 := ld5.kept D6 id
        have RY6 := RY5.kept D6 (fun _ _ => id)
        have RU6 := RU5.kept D6 (fun _ _ => id)
        clear C5 lb5 ld5 RY5 RU5 D6 c1
        generalize sizeR d = r3 at *
        obtain ⟨s1, s2, s3⟩ := r3
        simp only
        go_wp2_with fail
        (refine (dnum_any (f1 : Int) w6).mono ?_; rintro e w' ⟨rfl, rfl⟩)
        go_wp2_with fail
        (refine (eqT_any _ _ t1 w6 RY6 RU6 L3).mono ?_; rintro e w7 ⟨rfl, D7⟩)
        have C7 := C6.trans D7 (fun _ _ h => h)
        have lb7 := lb6.kept D7 id
        have ld7 := ld6.kept D7 id
        have RY7 := RY6.kept D7 (fun _ _ => id)
        have RU7 := RU6.kept D7 (fun _ _ => id)
        clear C6 lb6 ld6 RY6 RU6 D7
        go_wp2_with fail
        (refine (dnum_any (s3 : Int) w7).mono ?_; rintro e w' ⟨rfl, rfl⟩)
        have c0 := K0.out _ C7
        have c1 := K1.out _ C7
        go_wp2_with fail
        (refine (intact_any gb cb _ b w7 lb7 (RB.out.kept C7 (fun _ _ => id)) (by omega)).mono ?_; rintro e w' ⟨rfl, rfl⟩)
        go_wp2_with fail
        (refine (intact_any gd cd _ d w7 ld7 (RD.out.kept C7 (fun _ _ => id)) (by omega)).mono ?_; rintro e w' ⟨rfl, rfl⟩)
        go_wp2_with fail
        (refine (placed_any _ _ gb cb gd cd b d w7 (HE.out.kept C7 id) lb7 ld7 (RB.out.kept C7 (fun _ _ => id)) (RD.out.kept C7 (fun _ _ => id)) (fun k hk => by have := HBL.out k hk; exact ⟨by omega, by omega⟩) (fun k hk => by have := HDL.out k hk; exact ⟨by omega, by omega⟩) (by omega) ⟨by omega, by omega⟩ hbl hdl).mono ?_; rintro e w8 ⟨rfl, D8⟩)
        have C8 : Chg (fun _ => False) W w8 := C7.trans D8 (fun q hq h => by have h' : q = gb ∨ q = gd := h; omega)
        have RY8 := RY7.kept D8 (fun k hk h => by rcases h with h | h; exact (HY3.out k hk).1 h; exact (HY3.out k hk).2 h)
        have RU8 := RU7.kept D8 (fun k hk h => by rcases h with h | h; exact (HU4.out k hk).1 h; exact (HU4.out k hk).2 h)
        clear C7 lb7 ld7 RY7 RU7 D8 c0 c1
        go_wp2_with fail
        (refine (eqT_any _ _ t1 w8 RY8 RU8 L3).mono ?_; rintro e w9 ⟨rfl, D9⟩)
        have C9 := C8.trans D9 (fun _ _ h => h)
        clear C8 RY8 RU8 D9
        go_wp2_with fail
        go_roundw
        case rel => exact ⟨i + 1, by omega, by go_num, C9⟩
        case measure => simp [intOf]; omega
      · have hq2 : decide ((i : Int) < 60) = false := by simp; omega
        clear h60
        go_wp2_with fail
        go_ret
        exact ⟨rfl, C⟩
    · have hq1 : decide (i < ps.length) = false := by simp; omega
      clear hlt
      go_wp2_with fail
      go_ret
      exact ⟨rfl, C⟩
end Go.Proofs.YtlanabocdoacgaaDoor
