import Derived.Test.YtlanabocdoacgaaDoorDRemade
import Derived.Test.YtlanabocdoacgaaDoorDPairs
set_option linter.unusedVariables false
namespace Go.Proofs.YtlanabocdoacgaaDoor
open Go Go.RowKit Go.Sat
set_option maxRecDepth 100000 in
set_option maxHeartbeats 6400000 in
theorem dmade_walk (v : Value) (ps : List PairV) (W : World) (hE : Errnos W) (hv : RdPairs W v ps) (hb : bulkPairs ps ≤ 1048576) :
    Calls Tryd.prog 7 #[v] W fun e w' => e = .returned (.bool true) ∧ Chg (fun _ => False) W w' := by
  have hW0 : 0 < W.heap.size := World.block_lt_of_cell? W _ (hE 0 (by decide))
  have hlen := bulk_len ps
  obtain ⟨va, vc, rfl⟩ := hv.form
  have HE := Lib.hid hE
  have HV := Lib.hid hv
  clear hE hv
  go_enter Tryd.func7, Tryd.ntmps7
  go_wp2_with fail
  (refine (lives_any W HE.out).mono ?_; rintro e w0 ⟨rfl, C0⟩)
  go_wp2_with fail
  go_loopw [3] (fun s3 wr => ∃ i : Nat, i ≤ ps.length ∧ s3 = .int .i64 (i : Int) ∧ Chg (fun _ => False) W wr) (fun s3 _ => ps.length - (intOf s3).toNat)
  case atStart => exact ⟨0, by omega, rfl, C0⟩
  case round =>
    clear C0
    obtain ⟨i, hi, rfl, C⟩ := hrel
    by_cases hlt : i < ps.length
    · have hq1 : decide (i < ps.length) = true := by simp; omega
      by_cases h60 : i < 60
      · have hq2 : decide ((i : Int) < 60) = true := by simp; omega
        obtain ⟨gv, off, c, e1, hgv, hcell⟩ : ∃ b off c, (Value.slice va ps.length vc) = .slice (some ⟨b, off, none⟩) ps.length c ∧ b < W.heap.size ∧ ∀ j u, ps[i].cells[j]? = some u → W.cell? ⟨b, off + i * 2 + j, none⟩ = some u := by
          rcases HV.out.2 with ⟨h0, _⟩ | ⟨b, off, c, h1, h2, h3⟩
          · rw [h0] at hlt; simp at hlt
          · exact ⟨b, off, c, h1, h2, h3 i hlt⟩
        cases e1
        have hok := HV.out.1 ps[i] (List.getElem_mem hlt)
        have hbm := bulk_mem (List.getElem_mem hlt)
        generalize ps[i] = p at *
        obtain ⟨vb, vd, b, d⟩ := p
        obtain ⟨hrb, hrd⟩ := hok
        simp only at hrb hrd hbm
        have hk0 : ∀ w, Chg (fun _ => False) W w → w.cell? ⟨gv, off + i * 2, none⟩ = some vb := fun w c => by rw [c.cell (p := ⟨gv, off + i * 2, none⟩) hgv id]; exact hcell 0 vb rfl
        have hk1 : ∀ w, Chg (fun _ => False) W w → w.cell? ⟨gv, off + i * 2 + 1, none⟩ = some vd := fun w c => by rw [c.cell (p := ⟨gv, off + i * 2 + 1, none⟩) hgv id]; exact hcell 1 vd rfl
        have K0 := Lib.hid hk0
        have K1 := Lib.hid hk1
        have RB := Lib.hid hrb
        have RD := Lib.hid hrd
        have hblt : ∀ k, rdb vb = some k → k < W.heap.size := fun k hk => Rd.lt hrb hk
        have hdlt : ∀ k, rdb vd = some k → k < W.heap.size := fun k hk => Rd.lt hrd hk
        have HBL := Lib.hid hblt
        have HDL := Lib.hid hdlt
        have hbl : b.length ≤ 2000000 := by omega
        have hdl : d.length ≤ 2000000 := by omega
        obtain ⟨ba, bc, rfl, _⟩ := hrb.form
        obtain ⟨da, dc, rfl, _⟩ := hrd.form
        have c0 := K0.out _ C
        clear hcell hk0 hk1 hrb hrd hbm hblt hdlt
        go_wp2_with fail
        (refine (lend_any _ b wr (RB.out.kept C (fun _ _ => id)) (by omega)).mono ?_; rintro e w1 ⟨gb, cb, rfl, lb, D1, hgb⟩)
        have C1 := C.trans D1 (fun _ _ h => h)
        have c1 := K1.out _ C1
        have hWr := C.size
        have hgb1 := lb.own.lt gb rfl
        clear D1 c0 C
        go_wp2_with fail
        (refine (lend_any _ d w1 (RD.out.kept C1 (fun _ _ => id)) (by omega)).mono ?_; rintro e w2 ⟨gd, cd, rfl, ld, D2, hgd⟩)
        have C2 := C1.trans D2 (fun _ _ h => h)
        have lb2 := lb.kept D2 id
        have hgd2 := ld.own.lt gd rfl
        clear D2 c1 C1 lb
        go_wp2_with fail
        by_cases hs : b.length ≤ 65536 ∧ d.length ≤ 65536
        · obtain ⟨hs1, hs2⟩ := hs
          have hq3 : decide (65536 < (b.length : Int)) = false := by simp; omega
          have hq4 : decide (65536 < (d.length : Int)) = false := by simp; omega
          (refine (makeS_any _ _ b d w2 lb2.rd ld.rd hs1 hs2).mono ?_; rintro e w3 ⟨y3, rfl, O3, hb3, D3⟩)
          have C3 := C2.trans D3 (fun _ _ h => h)
          have lb3 := lb2.kept D3 id
          have ld3 := ld.kept D3 id
          have RY3 : Rd w3 y3 (makeR b d) := Own.rd O3
          have hy3 : ∀ k, rdb y3 = some k → k ≠ gb ∧ k ≠ gd := fun k hk => by have := hb3 k (rdb_own hk); exact ⟨by omega, by omega⟩
          have HY3 := Lib.hid hy3
          obtain ⟨ya, yc, rfl, _⟩ := RY3.form
          have c0 := K0.out _ C3
          have c1 := K1.out _ C3
          have hml := make_len b d hs1 hs2
          clear C2 lb2 ld O3 hb3 D3 hy3
          simp only
          go_wp2_with fail
          refine wp_region_text mixed (by kernel_rfl) ?_
          go_wp2_with fail
          have D4 : Chg (fun _ => False) w3 w3.drew := (Chg.refl _ w3).drew
          have C4 := C3.trans D4 (fun _ _ h => h)
          have lb4 := lb3.kept D4 id
          have ld4 := ld3.kept D4 id
          have RY4 := RY3.kept D4 (fun _ _ => id)
          clear C3 lb3 ld3 RY3 D4
          generalize w3.drew = w4 at *
          have c0 := K0.out _ C4
          have c1 := K1.out _ C4
          (refine (dnum_any 0 w4).mono ?_; rintro e w' ⟨rfl, rfl⟩)
          go_wp2_with fail
          (refine (bound_any _ _ b d w4 (RB.out.kept C4 (fun _ _ => id)) (RD.out.kept C4 (fun _ _ => id)) (by omega) (by omega)).mono ?_; rintro e w5 ⟨rfl, D5⟩)
          have C5 := C4.trans D5 (fun _ _ h => h)
          have lb5 := lb4.kept D5 id
          have ld5 := ld4.kept D5 id
          have RY5 := RY4.kept D5 (fun _ _ => id)
          have hle : decide ((d.length : Int) - (lcp b d : Int) - (backR b d : Int) + 32 < ((makeR b d).length : Int)) = false := by simp; omega
          clear C4 lb4 ld4 RY4 D5
          go_wp2_with fail
          refine TQ.normal (by kernel_rfl) ?_
          go_wp2_with fail
          clear hle
          (refine (applyS_any _ _ b d w5 (HE.out.kept C5 id) lb5.rd RY5 hs1 hs2).mono ?_; rintro e w6 ⟨y6, rfl, O6, hb6, D6⟩)
          have C6 := C5.trans D6 (fun _ _ h => h)
          have lb6 := lb5.kept D6 id
          have ld6 := ld5.kept D6 id
          have RY6 := RY5.kept D6 (fun _ _ => id)
          have RT6 : Rd w6 y6 d := Own.rd O6
          obtain ⟨ta, tc, rfl, _⟩ := RT6.form
          clear C5 lb5 ld5 RY5 O6 hb6 D6
          simp only
          go_wp2_with fail
          (refine (sizeS_any _ b d w6 (HE.out.kept C6 id) RY6 hs1 hs2).mono ?_; rintro e w7 ⟨rfl, D7⟩)
          have C7 := C6.trans D7 (fun _ _ h => h)
          have lb7 := lb6.kept D7 id
          have ld7 := ld6.kept D7 id
          have RY7 := RY6.kept D7 (fun _ _ => id)
          have RT7 := RT6.kept D7 (fun _ _ => id)
          clear C6 lb6 ld6 RY6 RT6 D7
          simp only
          go_wp2_with fail
          (refine (makeS_any _ _ b d w7 lb7.rd ld7.rd hs1 hs2).mono ?_; rintro e w8 ⟨y8, rfl, O8, hb8, D8⟩)
          have C8 := C7.trans D8 (fun _ _ h => h)
          have lb8 := lb7.kept D8 id
          have ld8 := ld7.kept D8 id
          have RY8 := RY7.kept D8 (fun _ _ => id)
          have RT8 := RT7.kept D8 (fun _ _ => id)
          have RA8 : Rd w8 y8 (makeR b d) := Own.rd O8
          obtain ⟨aa, ac, rfl, _⟩ := RA8.form
          have c0 := K0.out _ C8
          have c1 := K1.out _ C8
          clear C7 lb7 ld7 RY7 RT7 O8 hb8 D8
          generalize makeR b d = mk at *
          simp only
          go_wp2_with fail
          (refine (dnum_any 0 w8).mono ?_; rintro e w' ⟨rfl, rfl⟩)
          go_wp2_with fail
          (refine (dnum_any 0 w8).mono ?_; rintro e w' ⟨rfl, rfl⟩)
          go_wp2_with fail
          (refine (dnum_any 0 w8).mono ?_; rintro e w' ⟨rfl, rfl⟩)
          go_wp2_with fail
          (refine (eqM_any _ _ d w8 RT8 (RD.out.kept C8 (fun _ _ => id)) (by omega)).mono ?_; rintro e w9 ⟨rfl, D9⟩)
          have C9 := C8.trans D9 (fun _ _ h => h)
          have lb9 := lb8.kept D9 id
          have ld9 := ld8.kept D9 id
          have RY9 := RY8.kept D9 (fun _ _ => id)
          have RA9 := RA8.kept D9 (fun _ _ => id)
          clear C8 lb8 ld8 RY8 RA8 RT8 D9 c0 c1
          go_wp2_with fail
          (refine (eqM_any _ _ mk w9 RA9 RY9 (by omega)).mono ?_; rintro e w10 ⟨rfl, D10⟩)
          have C10 := C9.trans D10 (fun _ _ h => h)
          have lb10 := lb9.kept D10 id
          have ld10 := ld9.kept D10 id
          clear C9 lb9 ld9 RY9 RA9 D10
          have c0 := K0.out _ C10
          have c1 := K1.out _ C10
          go_wp2_with fail
          (refine (intact_any gb cb _ b w10 lb10 (RB.out.kept C10 (fun _ _ => id)) (by omega)).mono ?_; rintro e w' ⟨rfl, rfl⟩)
          go_wp2_with fail
          (refine (intact_any gd cd _ d w10 ld10 (RD.out.kept C10 (fun _ _ => id)) (by omega)).mono ?_; rintro e w' ⟨rfl, rfl⟩)
          go_wp2_with fail
          (refine (remade_any _ _ gb cb gd cd b d w10 (HE.out.kept C10 id) lb10 ld10 (RB.out.kept C10 (fun _ _ => id)) (RD.out.kept C10 (fun _ _ => id)) (fun k hk => by have := HBL.out k hk; exact ⟨by omega, by omega⟩) (fun k hk => by have := HDL.out k hk; exact ⟨by omega, by omega⟩) (by omega) ⟨by omega, by omega⟩ hs1 hs2).mono ?_; rintro e w11 ⟨rfl, D11⟩)
          have C11 : Chg (fun _ => False) W w11 := C10.trans D11 (fun q hq h => by have h' : q = gb ∨ q = gd := h; omega)
          clear C10 lb10 ld10 D11 c0 c1
          go_wp2_with fail
          go_roundw
          case rel => exact ⟨i + 1, by omega, by go_num, C11⟩
          case measure => simp [intOf]; omega
        · (refine (makeL_any _ _ b d w2 lb2.rd ld.rd hbl hdl hs).mono ?_; rintro e w3 ⟨y3, rfl, O3, hb3, D3⟩)
          have C3 := C2.trans D3 (fun _ _ h => h)
          have RY3 : Rd w3 y3 [] := Own.rd O3
          obtain ⟨ya, yc, rfl, _⟩ := RY3.form
          clear C2 lb2 ld RY3 O3 hb3 D3
          simp only
          by_cases hs1 : b.length ≤ 65536
          · have hq3 : decide (65536 < (b.length : Int)) = false := by simp; omega
            have hq4 : decide (65536 < (d.length : Int)) = true := by simp; omega
            clear hs hs1
            go_wp2_with fail
            (refine (dnum_any 73 w3).mono ?_; rintro e w' ⟨rfl, rfl⟩)
            go_wp2_with fail
            go_roundw
            case rel => exact ⟨i + 1, by omega, by go_num, C3⟩
            case measure => simp [intOf]; omega
          · have hq3 : decide (65536 < (b.length : Int)) = true := by simp; omega
            clear hs hs1
            go_wp2_with fail
            (refine (dnum_any 73 w3).mono ?_; rintro e w' ⟨rfl, rfl⟩)
            go_wp2_with fail
            go_roundw
            case rel => exact ⟨i + 1, by omega, by go_num, C3⟩
            case measure => simp [intOf]; omega
      · have hq2 : decide ((i : Int) < 60) = false := by simp; omega
        clear h60
        go_wp2_with fail
        go_ret
        exact ⟨rfl, C⟩
    · have hq1 : decide (i < ps.length) = false := by simp; omega
      clear hlt
      go_wp2_with fail
      go_ret
      exact ⟨rfl, C⟩
end Go.Proofs.YtlanabocdoacgaaDoor
