import Derived.Test.YtafgeppdchnceaaDoorHashW
set_option linter.unusedVariables false
namespace Go.Proofs.YtafgeppdchnceaaDoor
open Go Go.RowKit Go.Sat
theorem Rounds.kept {S : Nat → Prop} {w w' : World} {K : List Nat} (h : Rounds w K) (hc : Chg S w w') (hn : ¬ S 2) : Rounds w' K :=
  ⟨fun t ht => by rw [hc.cell (p := ⟨2, t, none⟩) (World.block_lt_of_cell? w _ (h.1 t ht)) hn]; exact h.1 t ht, h.2⟩
theorem sizeU8 : ∀ w, (sizeOf 5).run Tryd.prog w = .ok 1 w := Tryd.sizeOf5
set_option maxRecDepth 100000 in
set_option maxHeartbeats 1600000 in
theorem write_any (K : List Nat) (v0 : Sha.V8) (pb : Nat) (d b : List UInt8) (x : Value) (w : World) (hI : IsH w K v0 pb d) (hR : Rounds w K) (hx : Rd w x b) (hsep : ∀ k, rdb x = some k → k ≠ pb) (h2 : 2 < pb) (hv0 : ∀ x ∈ v0.list, x < 4294967296) (hd : d.length ≤ 4000000000000000000) (hb : b.length ≤ 4000000000000000000) :
    Calls Tryd.prog 13 #[.pointer (some ⟨pb, 0, none⟩), x] w fun e w' => e = .returned (.tuple #[]) ∧ IsH w' K v0 pb (d ++ b) ∧ Chg (fun k => k = pb) w w' := by
  obtain ⟨xa, xc, rfl, _⟩ := hx.form
  obtain ⟨tail, ht, htr, B⟩ := hI
  have c73 : w.cell? ⟨pb, 73, none⟩ = some (.int .u64 ((d.length % 18446744073709551616 : Nat) : Int)) := by rw [B.cell, List.getElem?_toArray]; exact hcell_all _ _ _ _ ht
  have f73 := B.free 73
  generalize hall : d.length % 18446744073709551616 = all at *
  have HALL := Lib.hid hall
  have HB := Lib.hid B
  have HTR := Lib.hid htr
  clear B hall htr
  go_enter Tryd.func13, Tryd.ntmps13
  go_wp2_with fail
  have hw : IntKind.u64.wrap ((all : Int) + (b.length : Int)) = (((d ++ b).length % 18446744073709551616 : Nat) : Int) := by
    rw [← HALL.out, List.length_append]
    simp only [IntKind.wrap, IntKind.signed, IntKind.bits]
    simp
  rw [hw]
  have B1 := HB.out.set 73 (.int .u64 (((d ++ b).length % 18446744073709551616 : Nat) : Int))
  rw [hset_all _ _ _ _ _ ht] at B1
  have C1 : Chg (fun k => k = pb) w (w.setCell ⟨pb, 73, none⟩ (.int .u64 (((d ++ b).length % 18446744073709551616 : Nat) : Int))) := setCell_chg w ⟨pb, 73, none⟩ _
  generalize hA : (((d ++ b).length % 18446744073709551616 : Nat) : Int) = A at *
  have HA := Lib.hid hA
  have HTR0 := HTR.out
  clear hA hw c73 f73 HB
  generalize hw1 : w.setCell ⟨pb, 73, none⟩ (.int .u64 A) = w1 at *
  clear hw1
  go_loopw [1] (fun y wr => ∃ (k : Nat) (tail : List UInt8), k ≤ b.length ∧ Rd wr y (b.drop k) ∧ (∀ z, rdb y = some z → z ≠ pb) ∧ tail.length = 64 ∧ tail.take ((d ++ b.take k).length % 64) = Sha.rem (d ++ b.take k) ∧
    Blk wr pb 80 (hcells (Sha.state K v0 (d ++ b.take k)) tail ((d ++ b.take k).length % 64 : Nat) A).toArray ∧ Chg (fun z => z = pb) w wr) (fun y _ => match y with | .slice _ n _ => n | _ => 0)
  case atStart => exact ⟨0, tail, Nat.zero_le _, by simpa using hx.kept C1 (fun k hk => hsep k hk), hsep, ht, by simpa using HTR0, by simpa using B1, C1⟩
  case round =>
    clear HTR HTR0 B1 C1 ht tail
    obtain ⟨k, tail, hk, hy, hys, ht, htr, B, C⟩ := hrel
    obtain ⟨ya, yc, rfl, hyc⟩ := hy.form
    have hc72 : wr.cell? ⟨pb, 72, none⟩ = some (.int .i64 (((d ++ b.take k).length % 64 : Nat) : Int)) := by rw [B.cell, List.getElem?_toArray]; exact hcell_have _ _ _ _ ht
    have hf72 := B.free 72
    have hlk : (b.drop k).length = b.length - k := by simp
    rw [hlk] at hy hyc ⊢
    by_cases hlt : k < b.length
    · have hh : (d ++ b.take k).length % 64 < 64 := Nat.mod_lt _ (by decide)
      generalize hhv : (d ++ b.take k).length % 64 = h at *
      obtain ⟨n, hn1, hn2, hn0, hn3, hmin⟩ : ∃ n : Nat, n ≤ b.length - k ∧ n ≤ 64 - h ∧ 0 < n ∧ (n = b.length - k ∨ n = 64 - h) ∧ (if 64 - (h : Int) < ((b.length - k : Nat) : Int) then 64 - (h : Int) else ((b.length - k : Nat) : Int)) = (n : Int) := by
        by_cases hm : 64 - h < b.length - k
        · exact ⟨64 - h, by omega, by omega, by omega, .inr rfl, by rw [if_pos (by omega)]; omega⟩
        · exact ⟨b.length - k, by omega, by omega, by omega, .inl rfl, by rw [if_neg (by omega)]⟩
      have HN3 := Lib.hid hn3
      clear hn3
      have HHV := Lib.hid hhv
      have HTR := Lib.hid htr
      have HB := Lib.hid B
      have HC := Lib.hid C
      clear hhv htr B C
      have hdl : n ≤ (b.drop k).length := by simp; exact hn1
      have hpl : ((b.drop k).take n).length = n := by simp; omega
      have HPL := Lib.hid hpl
      clear hpl
      go_wp2_with fail
      refine wp_region_text mixed (by kernel_rfl) ?_
      go_wp2_with (first | ((with_reducible show wpList _ _ _ (⟨some 33, _, _, _, _, _⟩ :: _) _ _); refine wpl_arr_from rfl 77 (.tmp 28) (.tmp 32) rfl Tryd.underlying77 sizeU8 rfl rfl hh ?_) | ((with_reducible show wpList _ _ _ (⟨some 36, _, _, _, _, _⟩ :: _) _ _); refine wpl_upto rfl 22 (.tmp 34) (.tmp 35) rfl Tryd.underlying22 sizeU8 rfl hy.drew n rfl rfl hdl ?_; intro y2 hy2; obtain ⟨y2b, y2o, y2c, rfl, hc2, _⟩ := Rd.addr hy2 (by rw [HPL.out]; exact hn0); rw [HPL.out] at hy2 hc2 ⊢) | ((with_reducible show wpList _ _ _ (⟨some 37, _, _, _, _, _⟩ :: _) _ _); refine wpl_copy_part rfl (.tmp 33) (.tmp 36) 22 rfl Tryd.underlying22 (by kernel_rfl) rfl rfl (w := wr.drew) HB.out.drew (bcells ((b.drop k).take n)) (by rw [bcells_length, HPL.out]; exact (Nat.min_eq_left hn2).symm) (Rd.src_cells hy2) (by rw [bcells_length, HPL.out]; simp [hcells, ht, Sha.V8.list]; omega) (bcells_one _) ?_; intro w2 B2 hc2') | fail)
      have B3 : Blk w2 pb 80 (hcells (Sha.state K v0 (d ++ b.take k)) (tail.take h ++ (b.drop k).take n ++ tail.drop (h + n)) (h : Nat) A).toArray := by
        have e := hcopy (Sha.state K v0 (d ++ b.take k)) tail ((b.drop k).take n) (h : Nat) A h ht (by rw [HPL.out]; omega)
        rw [HPL.out] at e
        rw [← e]
        have e2 := B2
        rw [bcells_length, HPL.out] at e2
        exact e2
      obtain ⟨tail2, HT2⟩ : ∃ t2, t2 = tail.take h ++ (b.drop k).take n ++ tail.drop (h + n) := ⟨_, rfl⟩
      rw [← HT2] at B3
      have ht2 : tail2.length = 64 := by rw [HT2]; simp [ht]; omega
      have C2 : Chg (fun z => z = pb) w w2 := HC.out.drew.trans hc2' (fun _ _ h => h)
      have C2' : Chg (fun z => z = pb) wr w2 := (Chg.refl _ wr).drew.trans hc2' (fun _ _ h => h)
      have hy2' : Rd w2 (Value.slice ya (b.length - k) yc) (b.drop k) := hy.kept C2' (by rw [hlk] at hys; exact hys)
      have k72 : w2.cell? ⟨pb, 72, none⟩ = some (.int .i64 (h : Int)) := by rw [B3.cell, List.getElem?_toArray]; exact hcell_have _ _ _ _ ht2
      have g72 := B3.free 72
      have HT2' := Lib.hid HT2
      have HB3 := Lib.hid B3
      have HC2 := Lib.hid C2
      have HC2' := Lib.hid C2'
      clear B2 B3 C2 C2' hc2' HT2 hc72 hf72 HB HC hy2
      by_cases hfull : h + n = 64
      · have hq : ((h : Int) + (n : Int) == 64) = true := by simpa using (by omega : (h : Int) + (n : Int) = 64)
        refine TQ.normal (by kernel_rfl) ?_
        go_wp2_with (first | ((with_reducible show wpList _ _ _ (⟨some 48, _, _, _, _, _⟩ :: _) _ _); refine wpl_from rfl 22 (.tmp 46) (.tmp 47) rfl Tryd.underlying22 sizeU8 rfl (hy2'.kept (setCell_chg _ _ _) (by rw [hlk] at hys; exact hys)) n rfl rfl hdl ?_; intro y3 hy3 hys3) | fail)
        have hA4 : (h : Int) + (n : Int) = ((64 : Nat) : Int) := by omega
        have C3 : Chg (fun z => z = pb) w (w2.setCell ⟨pb, 72, none⟩ (.int .i64 ((h : Int) + (n : Int)))) := HC2.out.setCell (.inr rfl) _
        have B4 : Blk (w2.setCell ⟨pb, 72, none⟩ (.int .i64 ((h : Int) + (n : Int)))) pb 80 (wcells (Sha.state K v0 (d ++ b.take k)).list ++ (bcells tail2 ++ [Value.int .i64 ((h : Int) + (n : Int)), Value.int .u64 A])).toArray := by
          have e := HB3.out.set 72 (.int .i64 ((h : Int) + (n : Int)))
          rw [hset_have _ _ _ _ _ ht2] at e
          exact e
        obtain ⟨R31, R32⟩ : Rounds (w2.setCell ⟨pb, 72, none⟩ (.int .i64 ((h : Int) + (n : Int)))) K := hR.kept C3 (by omega)
        have ST := Sha.state_full K v0 (d ++ b.take k) ((b.drop k).take n) (by rw [HHV.out, HPL.out]; exact hfull)
        have hbt : (d ++ b.take k) ++ (b.drop k).take n = d ++ b.take (k + n) := by rw [List.append_assoc, List.take_add]
        rw [hbt, ← HTR.out] at ST
        have ht2e : tail2 = tail.take h ++ (b.drop k).take n := by rw [HT2'.out, List.drop_of_length_le (l := tail) (i := h + n) (by omega), List.append_nil]
        rw [← ht2e] at ST
        have hl0 : (d ++ b.take (k + n)).length % 64 = 0 := by
          rw [← hbt, List.length_append, HPL.out]
          have := HHV.out
          omega
        have ST' := Lib.hid ST
        have HL0 := Lib.hid hl0
        clear ST hbt ht2e hl0
        with_reducible refine (mix_any K pb pb 8 80 (Sha.state K v0 (d ++ b.take k)) (bcells tail2 ++ [Value.int .i64 ((h : Int) + (n : Int)), Value.int .u64 A]) tail2 _ B4 (state_lt K v0 hv0 _) R31 R32 ht2 (fun j hj => ?_)).mono ?_
        · rw [B4.cell, List.getElem?_toArray]; exact hcell_tail (Sha.state K v0 (d ++ b.take k)) tail2 _ _ ht2 j hj
        rintro e w4 ⟨rfl, B5, C5⟩
        rw [← ST'.out.1] at B5
        have B5' : Blk w4 pb 80 (hcells (Sha.state K v0 (d ++ b.take (k + n))) tail2 ((h : Int) + (n : Int)) A).toArray := B5
        have hk5 := B5'.lt
        have g5 := B5'.free 72
        have k5 : w4.cell? ⟨pb, 72, none⟩ = some (.int .i64 ((h : Int) + (n : Int))) := by rw [B5'.cell, List.getElem?_toArray]; exact hcell_have _ _ _ _ ht2
        have HB5 := Lib.hid B5'
        have HC3 := Lib.hid C3
        have HC5 := Lib.hid C5
        clear B4 R31 R32 B5 B5' C3 C5
        go_wp2_with fail
        go_roundw
        case rel =>
          have C6 := (HC3.out.trans HC5.out (fun _ _ h => h)).setCell (p := ⟨pb, 72, none⟩) (.inr rfl) (.int .i64 0)
          have B6 := HB5.out.set 72 (.int .i64 0)
          rw [hset_have _ _ _ _ _ ht2] at B6
          refine ⟨k + n, tail2, by omega, ?_, ?_, ht2, ?_, ?_, C6⟩
          · have e := hy3.kept (HC5.out.setCell (p := ⟨pb, 72, none⟩) (.inr rfl) (.int .i64 0)) (fun z hz => by have := hys3 z hz; rw [hlk] at hys; exact hys z this)
            rw [List.drop_drop] at e; exact e
          · intro z hz; have := hys3 z hz; rw [hlk] at hys; exact hys z this
          · rw [HL0.out, List.take_zero, ST'.out.2]
          · rw [HL0.out]; exact B6
        case measure =>
          obtain ⟨y3a, y3c, rfl, _⟩ := hy3.form
          simp
          omega
      · have hq : ((h : Int) + (n : Int) == 64) = false := by simpa using (by omega : ¬ (h : Int) + (n : Int) = 64)
        refine TQ.normal (by kernel_rfl) ?_
        go_wp2_with (first | ((with_reducible show wpList _ _ _ (⟨some 48, _, _, _, _, _⟩ :: _) _ _); refine wpl_from rfl 22 (.tmp 46) (.tmp 47) rfl Tryd.underlying22 sizeU8 rfl (hy2'.kept (setCell_chg _ _ _) (by rw [hlk] at hys; exact hys)) n rfl rfl hdl ?_; intro y3 hy3 hys3) | fail)
        go_roundw
        case rel =>
          have hbt : (d ++ b.take k) ++ (b.drop k).take n = d ++ b.take (k + n) := by rw [List.append_assoc, List.take_add]
          have hlen : (d ++ b.take (k + n)).length = (d ++ b.take k).length + n := by rw [← hbt, List.length_append, HPL.out]
          have hdiv : (d ++ b.take (k + n)).length / 64 = (d ++ b.take k).length / 64 := by have := HHV.out; omega
          have hmod : (d ++ b.take (k + n)).length % 64 = h + n := by have := HHV.out; omega
          have e1 := Sha.state_few K v0 (d ++ b.take k) ((b.drop k).take n) (by rw [hbt]; exact hdiv)
          have e2 := Sha.rem_few (d ++ b.take k) ((b.drop k).take n) (by rw [hbt]; exact hdiv)
          rw [hbt] at e1 e2
          have B6 := HB3.out.set 72 (.int .i64 ((h : Int) + (n : Int)))
          rw [hset_have _ _ _ _ _ ht2] at B6
          refine ⟨k + n, tail2, by omega, ?_, ?_, ht2, ?_, ?_, HC2.out.setCell (p := ⟨pb, 72, none⟩) (.inr rfl) _⟩
          · rw [List.drop_drop] at hy3; exact hy3
          · intro z hz; have := hys3 z hz; rw [hlk] at hys; exact hys z this
          · rw [hmod, e2, HT2'.out, ← HTR.out]
            rw [List.take_append_of_le_length (by simp [ht]; omega), List.take_of_length_le (by simp [ht]; omega)]
          · rw [hmod, e1]; simpa using B6
        case measure =>
          obtain ⟨y3a, y3c, rfl, _⟩ := hy3.form
          simp
          omega
    · have hkb : k = b.length := by omega
      subst hkb
      go_wp2_with fail
      go_end0
      rw [List.take_of_length_le (Nat.le_refl _)] at B htr
      exact ⟨rfl, ⟨tail, ht, htr, by rw [HA.out]; exact B⟩, C⟩
end Go.Proofs.YtafgeppdchnceaaDoor
