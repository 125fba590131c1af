import Derived.Test.YtlanabocdoacgaaDoorDApply
set_option linter.unusedVariables false
namespace Go.Proofs.YtlanabocdoacgaaDoor
open Go Go.RowKit Go.Sat
theorem evar16 (pb : Nat) (v : Value) (T : TypeId) (s : RS) (w : World) (h : IsR w pb v T errO s) :
    Calls Tryd.prog 36 #[.pointer (some ⟨pb, 0, none⟩), .int .u64 65536] w fun e w' => e = .returned (.int .u64 (s.var 65536).1) ∧ RStep w pb v T errO (s.var 65536).2 w' := evar_any pb v T s 65536 w h (by decide)
theorem evarM (pb : Nat) (v : Value) (T : TypeId) (s : RS) (w : World) (h : IsR w pb v T errO s) :
    Calls Tryd.prog 36 #[.pointer (some ⟨pb, 0, none⟩), .int .u64 18446744073709551615] w fun e w' => e = .returned (.int .u64 (s.var M64).1) ∧ RStep w pb v T errO (s.var M64).2 w' := evar_any pb v T s M64 w h (by decide)
theorem new_eye {w : World} {y : Value} {d : List UInt8} (hy : Rd w y d) (hd : d.length ≤ 1000000000) : IsR (w.alloc (.cells #[y, .int .i64 0, .int .i64 0] 91)) w.heap.size y 91 errO ⟨d, 0, 0⟩ :=
  ⟨Blk.new w _ _, hy.kept ((Chg.refl (fun _ => False) w).alloc _) (fun _ _ => id), fun k hk => by have := Rd.lt hy hk; omega, ⟨Nat.zero_le _, Nat.zero_le _⟩, hd⟩
def SizeP (W : World) (r : Nat × Nat × Nat) (e : Ending) (w' : World) : Prop := e = .returned (.tuple #[.int .i64 (r.1 : Int), .int .i64 (r.2.1 : Int), .int .i64 (r.2.2 : Int)]) ∧ Chg (fun _ => False) W w'
set_option maxRecDepth 100000 in
set_option maxHeartbeats 3200000 in
theorem size_any (y : Value) (d : List UInt8) (W : World) (hE : Errnos W) (hy : Rd W y d) (hdl : d.length ≤ 2000000) :
    Calls Tryd.prog 12 #[y] W (SizeP W (sizeR d)) := by
  have hW0 : 0 < W.heap.size := World.block_lt_of_cell? W _ (hE 0 (by decide))
  obtain ⟨ya, yc, rfl, _⟩ := hy.form
  have HE := Lib.hid hE
  clear hE
  go_enter Tryd.func12, Tryd.ntmps12
  go_wp2_with fail
  (refine (read_any _ d W hy (by omega)).mono ?_; rintro e w1 ⟨pb, v, T, rfl, R1, C1, hpb, hvb⟩)
  have hvar := rdvar16 pb v T ⟨d, 0, 0⟩ w1 R1
  obtain ⟨o1, o2, o3⟩ := RS.var_ok R1.ok 65536
  have hsz : sizeR d = (let q := ((⟨d, 0, 0⟩ : RS).var 65536).2.var M64; if q.2.met ≠ 0 then (0, 0, 70) else if 65536 < q.1 then (0, 0, 73) else (((⟨d, 0, 0⟩ : RS).var 65536).1, q.1, 0)) := rfl
  generalize ((⟨d, 0, 0⟩ : RS).var 65536) = r at *
  obtain ⟨c, s1⟩ := r
  simp only at o1 o2 hvar hsz
  have HVAR := Lib.hid hvar
  have HSZ := Lib.hid hsz
  clear hvar hsz hy o3
  go_wp2_with fail
  (refine HVAR.out.mono ?_; rintro e w2 ⟨rfl, R2, D2⟩)
  have C2 : Chg (fun _ => False) W w2 := C1.trans D2 (fun q hq h => by have h' : q = pb := h; omega)
  have hvar2 := rdvarM pb v T s1 w2 R2
  obtain ⟨p1, p2, p3⟩ := RS.var_ok o1 M64
  have HSZ' := HSZ.out
  clear HSZ
  generalize s1.var M64 = q at *
  obtain ⟨n, s2⟩ := q
  simp only at hvar2 HSZ' p1 p2
  have HV2 := Lib.hid hvar2
  have HSZ := Lib.hid HSZ'
  have hn64 : n ≤ 18446744073709551615 := p2
  clear hvar2 HSZ' p2 p3
  go_wp2_with fail
  (refine HV2.out.mono ?_; rintro e w3 ⟨rfl, R3, D3⟩)
  have C3 : Chg (fun _ => False) W w3 := C2.trans D3 (fun q hq h => by have h' : q = pb := h; omega)
  have hf3 := rfault_any pb v T s2 w3 R3 (HE.out.kept C3 id)
  go_wp2_with fail
  (refine hf3.mono ?_; rintro e w' ⟨rfl, rfl⟩)
  by_cases hm : s2.met = 0
  · have he : (errO s2.met != 0) = false := by rw [errO_zero]; simp [hm]
    by_cases hl : 65536 < n
    · have hd : decide (65536 < (n : Int)) = true := by simp; omega
      have hr : sizeR d = (0, 0, 73) := by rw [HSZ.out, if_neg (by omega), if_pos hl]
      have HR := Lib.hid hr
      clear hr
      go_wp2_with fail
      go_ret3
      rw [HR.out]
      exact ⟨rfl, C3⟩
    · have hd : decide (65536 < (n : Int)) = false := by simp; omega
      have hr : sizeR d = (c, n, 0) := by rw [HSZ.out, if_neg (by omega), if_neg hl]
      have HR := Lib.hid hr
      have hnl : n ≤ 65536 := by omega
      clear hr
      go_wp2_with fail
      go_ret3
      rw [HR.out]
      exact ⟨rfl, C3⟩
  · have he : (errO s2.met != 0) = true := by rw [errO_zero]; simp [hm]
    have hr : sizeR d = (0, 0, 70) := by rw [HSZ.out, if_pos hm]
    have HR := Lib.hid hr
    clear hr
    go_wp2_with fail
    go_ret3
    rw [HR.out]
    exact ⟨rfl, C3⟩
set_option maxRecDepth 100000 in
set_option maxHeartbeats 3200000 in
theorem rsize_any (y : Value) (d : List UInt8) (W : World) (hy : Rd W y d) (hdl : d.length ≤ 2000000) :
    Calls Tryd.prog 13 #[y] W (SizeP W (sizeR d)) := by
  obtain ⟨ya, yc, rfl, _⟩ := hy.form
  have R1 := new_eye hy (by omega)
  have C1 : Chg (fun _ => False) W (W.alloc (.cells #[.slice ya d.length yc, .int .i64 0, .int .i64 0] 91)) := (Chg.refl _ W).alloc _
  go_enter Tryd.func13, Tryd.ntmps13
  go_wp2_with fail
  generalize W.alloc (.cells #[.slice ya d.length yc, .int .i64 0, .int .i64 0] 91) = w1 at *
  obtain ⟨pb, hpb⟩ : ∃ pb, pb = W.heap.size := ⟨_, rfl⟩
  rw [← hpb] at R1 ⊢
  have hpb' : W.heap.size ≤ pb := by omega
  clear hpb
  have hvar := evar16 pb _ _ ⟨d, 0, 0⟩ w1 R1
  obtain ⟨o1, o2, o3⟩ := RS.var_ok R1.ok 65536
  have hsz : sizeR d = (let q := ((⟨d, 0, 0⟩ : RS).var 65536).2.var M64; if q.2.met ≠ 0 then (0, 0, 70) else if 65536 < q.1 then (0, 0, 73) else (((⟨d, 0, 0⟩ : RS).var 65536).1, q.1, 0)) := rfl
  generalize ((⟨d, 0, 0⟩ : RS).var 65536) = r at *
  obtain ⟨c, s1⟩ := r
  simp only at o1 o2 hvar hsz
  have HVAR := Lib.hid hvar
  have HSZ := Lib.hid hsz
  clear hvar hsz hy o3
  (refine HVAR.out.mono ?_; rintro e w2 ⟨rfl, R2, D2⟩)
  have C2 : Chg (fun _ => False) W w2 := C1.trans D2 (fun q hq h => by have h' : q = pb := h; omega)
  have hvar2 := evarM pb _ _ s1 w2 R2
  obtain ⟨p1, p2, p3⟩ := RS.var_ok o1 M64
  have HSZ' := HSZ.out
  clear HSZ
  generalize s1.var M64 = q at *
  obtain ⟨n, s2⟩ := q
  simp only at hvar2 HSZ' p1 p2
  have HV2 := Lib.hid hvar2
  have HSZ := Lib.hid HSZ'
  have hn64 : n ≤ 18446744073709551615 := p2
  clear hvar2 HSZ' p2 p3
  go_wp2_with fail
  (refine HV2.out.mono ?_; rintro e w3 ⟨rfl, R3, D3⟩)
  have C3 : Chg (fun _ => False) W w3 := C2.trans D3 (fun q hq h => by have h' : q = pb := h; omega)
  have c2 := R3.facts.2.2.1
  clear R1 R2 R3 D2 D3 C1 C2
  by_cases hm : s2.met = 0
  · have he : (errO s2.met != 0) = false := by rw [errO_zero]; simp [hm]
    by_cases hl : 65536 < n
    · have hd : decide (65536 < (n : Int)) = true := by simp; omega
      have hr : sizeR d = (0, 0, 73) := by rw [HSZ.out, if_neg (by omega), if_pos hl]
      have HR := Lib.hid hr
      clear hr
      go_wp2_with fail
      go_ret3
      rw [HR.out]
      exact ⟨rfl, C3⟩
    · have hd : decide (65536 < (n : Int)) = false := by simp; omega
      have hr : sizeR d = (c, n, 0) := by rw [HSZ.out, if_neg (by omega), if_neg hl]
      have HR := Lib.hid hr
      have hnl : n ≤ 65536 := by omega
      clear hr
      go_wp2_with fail
      go_ret3
      rw [HR.out]
      exact ⟨rfl, C3⟩
  · have he : (errO s2.met != 0) = true := by rw [errO_zero]; simp [hm]
    have hr : sizeR d = (0, 0, 70) := by rw [HSZ.out, if_pos hm]
    have HR := Lib.hid hr
    clear hr
    go_wp2_with fail
    go_ret3
    rw [HR.out]
    exact ⟨rfl, C3⟩
end Go.Proofs.YtlanabocdoacgaaDoor
