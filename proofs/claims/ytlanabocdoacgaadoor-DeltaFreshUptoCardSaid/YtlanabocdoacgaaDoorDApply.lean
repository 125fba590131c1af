import Derived.Test.YtlanabocdoacgaaDoorDCmd
set_option linter.unusedVariables false
namespace Go.Sat
open Go
theorem oneR_bad {s t : RS} {base room e : Nat} (h : oneR s base room = (.inl e, t)) : e = 70 ∨ e = 72 ∨ e = 73 := by
  unfold oneR oneC at h
  split at h
  · cases h; omega
  · split at h
    · cases h; omega
    · split at h
      · unfold newC at h
        split at h
        · cases h; omega
        · cases h
      · unfold copC at h
        split at h
        · cases h; omega
        · split at h
          · cases h; omega
          · cases h
/-- The answers of Apply, one by one. -/
theorem appR_a {base d : List UInt8} (h : ((⟨d, 0, 0⟩ : RS).var 65536).2.met ≠ 0) : pcsR base.length d = ([], 0, 70) ∧ appR base d = ([], 70) := by
  have e : pcsR base.length d = ([], 0, 70) := by unfold pcsR; simp only; rw [if_pos h]
  exact ⟨e, by unfold appR; rw [e]; rfl⟩
theorem appR_b {base d : List UInt8} (h : ¬ ((⟨d, 0, 0⟩ : RS).var 65536).2.met ≠ 0) (h2 : ((⟨d, 0, 0⟩ : RS).var 65536).1 ≠ base.length) : pcsR base.length d = ([], 0, 71) ∧ appR base d = ([], 71) := by
  have e : pcsR base.length d = ([], 0, 71) := by unfold pcsR; simp only; rw [if_neg h, if_pos h2]
  exact ⟨e, by unfold appR; rw [e]; rfl⟩
theorem appR_c {base d : List UInt8} (h : ¬ ((⟨d, 0, 0⟩ : RS).var 65536).2.met ≠ 0) (h2 : ¬ ((⟨d, 0, 0⟩ : RS).var 65536).1 ≠ base.length) (h3 : (((⟨d, 0, 0⟩ : RS).var 65536).2.var M64).2.met ≠ 0) : pcsR base.length d = ([], 0, 70) ∧ appR base d = ([], 70) := by
  have e : pcsR base.length d = ([], 0, 70) := by unfold pcsR; simp only; rw [if_neg h, if_neg h2, if_pos h3]
  exact ⟨e, by unfold appR; rw [e]; rfl⟩
theorem appR_d {base d : List UInt8} (h : ¬ ((⟨d, 0, 0⟩ : RS).var 65536).2.met ≠ 0) (h2 : ¬ ((⟨d, 0, 0⟩ : RS).var 65536).1 ≠ base.length) (h3 : ¬ (((⟨d, 0, 0⟩ : RS).var 65536).2.var M64).2.met ≠ 0) (h4 : 65536 < (((⟨d, 0, 0⟩ : RS).var 65536).2.var M64).1) : pcsR base.length d = ([], 0, 73) ∧ appR base d = ([], 73) := by
  have e : pcsR base.length d = ([], 0, 73) := by unfold pcsR; simp only; rw [if_neg h, if_neg h2, if_neg h3, if_pos h4]
  exact ⟨e, by unfold appR; rw [e]; rfl⟩
/-- What is behind the commands. -/
def tailR (n : Nat) (r : (Nat ⊕ List Pc) × RS) : List Pc × Nat × Nat :=
  match r with
  | (.inl e, _) => ([], 0, e)
  | (.inr l, t) => if 0 < t.left then ([], 0, 70) else (l, n, 0)
theorem pcsR_e {base d : List UInt8} (h : ¬ ((⟨d, 0, 0⟩ : RS).var 65536).2.met ≠ 0) (h2 : ¬ ((⟨d, 0, 0⟩ : RS).var 65536).1 ≠ base.length) (h3 : ¬ (((⟨d, 0, 0⟩ : RS).var 65536).2.var M64).2.met ≠ 0) (h4 : ¬ 65536 < (((⟨d, 0, 0⟩ : RS).var 65536).2.var M64).1) :
    pcsR base.length d = tailR (((⟨d, 0, 0⟩ : RS).var 65536).2.var M64).1 (goR base.length (((⟨d, 0, 0⟩ : RS).var 65536).2.var M64).1 (((⟨d, 0, 0⟩ : RS).var 65536).2.var M64).2 (((⟨d, 0, 0⟩ : RS).var 65536).2.var M64).1 []) := by
  unfold pcsR; simp only; rw [if_neg h, if_neg h2, if_neg h3, if_neg h4]; rfl
theorem appR_tail {base d : List UInt8} {n : Nat} {r : (Nat ⊕ List Pc) × RS} (h : pcsR base.length d = tailR n r) :
    (∀ e t, r = (.inl e, t) → e ≠ 0 → appR base d = ([], e)) ∧ (∀ l t, r = (.inr l, t) → 0 < t.left → appR base d = ([], 70)) ∧ (∀ l t, r = (.inr l, t) → ¬ 0 < t.left → appR base d = (flatP base l, 0)) := by
  unfold appR
  simp only
  rw [h]
  refine ⟨fun e t hr he => ?_, fun l t hr hl => ?_, fun l t hr hl => ?_⟩
  · subst hr; simp [tailR, he]
  · subst hr; simp [tailR, hl]
  · subst hr; simp [tailR, hl]
end Go.Sat
namespace Go.Proofs.YtlanabocdoacgaaDoor
open Go Go.RowKit Go.Sat
/-- What Apply answers. -/
def AppP (w : World) (r : List UInt8 × Nat) (e : Ending) (w' : World) : Prop :=
  ∃ y, e = .returned (.tuple #[y, .int .i64 (r.2 : Int)]) ∧ Own w' 5 1 y r.1.length (bcells r.1) ∧ (∀ k, y.ownBlock = some k → w.heap.size ≤ k) ∧ Chg (fun _ => False) w w'
theorem AppP.bad {w w' : World} {f : Nat} (h : Chg (fun _ => False) w w') : AppP w ([], f) (.returned (.tuple #[.slice none 0 0, .int .i64 (f : Int)])) w' :=
  ⟨_, rfl, World.ownsRow_nil _ _ _ _, fun k hk => by simp [Value.ownBlock] at hk, h⟩
theorem rdvar16 (pb : Nat) (v : Value) (T : TypeId) (s : RS) (w : World) (h : IsR w pb v T met s) :
    Calls Tryd.prog 31 #[.pointer (some ⟨pb, 0, none⟩), .int .u64 65536] w fun e w' => e = .returned (.int .u64 (s.var 65536).1) ∧ RStep w pb v T met (s.var 65536).2 w' := rdvar_any pb v T s 65536 w h (by decide)
set_option maxRecDepth 100000 in
set_option maxHeartbeats 3200000 in
theorem apply_any (x y : Value) (base d : List UInt8) (W : World) (hE : Errnos W) (hx : Rd W x base) (hy : Rd W y d) (hbl : base.length ≤ 2000000) (hdl : d.length ≤ 2000000) :
    Calls Tryd.prog 10 #[x, y] W (AppP W (appR base d)) := by
  have hW0 : 0 < W.heap.size := World.block_lt_of_cell? W _ (hE 0 (by decide))
  have hxlt : ∀ k, rdb x = some k → k < W.heap.size := fun k hk => Rd.lt hx hk
  obtain ⟨xa, xc, rfl, _⟩ := hx.form
  obtain ⟨ya, yc, rfl, _⟩ := hy.form
  have HX := Lib.hid hx
  have HE := Lib.hid hE
  have HXLT := Lib.hid hxlt
  clear hx hE hxlt
  go_enter Tryd.func10, Tryd.ntmps10
  go_wp2_with fail
  (refine (read_any _ d W hy (by omega)).mono ?_; rintro e w1 ⟨pb, v, T, rfl, R1, C1, hpb, hvb⟩)
  have hvar := rdvar16 pb v T ⟨d, 0, 0⟩ w1 R1
  obtain ⟨o1, o2, o3⟩ := RS.var_ok R1.ok 65536
  have ga := appR_a (base := base) (d := d)
  have gb := appR_b (base := base) (d := d)
  have gc := appR_c (base := base) (d := d)
  have gd := appR_d (base := base) (d := d)
  have ge := pcsR_e (base := base) (d := d)
  obtain ⟨p1, p2, p3⟩ := RS.var_ok o1 M64
  generalize ((⟨d, 0, 0⟩ : RS).var 65536) = r at *
  obtain ⟨c, s1⟩ := r
  simp only at o1 o2 o3 p1 p2 p3 hvar ga gb gc gd ge
  have HVAR := Lib.hid hvar
  have GA := Lib.hid ga
  have GB := Lib.hid gb
  have GC := Lib.hid gc
  have GD := Lib.hid gd
  have GE := Lib.hid ge
  have P2 := Lib.hid p2
  clear hvar ga gb gc gd ge hy p2 o3 p3
  go_wp2_with fail
  (refine HVAR.out.mono ?_; rintro e w2 ⟨rfl, R2, D2⟩)
  have C2 : Chg (fun _ => False) W w2 := C1.trans D2 (fun q hq h => by have h' : q = pb := h; omega)
  have E2 := HE.out.kept C2 id
  have hf2 := rfault_any pb v T s1 w2 R2 E2
  have HC2 := Lib.hid C2
  clear D2 R1 C1 C2
  go_wp2_with fail
  (refine hf2.mono ?_; rintro e w' ⟨rfl, rfl⟩)
  by_cases hm : s1.met = 0
  · have he : (errO s1.met != 0) = false := by rw [errO_zero]; simp [hm]
    by_cases hcb : c = base.length
    · have hq : ((c : Int) != (base.length : Int)) = false := by simp; omega
      have hvar2 := rdvarM pb v T s1 w2 R2
      generalize s1.var M64 = r at *
      obtain ⟨n, s2⟩ := r
      simp only at p1 hvar2
      have HV2 := Lib.hid hvar2
      have hn64 : n ≤ 18446744073709551615 := by have := P2.out; exact this
      clear hvar2
      go_wp2_with fail
      (refine HV2.out.mono ?_; rintro e w3 ⟨rfl, R3, D3⟩)
      have C3 : Chg (fun _ => False) W w3 := HC2.out.trans D3 (fun q hq h => by have h' : q = pb := h; omega)
      have E3 := HE.out.kept C3 id
      have hf3 := rfault_any pb v T s2 w3 R3 E3
      clear D3 R2
      go_wp2_with fail
      (refine hf3.mono ?_; rintro e w' ⟨rfl, rfl⟩)
      by_cases hm2 : s2.met = 0
      · have he2 : (errO s2.met != 0) = false := by rw [errO_zero]; simp [hm2]
        by_cases hlong : 65536 < n
        · have hd : decide (65536 < (n : Int)) = true := by simp; omega
          have hr := (GD.out (by omega) (by omega) (by omega) hlong).2
          have HR := Lib.hid hr
          clear hr
          go_wp2_with fail
          go_ret2
          rw [HR.out]
          exact AppP.bad C3
        · have hd : decide (65536 < (n : Int)) = false := by simp; omega
          have hp := GE.out (by omega) (by omega) (by omega) hlong
          obtain ⟨t1, t2, t3⟩ := appR_tail hp
          have T1 := Lib.hid t1
          have T2 := Lib.hid t2
          have T3 := Lib.hid t3
          clear t1 t2 t3 hp
          have hn16 : n ≤ 65536 := by omega
          go_wp2_with fail
          go_loopw [9] (fun s9 wr => ∃ (f room : Nat) (s : RS) (acc : List Pc) (out : List UInt8), goR base.length n s2 n [] = goR base.length f s room acc ∧ out = flatP base acc ∧ out.length + room = n ∧ room ≤ f ∧ IsR wr pb v T met s ∧ Own wr 5 1 s9 out.length (bcells out) ∧ (∀ k, s9.ownBlock = some k → W.heap.size ≤ k ∧ k ≠ pb ∧ rdb v ≠ some k) ∧ Chg (fun _ => False) W wr) (fun s9 _ => n - (match s9 with | .slice _ n _ => n | _ => 0))
          case atStart => exact ⟨n, n, s2, [], [], rfl, rfl, by simp, Nat.le_refl _, R3, World.ownsRow_nil _ _ _ _, fun k hk => by simp [Value.ownBlock] at hk, C3⟩
          case round =>
            clear R3 C3 E3 hf3
            obtain ⟨f, room, s, acc, out, hgo, hout, hlen, hrf, R, O, so, C⟩ := hrel
            obtain ⟨oa, oc, rfl, hoc⟩ := O.form
            by_cases hroom : 0 < room
            · have hq1 : decide (out.length < n) = true := by simp; omega
              have hcmd := command_any pb v (.slice xa base.length xc) T s base room wr R (HE.out.kept C id) (HX.out.kept C (fun _ _ => id)) (fun k hk => by have := HXLT.out k hk; omega) (by omega) hbl (by omega)
              have hrm : (n : Int) - (out.length : Int) = (room : Int) := by omega
              have HRM := Lib.hid hrm
              obtain ⟨z, hz⟩ : ∃ z, z = oneR s base.length room := ⟨_, rfl⟩
              obtain ⟨k1, k2, k3⟩ := oneR_ok R.ok base.length room (fun s hs most => RS.var_ok hs most)
              rw [← hz] at hcmd k1 k2 k3
              obtain ⟨res, t⟩ := z
              have HZ := Lib.hid hz.symm
              have HCMD := Lib.hid hcmd
              have HGO := Lib.hid hgo
              have HOUT := Lib.hid hout
              clear hz hcmd hgo hout hrm
              go_wp2_with fail
              rw [HRM.out]
              (refine HCMD.out.mono ?_; rintro e w4 ⟨⟨R4, D4⟩, hres⟩)
              have C4 : Chg (fun _ => False) W w4 := C.trans D4 (fun q hq h => by have h' : q = pb := h; omega)
              cases res with
              | inl e =>
                simp only at hres
                subst hres
                have hb3 := oneR_bad HZ.out
                have hr := T1.out e t (by rw [HGO.out]; exact goR_bad HZ.out hroom hrf) (by omega)
                have hz : ((e : Int) != 0) = true := by simp; omega
                have HR := Lib.hid hr
                clear hr hb3
                go_wp2_with fail
                go_ret2
                rw [HR.out]
                exact AppP.bad C4
              | inr p =>
                simp only at hres
                obtain ⟨yb, rfl, RB⟩ := hres
                obtain ⟨q1, q2, q3⟩ := k3 p rfl
                have hbl2 := Pc.bytes_len q3
                have O4 := O.kept D4 (fun k hk h => by have h' : k = pb := h; exact (so k hk).2.1 h')
                have HB := Lib.hid hbl2
                have hpl : (p.bytes base).length ≤ 65536 := by omega
                clear k3 hbl2 k1 k2 O R
                go_wp2_with ((with_reducible show wpList _ _ _ (⟨some 52, _, _, _, _, _⟩ :: _) _ _); refine wpl_append (o := ⟨some 52, _, _, _, _, _⟩) rfl (.tmp 50) (.tmp 51) 24 rfl tyBytes (O4) (RB) rfl rfl (by unfold maxLen; omega) (by omega) ?_; intro na nc w5 O5 hgr5 hblk5)
                have C5 : Chg (fun k => (Value.slice oa out.length oc).ownBlock = some k) w4 w5 := (Chg.refl _ w4).grown hgr5 (fun q hq => .inr hq)
                have CW5 : Chg (fun _ => False) W w5 := C4.trans C5 (fun q hq h => by have := (so q h).1; omega)
                have hpb4 := R4.blk.lt
                have hvl : ∀ k, rdb v = some k → k < w4.heap.size := fun k hk => Rd.lt R4.rd hk
                go_roundw
                case rel =>
                  refine ⟨f - 1, room - p.len, t, acc ++ [p], flatP base (acc ++ [p]), ?_, rfl, ?_, by omega, R4.kept C5 (fun h => (so _ h).2.1 rfl) (fun k hk h => (so k h).2.2 hk), ?_, fun k hk => ?_, CW5⟩
                  · rw [HGO.out]; exact goR_good HZ.out hroom hrf
                  · rw [flatP_snoc, List.length_append, ← HOUT.out, HB.out]; omega
                  · rw [flatP_snoc, ← HOUT.out]
                    exact O5.cast (by simp) (by simp)
                  · rcases hblk5 with h | h
                    · rw [h] at hk; exact so k hk
                    · rw [h] at hk
                      simp at hk
                      have := C4.size
                      exact ⟨by omega, by omega, fun h => by have := hvl k h; omega⟩
                case measure => show n - (out.length + (p.bytes base).length) < n - out.length; have := HB.out; omega
            · have hr0 : room = 0 := by omega
              subst hr0
              have hq1 : decide (out.length < n) = false := by simp; omega
              rw [goR_end] at hgo
              have hleft := rleft_any pb v T met s wr R
              by_cases hl : 0 < s.left
              · have hr := T2.out _ _ hgo hl
                have hd2 : decide (0 < s.left) = true := by simp; omega
                have HR := Lib.hid hr
                have HL := Lib.hid hleft
                clear hr hleft hgo hout hl
                go_wp2_with fail
                (refine HL.out.mono ?_; rintro e w5 ⟨rfl, hd5⟩)
                go_wp2_with fail
                go_ret2
                rw [HR.out]
                exact AppP.bad (C.trans (hd5.chg (fun _ => False)) (fun _ _ h => h))
              · have hr := T3.out _ _ hgo hl
                rw [← hout] at hr
                have hd2 : decide (0 < s.left) = false := by simp; omega
                have HR := Lib.hid hr
                have HL := Lib.hid hleft
                have hll := RS.left_eq R.ok
                have hsl : (s.left : Int) ≤ 1000000000 := by have := R.len; omega
                clear hr hleft hgo hout hl hll
                go_wp2_with fail
                (refine HL.out.mono ?_; rintro e w5 ⟨rfl, hd5⟩)
                go_wp2_with fail
                go_ret2
                rw [HR.out]
                exact ⟨_, rfl, O.kept (hd5.chg (fun _ => False)) (fun _ _ => id), fun k hk => (so k hk).1, C.trans (hd5.chg (fun _ => False)) (fun _ _ h => h)⟩
      · have he2 : (errO s2.met != 0) = true := by rw [errO_zero]; simp [hm2]
        have hr := (GC.out (by omega) (by omega) hm2).2
        have HR := Lib.hid hr
        clear hr
        go_wp2_with fail
        go_ret2
        rw [HR.out]
        exact AppP.bad C3
    · have hq : ((c : Int) != (base.length : Int)) = true := by simp; omega
      have hr := (GB.out (by omega) hcb).2
      have HR := Lib.hid hr
      clear hr
      go_wp2_with fail
      go_ret2
      rw [HR.out]
      exact AppP.bad HC2.out
  · have he : (errO s1.met != 0) = true := by rw [errO_zero]; simp [hm]
    have hr := (GA.out hm).2
    have HR := Lib.hid hr
    clear hr
    go_wp2_with fail
    go_ret2
    rw [HR.out]
    exact AppP.bad HC2.out
end Go.Proofs.YtlanabocdoacgaaDoor
