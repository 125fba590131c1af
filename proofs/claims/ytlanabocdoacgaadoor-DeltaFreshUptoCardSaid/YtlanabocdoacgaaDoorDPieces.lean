import Derived.Test.YtlanabocdoacgaaDoorDOne
set_option linter.unusedVariables false
namespace Go.Proofs.YtlanabocdoacgaaDoor
open Go Go.RowKit Go.Sat
theorem infoPc : (Tryd.prog.info? 88).map (fun i => (i.zero, i.size, i.bytes)) = some (some (.agg #[.slice none 0 0, .int .i64 0, .int .i64 0]), 3, 40) := by kernel_rfl
theorem tyPiece : SliceTy Tryd.prog 84 88 3 40 (.agg #[.slice none 0 0, .int .i64 0, .int .i64 0]) := by
  obtain ⟨i0, hi0, hz0, hz1, hz2⟩ := info_parts infoPc
  exact ⟨Tryd.underlying84, ⟨i0, hi0, hz0, hz1, hz2⟩, rfl, by decide⟩
def pcQ (q : Pc × Value) : List Value := pcV q.1 q.2
theorem pcQ_length (q : Pc × Value) : (pcQ q).length = 3 := by unfold pcQ pcV; cases q.1 <;> rfl
/-- What stands behind a piece. -/
def PcOk (w : World) (pb B : Nat) (v : Value) (q : Pc × Value) : Prop :=
  match q.1 with
  | .new b => Rd w q.2 b ∧ ∀ k, rdb q.2 = some k → B ≤ k ∧ k ≠ pb ∧ v.ownBlock ≠ some k
  | .copy _ _ => True
theorem PcOk.kept {S : Nat → Prop} {w w' : World} {pb B : Nat} {v v' : Value} {q : Pc × Value} (h : PcOk w pb B v q) (hc : Chg S w w') (hS : ∀ k, k < w.heap.size → B ≤ k → k ≠ pb → v.ownBlock ≠ some k → ¬ S k) (hv : ∀ k, k < w.heap.size → v.ownBlock ≠ some k → v'.ownBlock ≠ some k) : PcOk w' pb B v' q := by
  unfold PcOk at *
  cases hq : q.1 with
  | copy a n => trivial
  | new b =>
    rw [hq] at h
    exact ⟨h.1.kept hc (fun k hk => hS k (Rd.lt h.1 hk) (h.2 k hk).1 (h.2 k hk).2.1 (h.2 k hk).2.2), fun k hk => ⟨(h.2 k hk).1, (h.2 k hk).2.1, hv k (Rd.lt h.1 hk) (h.2 k hk).2.2⟩⟩
theorem flat3 {α : Type} (f : α → List Value) (hf : ∀ q, (f q).length = 3) : ∀ (ps : List α) (i j : Nat) (hi : i < ps.length), j < 3 → (ps.flatMap f)[i * 3 + j]? = (f ps[i])[j]?
  | [], i, _, hi, _ => by simp at hi
  | q :: ps, 0, j, _, hj => by rw [List.flatMap_cons, List.getElem?_append_left (by rw [hf]; omega)]; simp
  | q :: ps, i + 1, j, hi, hj => by
    rw [List.flatMap_cons, List.getElem?_append_right (by rw [hf]; omega), hf, show (i + 1) * 3 + j - 3 = i * 3 + j from by omega, flat3 f hf ps i j (by simpa using hi) hj]
    simp
/-- What Pieces answers. -/
structure PcsM (W w' : World) (base n : Nat) (v : Value) (l : List Pc) (ps : List (Pc × Value)) : Prop where
  fst : ps.map (·.1) = l
  own : Own w' 88 3 v ps.length (ps.flatMap pcQ)
  ok : ∀ q ∈ ps, match q.1 with | .new b => Rd w' q.2 b | .copy _ _ => True
  fits : ∀ q ∈ ps, q.1.fits base
  sum : (ps.map (·.1.len)).sum ≤ n
  few : ps.length ≤ n
  new : ∀ k, v.ownBlock = some k → W.heap.size ≤ k
def PcsP (W : World) (base : Nat) (r : List Pc × Nat × Nat) (e : Ending) (w' : World) : Prop :=
  ∃ v ps, e = .returned (.tuple #[v, .int .i64 (r.2.1 : Int), .int .i64 (r.2.2 : Int)]) ∧ PcsM W w' base 65536 v r.1 ps ∧ Chg (fun _ => False) W w'
theorem PcsP.bad {W w' : World} {base f : Nat} (h : Chg (fun _ => False) W w') : PcsP W base ([], 0, f) (.returned (.tuple #[.slice none 0 0, .int .i64 0, .int .i64 (f : Int)])) w' :=
  ⟨_, [], rfl, ⟨rfl, World.ownsRow_nil _ _ _ _, fun q hq => (List.not_mem_nil hq).elim, fun q hq => (List.not_mem_nil hq).elim, by simp, by simp, fun k hk => by simp [Value.ownBlock] at hk⟩, h⟩
theorem pcsR_a {base : Nat} {d : List UInt8} (h : ((⟨d, 0, 0⟩ : RS).var 65536).2.met ≠ 0) : pcsR base d = ([], 0, 70) := by unfold pcsR; simp only; rw [if_pos h]
theorem pcsR_b {base : Nat} {d : List UInt8} (h : ¬ ((⟨d, 0, 0⟩ : RS).var 65536).2.met ≠ 0) (h2 : ((⟨d, 0, 0⟩ : RS).var 65536).1 ≠ base) : pcsR base d = ([], 0, 71) := by unfold pcsR; simp only; rw [if_neg h, if_pos h2]
theorem pcsR_c {base : Nat} {d : List UInt8} (h : ¬ ((⟨d, 0, 0⟩ : RS).var 65536).2.met ≠ 0) (h2 : ¬ ((⟨d, 0, 0⟩ : RS).var 65536).1 ≠ base) (h3 : (((⟨d, 0, 0⟩ : RS).var 65536).2.var M64).2.met ≠ 0) : pcsR base d = ([], 0, 70) := by unfold pcsR; simp only; rw [if_neg h, if_neg h2, if_pos h3]
theorem pcsR_d {base : Nat} {d : List UInt8} (h : ¬ ((⟨d, 0, 0⟩ : RS).var 65536).2.met ≠ 0) (h2 : ¬ ((⟨d, 0, 0⟩ : RS).var 65536).1 ≠ base) (h3 : ¬ (((⟨d, 0, 0⟩ : RS).var 65536).2.var M64).2.met ≠ 0) (h4 : 65536 < (((⟨d, 0, 0⟩ : RS).var 65536).2.var M64).1) : pcsR base d = ([], 0, 73) := by unfold pcsR; simp only; rw [if_neg h, if_neg h2, if_neg h3, if_pos h4]
theorem pcsR_f {base : Nat} {d : List UInt8} (h : ¬ ((⟨d, 0, 0⟩ : RS).var 65536).2.met ≠ 0) (h2 : ¬ ((⟨d, 0, 0⟩ : RS).var 65536).1 ≠ base) (h3 : ¬ (((⟨d, 0, 0⟩ : RS).var 65536).2.var M64).2.met ≠ 0) (h4 : ¬ 65536 < (((⟨d, 0, 0⟩ : RS).var 65536).2.var M64).1) :
    pcsR base d = tailR (((⟨d, 0, 0⟩ : RS).var 65536).2.var M64).1 (goR base (((⟨d, 0, 0⟩ : RS).var 65536).2.var M64).1 (((⟨d, 0, 0⟩ : RS).var 65536).2.var M64).2 (((⟨d, 0, 0⟩ : RS).var 65536).2.var M64).1 []) := by
  unfold pcsR; simp only; rw [if_neg h, if_neg h2, if_neg h3, if_neg h4]; rfl
set_option maxRecDepth 100000 in
set_option maxHeartbeats 6400000 in
theorem pieces_any (y : Value) (base : Nat) (d : List UInt8) (W : World) (hy : Rd W y d) (hbl : base ≤ 2000000) (hdl : d.length ≤ 2000000) :
    Calls Tryd.prog 35 #[.int .i64 (base : Int), y] W (PcsP W base (pcsR base d)) := by
  obtain ⟨ya, yc, rfl, _⟩ := hy.form
  have R1 := new_eye hy (by omega)
  have C1 : Chg (fun _ => False) W (W.alloc (.cells #[.slice ya d.length yc, .int .i64 0, .int .i64 0] 91)) := (Chg.refl _ W).alloc _
  have hvlt : ∀ k, rdb (.slice ya d.length yc) = some k → k < W.heap.size := fun k hk => Rd.lt hy hk
  have HVLT := Lib.hid hvlt
  have HWP := Lib.hid widePiece
  clear hvlt
  go_enter Tryd.func35, Tryd.ntmps35
  go_wp2_with fail
  generalize W.alloc (.cells #[.slice ya d.length yc, .int .i64 0, .int .i64 0] 91) = w1 at *
  obtain ⟨pb, hpb⟩ : ∃ pb, pb = W.heap.size := ⟨_, rfl⟩
  rw [← hpb] at R1 ⊢
  have HPB := Lib.hid hpb
  clear hpb
  have hvar := evar16 pb _ _ ⟨d, 0, 0⟩ w1 R1
  obtain ⟨o1, o2, o3⟩ := RS.var_ok R1.ok 65536
  have ga := pcsR_a (base := base) (d := d)
  have gb := pcsR_b (base := base) (d := d)
  have gc := pcsR_c (base := base) (d := d)
  have gd := pcsR_d (base := base) (d := d)
  have ge := pcsR_f (base := base) (d := d)
  obtain ⟨p1, p2, p3⟩ := RS.var_ok o1 M64
  generalize ((⟨d, 0, 0⟩ : RS).var 65536) = r at *
  obtain ⟨c, s1⟩ := r
  simp only at o1 o2 o3 p1 p2 p3 hvar ga gb gc gd ge
  have HVAR := Lib.hid hvar
  have GA := Lib.hid ga
  have GB := Lib.hid gb
  have GC := Lib.hid gc
  have GD := Lib.hid gd
  have GE := Lib.hid ge
  have P2 := Lib.hid p2
  clear hvar ga gb gc gd ge hy p2 o3 p3
  (refine HVAR.out.mono ?_; rintro e w2 ⟨rfl, R2, D2⟩)
  have C2 : Chg (fun _ => False) W w2 := C1.trans D2 (fun q hq h => by have h' : q = pb := h; have := HPB.out; omega)
  have c2 := R2.facts.2.2.1
  clear D2 R1 C1
  by_cases hm : s1.met = 0
  · have he : (errO s1.met != 0) = false := by rw [errO_zero]; simp [hm]
    by_cases hcb : c = base
    · have hq : ((c : Int) != (base : Int)) = false := by simp; omega
      have hvar2 := evarM pb _ _ s1 w2 R2
      generalize s1.var M64 = r at *
      obtain ⟨n, s2⟩ := r
      simp only at p1 hvar2
      have HV2 := Lib.hid hvar2
      have hn64 : n ≤ 18446744073709551615 := by have := P2.out; exact this
      clear hvar2
      go_wp2_with fail
      (refine HV2.out.mono ?_; rintro e w3 ⟨rfl, R3, D3⟩)
      have C3 : Chg (fun _ => False) W w3 := C2.trans D3 (fun q hq h => by have h' : q = pb := h; have := HPB.out; omega)
      have c3 := R3.facts.2.2.1
      clear D3 R2 c2
      by_cases hm2 : s2.met = 0
      · have he2 : (errO s2.met != 0) = false := by rw [errO_zero]; simp [hm2]
        by_cases hlong : 65536 < n
        · have hd : decide (65536 < (n : Int)) = true := by simp; omega
          have hr := GD.out (by omega) (by omega) (by omega) hlong
          have HR := Lib.hid hr
          clear hr
          go_wp2_with fail
          go_ret3
          rw [HR.out]
          exact PcsP.bad C3
        · have hd : decide (65536 < (n : Int)) = false := by simp; omega
          have hp := GE.out (by omega) (by omega) (by omega) hlong
          have HPR := Lib.hid hp
          clear hp
          have hn16 : n ≤ 65536 := by omega
          go_wp2_with fail
          go_loopw [10, 11] (fun s10 s11 wr => ∃ (f room : Nat) (s : RS) (ps : List (Pc × Value)), goR base n s2 n [] = goR base f s room (ps.map (·.1)) ∧ s11 = .int .i64 (room : Int) ∧ (ps.map (·.1.len)).sum + room = n ∧ ps.length + room ≤ n ∧ room ≤ f ∧ IsR wr pb (.slice ya d.length yc) 91 errO s ∧ Own wr 88 3 s10 ps.length (ps.flatMap pcQ) ∧ (∀ k, s10.ownBlock = some k → W.heap.size ≤ k ∧ k ≠ pb) ∧ (∀ q ∈ ps, PcOk wr pb W.heap.size s10 q ∧ q.1.fits base) ∧ Chg (fun _ => False) W wr) (fun _ s11 _ => (intOf s11).toNat)
          case atStart => exact ⟨n, n, s2, [], rfl, rfl, by simp, by simp, Nat.le_refl _, R3, World.ownsRow_nil _ _ _ _, fun k hk => by simp [Value.ownBlock] at hk, fun q hq => (List.not_mem_nil hq).elim, C3⟩
          case round =>
            clear R3 C3 c3
            obtain ⟨f, room, s, ps, hgo, rfl, hsum, hfew, hrf, R, O, so, hps, C⟩ := hrel
            obtain ⟨oa, oc, rfl, hoc⟩ := O.form
            by_cases hroom : 0 < room
            · have hq1 : decide (0 < (room : Int)) = true := by simp; omega
              have hone := one_any pb _ _ s base room wr R hbl (by omega)
              obtain ⟨z, hz⟩ : ∃ z, z = oneR s base room := ⟨_, rfl⟩
              obtain ⟨k1, k2, k3⟩ := oneR_ok R.ok base room (fun s hs most => RS.var_ok hs most)
              rw [← hz] at hone k1 k2 k3
              obtain ⟨res, t⟩ := z
              have HZ := Lib.hid hz.symm
              have HONE := Lib.hid hone
              have HGO := Lib.hid hgo
              have HPS := Lib.hid hps
              clear hz hone hgo hps
              go_wp2_with fail
              (refine HONE.out.mono ?_; rintro e w4 ⟨⟨R4, D4⟩, hres⟩)
              have C4 : Chg (fun _ => False) W w4 := C.trans D4 (fun q hq h => by have h' : q = pb := h; have := HPB.out; omega)
              have O4 := O.kept D4 (fun k hk h => by have h' : k = pb := h; exact (so k hk).2 h')
              have HP4 := Lib.hid (fun q hq => ⟨(HPS.out q hq).1.kept D4 (fun k _ h1 h2 h3 => h2) (fun k _ h => h), (HPS.out q hq).2⟩ : ∀ q ∈ ps, PcOk w4 pb W.heap.size (.slice oa ps.length oc) q ∧ q.1.fits base)
              cases res with
              | inl e =>
                simp only at hres
                subst hres
                have hb3 := oneR_bad HZ.out
                have hz : ((e : Int) != 0) = true := by simp; omega
                have hr : pcsR base d = ([], 0, e) := by rw [HPR.out, HGO.out, goR_bad HZ.out hroom hrf]; rfl
                have HR := Lib.hid hr
                clear hr hb3
                go_wp2_with (first
                  | ((with_reducible show wpList _ _ _ (⟨none, .store _ (.tmp 12) (.tmp 46), _, _, _, _⟩ :: _) _ _); refine wpl_store_row (cs' := #[.slice none 0 0, .int .i64 0, .int .i64 0]) rfl 88 (.tmp 12) (.tmp 46) rfl rfl rfl (Blk.new w4 _ _) HWP.out.2 rfl (one3 rfl rfl rfl) ?_; intro w5 B5 C5)
                  | fail)
                go_ret3
                rw [HR.out]
                exact PcsP.bad (C4.trans (((Chg.refl (fun k => k = w4.heap.size) w4).alloc _).trans C5 (fun _ _ h => h)) (fun q hq h => by have h' : q = w4.heap.size := h; have := C4.size; omega))
              | inr p =>
                obtain ⟨q1, q2, q3⟩ := k3 p rfl
                have hg4 := goR_good (acc := ps.map (·.1)) HZ.out hroom hrf
                have HG4 := Lib.hid hg4
                have hpb4 := R4.blk.lt
                have HPBL := Lib.hid R.blk.lt
                have HOL := Lib.hid O.lt
                clear k1 k2 k3 hg4 O R
                cases p with
                | new b =>
                  simp only at hres
                  obtain ⟨yb, rfl, OB, hob⟩ := hres
                  obtain ⟨ba, bc, rfl, hbc⟩ := OB.form
                  have RB : Rd w4 (.slice ba b.length bc) b := Own.rd OB
                  have hblen : b.length ≤ room := q2
                  have hCs := C.size
                  have hol0 := HOL.out
                  have hob0 : ∀ k, rdb (.slice ba b.length bc) = some k → wr.heap.size ≤ k := fun k hk => hob k (rdb_own hk)
                  have hob' : ∀ k, rdb (.slice ba b.length bc) = some k → W.heap.size ≤ k := fun k hk => by have := hob0 k hk; omega
                  have hobp : ∀ k, rdb (.slice ba b.length bc) = some k → k ≠ pb := fun k hk => by have := hob0 k hk; have := HPBL.out; omega
                  have hobn : ∀ k, rdb (.slice ba b.length bc) = some k → (Value.slice oa ps.length oc).ownBlock ≠ some k := fun k hk e => by have := hob0 k hk; have := hol0 k e; omega
                  clear hol0
                  have hb1 : 1 ≤ b.length := q1
                  go_wp2_with (first
                    | ((with_reducible show wpList _ _ _ (⟨none, .store _ (.tmp 12) (.tmp 46), _, _, _, _⟩ :: _) _ _); refine wpl_store_row (cs' := #[.slice ba b.length bc, .int .i64 (-1), .int .i64 0]) rfl 88 (.tmp 12) (.tmp 46) rfl rfl rfl (Blk.new w4 _ _) HWP.out.2 rfl (one3 rfl rfl rfl) ?_; intro w5 B5 C5)
                    | ((with_reducible show wpList _ _ _ (⟨some 52, _, _, _, _, _⟩ :: _) _ _); refine Shut.out ?_)
                    | fail)
                  show wpList _ _ _ _ _ _
                  have C45 : Chg (fun k => k = w4.heap.size) w4 w5 := ((Chg.refl (fun k => k = w4.heap.size) w4).alloc _).trans C5 (fun _ _ h => h)
                  have hol := O4.lt
                  have O5 := O4.kept C45 (fun k hk h => by have h' : k = w4.heap.size := h; have := hol k hk; omega)
                  have hg5 : w4.heap.size < w5.heap.size := B5.lt
                  have hol5 := O5.lt
                  have HB5 := Lib.hid B5
                  clear B5 C5
                  obtain ⟨g, hg⟩ : ∃ g, g = w4.heap.size := ⟨_, rfl⟩
                  rw [← hg] at HB5 C45 hg5 hpb4 ⊢
                  have HG := Lib.hid hg
                  have hgo : (Value.slice oa ps.length oc).ownBlock ≠ some g := fun e => by have := hol _ e; have := HG.out; omega
                  clear hg hol
                  go_wp2_with (first
                    | ((with_reducible show wpList _ _ _ (⟨some 52, _, _, _, _, _⟩ :: _) _ _); refine wpl_load_wide rfl 88 (.tmp 12) rfl rfl HB5.out HWP.out ?_)
                    | ((with_reducible show wpList _ _ _ (⟨some 54, _, _, _, _, _⟩ :: _) _ _); refine wpl_append (o := ⟨some 54, _, _, _, _, _⟩) rfl (.tmp 51) (.tmp 53) 84 rfl tyPiece (O5.alloc _) (Sl.built w5 #[.slice ba b.length bc, .int .i64 (-1), .int .i64 0] _ 3 1 rfl (by simp [Value.oneCell']) (by unfold maxLen; omega)) rfl rfl (by unfold maxLen; omega) (by omega) ?_; intro na nc w6 O6 hgr6 hblk6; have C6 : Chg (fun k => (Value.slice oa ps.length oc).ownBlock = some k) w5 w6 := ((Chg.refl _ w5).alloc _).grown hgr6 (fun q hq => .inr hq); have B6 := HB5.out.kept C6 hgo; have e0 : w6.cell? ⟨g, 0, none⟩ = some (.slice ba b.length bc) := (by rw [B6.cell]; rfl); have e2 : w6.cell? ⟨g, 2, none⟩ = some (.int .i64 0) := (by rw [B6.cell]; rfl); clear B6)
                    | fail)
                  have CW5 : Chg (fun _ => False) W w5 := C4.trans C45 (fun q hq h => by have h' : q = g := h; have := HG.out; have := C4.size; omega)
                  have CW6 : Chg (fun _ => False) W w6 := CW5.trans C6 (fun q hq h => by have := (so q h).1; omega)
                  have R5 := R4.kept C45 (by show ¬ pb = g; omega) (fun k hk h => by have h' : k = g := h; have := HVLT.out k hk; have := HG.out; have := C4.size; omega)
                  have R6 := R5.kept C6 (fun h => (so pb h).2 rfl) (fun k hk h => by have := HVLT.out k hk; have := (so k h).1; omega)
                  have hW4 := C4.size
                  have hrl : ((room : Int) - (b.length : Int)) = ((room - (Pc.new b).len : Nat) : Int) := by simp only [Pc.len] at q2 ⊢; omega
                  have hnb : ∀ k, k < w5.heap.size → (Value.slice oa ps.length oc).ownBlock ≠ some k → (Value.slice na (ps.length + 1) nc).ownBlock ≠ some k := fun k hk h1 h2 => by
                    rcases hblk6 with h | h
                    · rw [h] at h2; exact h1 h2
                    · rw [h] at h2; simp at h2; omega
                  refine ⟨⟨f - 1, room - (Pc.new b).len, t, ps ++ [((Pc.new b), .slice ba b.length bc)], ?_, ?_, ?_, ?_, by omega, R6, ?_, ?_, ?_, CW6⟩, ?_⟩
                  · rw [HGO.out, HG4.out]; simp
                  · rw [← hrl]; try simp
                  · simp only [List.map_append, List.map_cons, List.map_nil, List.sum_append, List.sum_cons, List.sum_nil]; omega
                  · rw [List.length_append]; simp only [List.length_cons, List.length_nil]; omega
                  · exact O6.cast (by simp) (by simp [pcQ, pcV])
                  · intro k hk
                    rcases hblk6 with h | h
                    · rw [h] at hk; exact so k hk
                    · rw [h] at hk
                      simp at hk
                      have := HG.out
                      exact ⟨by omega, by omega⟩
                  · intro q hq
                    rcases List.mem_append.1 hq with hq | hq
                    · have h5 := (HP4.out q hq).1.kept C45 (fun k h0 h1 h2 h3 => by show ¬ k = g; have := HG.out; omega) (fun k _ h => h)
                      exact ⟨h5.kept C6 (fun k _ h1 h2 h3 => h3) hnb, (HP4.out q hq).2⟩
                    · obtain rfl : q = ((Pc.new b), .slice ba b.length bc) := by simpa using hq
                      exact ⟨⟨((RB.kept C45 (fun k hk h => by have h' : k = g := h; have := HG.out; have := Rd.lt RB hk; omega)).kept C6 (fun k hk h => hobn k hk h)), fun k hk => ⟨hob' k hk, hobp k hk, hnb k (by have := Rd.lt RB hk; have := C45.size; omega) (hobn k hk)⟩⟩, q3⟩
                  · simp [intOf]; exact Nat.sub_lt hroom (by omega)
                | copy a m =>
                  simp only at hres
                  subst hres
                  have hm1 : 1 ≤ m := q1
                  have hmr : m ≤ room := q2
                  go_wp2_with (first
                    | ((with_reducible show wpList _ _ _ (⟨none, .store _ (.tmp 12) (.tmp 46), _, _, _, _⟩ :: _) _ _); refine wpl_store_row (cs' := #[.slice none 0 0, .int .i64 (a : Int), .int .i64 (m : Int)]) rfl 88 (.tmp 12) (.tmp 46) rfl rfl rfl (Blk.new w4 _ _) HWP.out.2 rfl (one3 rfl rfl rfl) ?_; intro w5 B5 C5)
                    | ((with_reducible show wpList _ _ _ (⟨some 52, _, _, _, _, _⟩ :: _) _ _); refine Shut.out ?_)
                    | fail)
                  show wpList _ _ _ _ _ _
                  have C45 : Chg (fun k => k = w4.heap.size) w4 w5 := ((Chg.refl (fun k => k = w4.heap.size) w4).alloc _).trans C5 (fun _ _ h => h)
                  have hol := O4.lt
                  have O5 := O4.kept C45 (fun k hk h => by have h' : k = w4.heap.size := h; have := hol k hk; omega)
                  have hg5 : w4.heap.size < w5.heap.size := B5.lt
                  have hol5 := O5.lt
                  have HB5 := Lib.hid B5
                  clear B5 C5
                  obtain ⟨g, hg⟩ : ∃ g, g = w4.heap.size := ⟨_, rfl⟩
                  rw [← hg] at HB5 C45 hg5 hpb4 ⊢
                  have HG := Lib.hid hg
                  have hgo : (Value.slice oa ps.length oc).ownBlock ≠ some g := fun e => by have := hol _ e; have := HG.out; omega
                  clear hg hol
                  go_wp2_with (first
                    | ((with_reducible show wpList _ _ _ (⟨some 52, _, _, _, _, _⟩ :: _) _ _); refine wpl_load_wide rfl 88 (.tmp 12) rfl rfl HB5.out HWP.out ?_)
                    | ((with_reducible show wpList _ _ _ (⟨some 54, _, _, _, _, _⟩ :: _) _ _); refine wpl_append (o := ⟨some 54, _, _, _, _, _⟩) rfl (.tmp 51) (.tmp 53) 84 rfl tyPiece (O5.alloc _) (Sl.built w5 #[.slice none 0 0, .int .i64 (a : Int), .int .i64 (m : Int)] _ 3 1 rfl (by simp [Value.oneCell']) (by unfold maxLen; omega)) rfl rfl (by unfold maxLen; omega) (by omega) ?_; intro na nc w6 O6 hgr6 hblk6; have C6 : Chg (fun k => (Value.slice oa ps.length oc).ownBlock = some k) w5 w6 := ((Chg.refl _ w5).alloc _).grown hgr6 (fun q hq => .inr hq); have B6 := HB5.out.kept C6 hgo; have e0 : w6.cell? ⟨g, 0, none⟩ = some (.slice none 0 0) := (by rw [B6.cell]; rfl); have e2 : w6.cell? ⟨g, 2, none⟩ = some (.int .i64 (m : Int)) := (by rw [B6.cell]; rfl); clear B6)
                    | fail)
                  have CW5 : Chg (fun _ => False) W w5 := C4.trans C45 (fun q hq h => by have h' : q = g := h; have := HG.out; have := C4.size; omega)
                  have CW6 : Chg (fun _ => False) W w6 := CW5.trans C6 (fun q hq h => by have := (so q h).1; omega)
                  have R5 := R4.kept C45 (by show ¬ pb = g; omega) (fun k hk h => by have h' : k = g := h; have := HVLT.out k hk; have := HG.out; have := C4.size; omega)
                  have R6 := R5.kept C6 (fun h => (so pb h).2 rfl) (fun k hk h => by have := HVLT.out k hk; have := (so k h).1; omega)
                  have hW4 := C4.size
                  have hrl : ((room : Int) - (m : Int)) = ((room - (Pc.copy a m).len : Nat) : Int) := by simp only [Pc.len] at q2 ⊢; omega
                  have hnb : ∀ k, k < w5.heap.size → (Value.slice oa ps.length oc).ownBlock ≠ some k → (Value.slice na (ps.length + 1) nc).ownBlock ≠ some k := fun k hk h1 h2 => by
                    rcases hblk6 with h | h
                    · rw [h] at h2; exact h1 h2
                    · rw [h] at h2; simp at h2; omega
                  refine ⟨⟨f - 1, room - (Pc.copy a m).len, t, ps ++ [((Pc.copy a m), .slice none 0 0)], ?_, ?_, ?_, ?_, by omega, R6, ?_, ?_, ?_, CW6⟩, ?_⟩
                  · rw [HGO.out, HG4.out]; simp
                  · rw [← hrl]; try simp
                  · simp only [List.map_append, List.map_cons, List.map_nil, List.sum_append, List.sum_cons, List.sum_nil]; omega
                  · rw [List.length_append]; simp only [List.length_cons, List.length_nil]; omega
                  · exact O6.cast (by simp) (by simp [pcQ, pcV])
                  · intro k hk
                    rcases hblk6 with h | h
                    · rw [h] at hk; exact so k hk
                    · rw [h] at hk
                      simp at hk
                      have := HG.out
                      exact ⟨by omega, by omega⟩
                  · intro q hq
                    rcases List.mem_append.1 hq with hq | hq
                    · have h5 := (HP4.out q hq).1.kept C45 (fun k h0 h1 h2 h3 => by show ¬ k = g; have := HG.out; omega) (fun k _ h => h)
                      exact ⟨h5.kept C6 (fun k _ h1 h2 h3 => h3) hnb, (HP4.out q hq).2⟩
                    · obtain rfl : q = ((Pc.copy a m), .slice none 0 0) := by simpa using hq
                      exact ⟨trivial, q3⟩
                  · simp [intOf]; exact Nat.sub_lt hroom (by omega)
            · have hr0 : room = 0 := by omega
              subst hr0
              have hq1 : decide ((0 : Int) < 0) = false := by simp
              rw [goR_end] at hgo
              have hleft := eleft_any pb _ _ errO s wr R
              have hM : PcsM W wr base 65536 (.slice oa ps.length oc) (ps.map (·.1)) ps := ⟨rfl, O, fun q hq => by
                have h1 := (hps q hq).1
                unfold PcOk at h1
                cases hqq : q.1 with
                | new b => rw [hqq] at h1; exact h1.1
                | copy a m => trivial, fun q hq => (hps q hq).2, by omega, by omega, fun k hk => (so k hk).1⟩
              by_cases hl : 0 < s.left
              · have hr : pcsR base d = ([], 0, 70) := by rw [HPR.out, hgo]; simp [tailR, hl]
                have hd2 : decide (0 < s.left) = true := by simp; omega
                have HR := Lib.hid hr
                have HL := Lib.hid hleft
                clear hr hleft hgo hl hM
                go_wp2_with fail
                (refine HL.out.mono ?_; rintro e w5 ⟨rfl, hd5⟩)
                go_wp2_with fail
                go_ret3
                rw [HR.out]
                exact PcsP.bad (C.trans (hd5.chg (fun _ => False)) (fun _ _ h => h))
              · have hr : pcsR base d = (ps.map (·.1), n, 0) := by rw [HPR.out, hgo]; simp [tailR, hl]
                have hd2 : decide (0 < s.left) = false := by simp; omega
                have HR := Lib.hid hr
                have HL := Lib.hid hleft
                have HM := Lib.hid hM
                have hsl : (s.left : Int) ≤ 1000000000 := by have := R.len; have := RS.left_eq R.ok; omega
                clear hr hleft hgo hl hM
                go_wp2_with fail
                (refine HL.out.mono ?_; rintro e w5 ⟨rfl, hd5⟩)
                go_wp2_with fail
                go_ret3
                rw [HR.out]
                have M := HM.out
                exact ⟨_, ps, rfl, ⟨M.fst, M.own.kept (hd5.chg (fun _ => False)) (fun _ _ => id), fun q hq => by
                  have h1 := M.ok q hq
                  cases hqq : q.1 with
                  | new b => rw [hqq] at h1; exact Rd.kept h1 (hd5.chg (fun _ => False)) (fun _ _ => id)
                  | copy a m => trivial, M.fits, M.sum, M.few, M.new⟩, C.trans (hd5.chg (fun _ => False)) (fun _ _ h => h)⟩
      · have he2 : (errO s2.met != 0) = true := by rw [errO_zero]; simp [hm2]
        have hr := GC.out (by omega) (by omega) hm2
        have HR := Lib.hid hr
        clear hr
        go_wp2_with fail
        go_ret3
        rw [HR.out]
        exact PcsP.bad C3
    · have hq : ((c : Int) != (base : Int)) = true := by simp; omega
      have hr := GB.out (by omega) hcb
      have HR := Lib.hid hr
      clear hr
      go_wp2_with fail
      go_ret3
      rw [HR.out]
      exact PcsP.bad C2
  · have he : (errO s1.met != 0) = true := by rw [errO_zero]; simp [hm]
    have hr := GA.out hm
    have HR := Lib.hid hr
    clear hr
    go_wp2_with fail
    go_ret3
    rw [HR.out]
    exact PcsP.bad C2
end Go.Proofs.YtlanabocdoacgaaDoor
