import Derived.Test.YtafgeppdchnceaaDoorStream
set_option linter.unusedVariables false
namespace Go.Proofs.YtafgeppdchnceaaDoor
open Go Go.RowKit Go.Sat
theorem infoH : (Tryd.prog.info? 26).map (fun i => (i.zero, i.size, i.bytes)) = some (some (.pointer none), 1, 8) := by kernel_rfl
theorem tyHashes : SliceTy Tryd.prog 40 26 1 8 (.pointer none) := by
  obtain ⟨i0, hi0, hz0, hz1, hz2⟩ := info_parts infoH
  exact ⟨Tryd.underlying40, ⟨i0, hi0, hz0, hz1, hz2⟩, rfl, by decide⟩
def ptrs (ps : List Nat) : List Value := ps.map fun p => .pointer (some ⟨p, 0, none⟩)
/-- What was written to the j-th Hash in k rounds. -/
def row (j k : Nat) : List UInt8 := (List.range k).flatMap fun t => [UInt8.ofNat j, UInt8.ofNat (j / 256), UInt8.ofNat t]
theorem row_succ (j k : Nat) : row j (k + 1) = row j k ++ [UInt8.ofNat j, UInt8.ofNat (j / 256), UInt8.ofNat k] := by simp [row, List.range_succ]
theorem row_length (j k : Nat) : (row j k).length = 3 * k := by
  induction k with
  | zero => rfl
  | succ k ih => rw [row_succ]; simp [ih]; omega
theorem row2 (j : Nat) : row j 2 = [UInt8.ofNat j, UInt8.ofNat (j / 256), 0, UInt8.ofNat j, UInt8.ofNat (j / 256), 1] := rfl
/-- Hashes side by side. -/
structure Crowd (W w : World) (v : Value) (ps : List Nat) (c : Nat → List UInt8) (box : Array Value) : Prop where
  own : Own w 26 1 v ps.length (ptrs ps)
  hs : ∀ j (h : j < ps.length), Hs w ps[j] (c j)
  lo : ∀ p ∈ ps, W.heap.size < p
  inj : ps.Nodup
  sep : ∀ q, v.ownBlock = some q → W.heap.size < q ∧ q ∉ ps
  box : Blk w W.heap.size 39 box
  chg : Chg (fun _ => False) W w
theorem Crowd.nil {W w : World} {c : Nat → List UInt8} {box : Array Value} (hb : Blk w W.heap.size 39 box) (hc : Chg (fun _ => False) W w) : Crowd W w (.slice none 0 0) [] c box :=
  ⟨World.ownsRow_nil _ 0 _ 1, fun j h => by simp at h, fun p h => by simp at h, List.nodup_nil, fun q hq => by simp [Value.ownBlock] at hq, hb, hc⟩
theorem Crowd.calm {W w w' : World} {v : Value} {ps : List Nat} {c : Nat → List UInt8} {box : Array Value} (h : Crowd W w v ps c box) (hc : Chg (fun _ => False) w w') : Crowd W w' v ps c box :=
  ⟨h.own.kept hc (fun _ _ => id), fun j hj => (h.hs j hj).kept hc id, h.lo, h.inj, h.sep, h.box.kept hc id, h.chg.trans hc (fun _ _ h => h)⟩
/-- A block that is none of theirs changes. -/
theorem Crowd.part {S : Nat → Prop} {W w w' : World} {v : Value} {ps : List Nat} {c : Nat → List UInt8} {box : Array Value} (h : Crowd W w v ps c box) (hc : Chg S w w') (hlow : ∀ q, S q → W.heap.size < q) (hf : ∀ q, S q → q ∉ ps ∧ v.ownBlock ≠ some q) : Crowd W w' v ps c box :=
  ⟨h.own.kept hc (fun q hq hS => (hf q hS).2 hq), fun j hj => (h.hs j hj).kept hc (fun hS => (hf _ hS).1 (List.getElem_mem hj)), h.lo, h.inj, h.sep, h.box.kept hc (fun hS => by have := hlow _ hS; omega), h.chg.trans hc (fun q hq hS => by have := hlow _ hS; omega)⟩
/-- One of them is written to. -/
theorem Crowd.wrote {W w w' : World} {v : Value} {ps : List Nat} {c c' : Nat → List UInt8} {box : Array Value} (h : Crowd W w v ps c box) {i : Nat} (hi : i < ps.length) (hc : Chg (fun q => q = ps[i]) w w') (hn : Hs w' ps[i] (c' i))
    (he : ∀ j, j ≠ i → c' j = c j) : Crowd W w' v ps c' box := by
  have hlo := h.lo ps[i] (List.getElem_mem hi)
  refine ⟨h.own.kept hc (fun q hq e => (h.sep q hq).2 (e ▸ List.getElem_mem hi)), fun j hj => ?_, h.lo, h.inj, h.sep, h.box.kept hc (by omega), h.chg.trans hc (fun q hq e => by omega)⟩
  by_cases e : j = i
  · subst e; exact hn
  · rw [he j e]
    exact (h.hs j hj).kept hc (fun e2 => e ((List.getElem_inj h.inj).1 e2))
theorem six_own (w : World) (i : Nat) (hi : i < 300) : Own (w.alloc (.cells #[.int .u8 ((i : Int) % 256), .int .u8 ((i : Int) / 256), .int .u8 0, .int .u8 ((i : Int) % 256), .int .u8 ((i : Int) / 256), .int .u8 1] 5)) 5 1 (.slice (some ⟨w.heap.size, 0, none⟩) 6 6) 6 (bcells (row i 2)) := by
  have b1 : (i : Int) % 256 = ((UInt8.ofNat i).toNat : Int) := byte_of i
  have b2 : (i : Int) / 256 = ((UInt8.ofNat (i / 256)).toNat : Int) := by rw [← byte_of]; omega
  have b3 : (0 : Int) = ((0 : UInt8).toNat : Int) := by decide
  have b4 : (1 : Int) = ((1 : UInt8).toNat : Int) := by decide
  have := Own.built w #[.int .u8 ((i : Int) % 256), .int .u8 ((i : Int) / 256), .int .u8 0, .int .u8 ((i : Int) % 256), .int .u8 ((i : Int) / 256), .int .u8 1] 5 1 6 rfl (by unfold maxLen; omega)
  refine this.cast rfl ?_
  rw [row2]
  simp only [bcells, List.map_cons, List.map_nil, ← b1, ← b2, ← b3, ← b4]
set_option maxRecDepth 100000 in
set_option maxHeartbeats 4000000 in
theorem many_walk (N : Int) (vd : Value) (d : List UInt8) (W : World) (hL : Laid W) (hd : Rd W vd d) (hdl : d.length ≤ 140737488351232) :
    Calls Tryd.prog 4 #[.agg #[.int .i64 N, vd]] W fun e w' => e = .returned (.bool true) ∧ Chg (fun _ => False) W w' := by
  have hs2 := hL.size
  have hdlt := hd.lt
  have Cb : Chg (fun _ => False) W (W.alloc (.cells #[.int .i64 N, vd] 39)) := (Chg.refl _ W).alloc _
  have B0 : Blk (W.alloc (.cells #[.int .i64 N, vd] 39)) W.heap.size 39 #[.int .i64 N, vd] := Blk.new W _ _
  have I0 := Crowd.nil (c := fun _ => []) B0 Cb
  have L0 := hL.kept Cb id id
  go_enter Tryd.func4, Tryd.ntmps4
  go_wp2_with fail
  generalize W.alloc (.cells #[.int .i64 N, vd] 39) = w0 at *
  ((with_reducible refine (within_any N 300 w0 (by omega) (by omega)).mono ?_); rintro e w' ⟨⟨r, rfl, hr⟩, rfl⟩)
  have hrn : 1 + (r : Int) = ((1 + r : Nat) : Int) := by omega
  obtain ⟨n, hn⟩ : ∃ n, n = 1 + r := ⟨_, rfl⟩
  rw [← hn] at hrn
  have hn1 : 1 ≤ n := by omega
  have hn2 : n ≤ 300 := by omega
  clear hn
  go_wp2_with fail
  clear hrn
  go_loopw [4, 5] (fun s4 s5 wr => ∃ ps : List Nat, ps.length ≤ n ∧ s5 = .int .i64 ps.length ∧ Crowd W wr s4 ps (fun _ => []) #[.int .i64 N, vd]) (fun _ s5 _ => n - (intOf s5).toNat)
  case atStart => exact ⟨[], by simp, rfl, I0⟩
  case round =>
    clear I0 B0 Cb L0
    obtain ⟨ps, hps, rfl, I⟩ := hrel
    by_cases hlt : ps.length < n
    · have LR := hL.kept I.chg id id
      go_wp2_with fail
      ((with_reducible refine (hnew_any wr LR).mono ?_); rintro e w1 ⟨rfl, H1, C1⟩)
      have I1 := I.calm C1
      have hlt1 := H1.lt
      have hold : ∀ p ∈ ps, p < wr.heap.size := fun p hp => by
        obtain ⟨j, hj, rfl⟩ := List.getElem_of_mem hp
        exact (I.hs j hj).lt
      have hoq : ∀ q, u4.ownBlock = some q → q < wr.heap.size := fun q hq => I.own.lt q hq
      have hbx := I.box.lt
      clear I
      generalize wr.heap.size = pn at *
      obtain ⟨ao, cap, rfl, hcap⟩ := I1.own.form
      have HI := Lib.hid I1
      go_wp2_with ((with_reducible show wpList _ _ _ (⟨some 26, _, _, _, _, _⟩ :: _) _ _); refine wpl_append (o := ⟨some 26, _, _, _, _, _⟩) rfl (.tmp 23) (.tmp 25) 40 rfl tyHashes (HI.out.own.alloc _) (Sl.built1 w1 (.pointer (some ⟨pn, 0, none⟩)) _ rfl) rfl rfl (by unfold maxLen; omega) (by omega) ?_; intro na nc w6 O6 hgr6 hblk6)
      go_roundw
      case rel =>
        have C6 : Chg (fun q => (Value.slice ao ps.length cap).ownBlock = some q) w1 w6 := ((Chg.refl _ w1).alloc _).grown hgr6 (fun q hq => .inr hq)
        have hl2 : (ps ++ [pn]).length = ps.length + 1 := by simp
        refine ⟨ps ++ [pn], by omega, by rw [hl2]; go_num, ⟨O6.cast (by rw [hl2]) (by simp [ptrs]), fun j hj => ?_, fun p hp => ?_, ?_, fun q hq => ?_, ?_, ?_⟩⟩
        · by_cases e : j < ps.length
          · rw [List.getElem_append_left e]
            exact (I1.hs j e).kept C6 (fun e2 => (I1.sep _ e2).2 (List.getElem_mem e))
          · have hj' : j = ps.length := by omega
            subst hj'
            rw [List.getElem_append_right (Nat.le_refl _)]
            simp only [Nat.sub_self, List.getElem_cons_zero]
            exact H1.kept C6 (fun e2 => by have := hoq _ e2; omega)
        · rcases List.mem_append.1 hp with h | h
          · exact I1.lo p h
          · simp at h; omega
        · rw [List.nodup_append]
          exact ⟨I1.inj, by simp, fun a ha b hb e => by simp at hb; have := hold a ha; omega⟩
        · rcases hblk6 with e | e
          · rw [e] at hq
            refine ⟨(I1.sep q hq).1, fun hm => ?_⟩
            rcases List.mem_append.1 hm with h | h
            · exact (I1.sep q hq).2 h
            · have := hoq q hq; simp at h; omega
          · rw [e] at hq
            have hq' : w1.heap.size + 1 = q := by simpa using hq
            refine ⟨by omega, fun hm => ?_⟩
            rcases List.mem_append.1 hm with h | h
            · have := hold q h; omega
            · simp at h; omega
        · exact I1.box.kept C6 (fun e2 => by have := (I1.sep _ e2).1; omega)
        · exact I1.chg.trans C6 (fun q hq e2 => by have := (I1.sep _ e2).1; omega)
      case measure => simp [intOf]; omega
    · have hpn : ps.length = n := by omega
      obtain ⟨ao, cap, rfl, hcap⟩ := I.own.form
      have hpos : 0 < ps.length := by omega
      obtain ⟨g, rfl, hg⟩ := I.own.addr hpos
      have I0 : Crowd W wr (.slice (some ⟨g, 0, none⟩) ps.length cap) ps (fun j => row j 0) #[.int .i64 N, vd] := I
      have HPN := Lib.hid hpn
      rw [hpn] at I0 hcap ⊢
      clear I hpn hlt hps
      go_wp2_with fail
      go_loopw [7] (fun s7 w2 => ∃ k : Nat, k ≤ 2 ∧ s7 = .int .i64 k ∧ Crowd W w2 (.slice (some ⟨g, 0, none⟩) n cap) ps (fun j => row j k) #[.int .i64 N, vd]) (fun s7 _ => 2 - (intOf s7).toNat)
      case atStart => exact ⟨0, by omega, rfl, I0⟩
      case round =>
        clear I0
        obtain ⟨k, hk, rfl, I⟩ := hrel
        by_cases hk2 : k < 2
        · have I2 : Crowd W wr (.slice (some ⟨g, 0, none⟩) n cap) ps (fun j => if j < 0 then row j (k + 1) else row j k) #[.int .i64 N, vd] := by simpa using I
          have hkd : decide ((k : Int) < 2) = true := by simp; omega
          clear I
          go_wp2_with fail
          go_loopw [8] (fun s8 w3 => ∃ i : Nat, i ≤ n ∧ s8 = .int .i64 i ∧ Crowd W w3 (.slice (some ⟨g, 0, none⟩) n cap) ps (fun j => if j < i then row j (k + 1) else row j k) #[.int .i64 N, vd]) (fun s8 _ => n - (intOf s8).toNat)
          case atStart => exact ⟨0, by omega, rfl, I2⟩
          case round =>
            clear I2
            obtain ⟨i, hi, rfl, I⟩ := hrel
            by_cases hin : i < n
            · have hip : i < ps.length := by have := HPN.out; omega
              have hcell : wr.cell? ⟨g, i, none⟩ = some (.pointer (some ⟨ps[i], 0, none⟩)) := by
                have hO : Own wr 26 1 (.slice (some ⟨g, 0, none⟩) n cap) n (ptrs ps) := I.own.cast HPN.out rfl
                rw [(hO.store hin undef).2.2]; simp [ptrs, hip]
              have hsi : Hs wr ps[i] (row i k) := by have := I.hs i hip; simpa using this
              have hlo := I.lo _ (List.getElem_mem hip)
              have LR := hL.kept I.chg id id
              obtain ⟨p, hp⟩ : ∃ p, p = ps[i] := ⟨_, rfl⟩
              rw [← hp] at hcell hsi hlo
              have b1 : (i : Int) % 256 = ((UInt8.ofNat i).toNat : Int) := byte_of i
              have b2 : (i : Int) / 256 = ((UInt8.ofNat (i / 256)).toNat : Int) := by rw [← byte_of]; omega
              have b3 : (k : Int) = ((UInt8.ofNat k).toNat : Int) := by rw [← byte_of]; omega
              have HB1 := Lib.hid b1
              have HB2 := Lib.hid b2
              have HB3 := Lib.hid b3
              have HP := Lib.hid hp
              have HI := Lib.hid I
              clear b1 b2 b3 hp I
              go_wp2_with fail
              have hx4 : Rd (wr.alloc (.cells #[.int .u8 ((i : Int) % 256), .int .u8 ((i : Int) / 256), .int .u8 (k : Int)] 5)) (.slice (some ⟨wr.heap.size, 0, none⟩) 3 3) [UInt8.ofNat i, UInt8.ofNat (i / 256), UInt8.ofNat k] := by
                rw [HB1.out, HB2.out, HB3.out]; exact Sl.built wr #[.int .u8 ((UInt8.ofNat i).toNat : Int), .int .u8 ((UInt8.ofNat (i / 256)).toNat : Int), .int .u8 ((UInt8.ofNat k).toNat : Int)] 5 1 3 rfl (by simp [Value.oneCell']) (by unfold maxLen; omega)
              have C4 : Chg (fun _ => False) wr (wr.alloc (.cells #[.int .u8 ((i : Int) % 256), .int .u8 ((i : Int) / 256), .int .u8 (k : Int)] 5)) := (Chg.refl _ wr).alloc _
              have hpl := hsi.lt
              have hW := hwrite_any p (row i k) [UInt8.ofNat i, UInt8.ofNat (i / 256), UInt8.ofNat k] _ _ (hsi.kept C4 id) (LR.kept C4 id id) hx4 (fun q hq => by have : wr.heap.size = q := Option.some.inj (rdb_own hq); omega) (by omega) (by rw [row_length]; omega) (by simp)
              ((with_reducible refine hW.mono ?_); rintro e w5 ⟨rfl, h5, C5⟩)
              rw [← row_succ, HP.out] at h5
              rw [HP.out] at C5
              have I5 := Lib.hid ((HI.out.calm C4).wrote hip C5 (c' := fun j => if j < i + 1 then row j (k + 1) else row j k) (by simpa using h5) (fun j hj => by
                show (if j < i + 1 then _ else _) = (if j < i then _ else _)
                by_cases h : j < i
                · rw [if_pos (by omega), if_pos h]
                · rw [if_neg (by omega), if_neg h]))
              clear h5 C5 C4 hx4 hW
              go_wp2_with fail
              go_roundw
              case rel => exact ⟨i + 1, by omega, by go_num, I5.out⟩
              case measure => simp [intOf]; omega
            · have hin' : i = n := by omega
              subst hin'
              have I3 := Lib.hid (show Crowd W wr (.slice (some ⟨g, 0, none⟩) i cap) ps (fun j => row j (k + 1)) #[.int .i64 N, vd] from ⟨I.own, fun j hj => by have := I.hs j hj; have e := HPN.out; simpa [show j < i by omega] using this, I.lo, I.inj, I.sep, I.box, I.chg⟩)
              clear I
              go_wp2_with fail
              go_roundw
              case rel => exact ⟨k + 1, by omega, by go_num, I3.out⟩
              case measure => simp [intOf]; omega
        · have hk' : k = 2 := by omega
          subst hk'
          have hp0 : 0 < ps.length := hpos
          have c0 : wr.cell? ⟨g, 0, none⟩ = some (.pointer (some ⟨ps[0], 0, none⟩)) := by
            have hO : Own wr 26 1 (.slice (some ⟨g, 0, none⟩) n cap) n (ptrs ps) := I.own.cast HPN.out rfl
            rw [(hO.store (i := 0) (by omega) undef).2.2]; simp [ptrs, hp0]
          have cD : wr.cell? ⟨W.heap.size, 1, none⟩ = some vd := by rw [I.box.cell]; rfl
          have h0 := I.hs 0 hp0
          have hlo := I.lo _ (List.getElem_mem hp0)
          have LR := hL.kept I.chg id id
          have RD := hd.kept I.chg (fun _ _ => id)
          have HI := Lib.hid I
          obtain ⟨p, hp⟩ : ∃ p, p = ps[0] := ⟨_, rfl⟩
          rw [← hp] at c0 h0 hlo
          have HP := Lib.hid hp
          clear I hp
          obtain ⟨da, dc, rfl, _⟩ := hd.form
          go_wp2_with fail
          refine wp_region_text mixed (by kernel_rfl) ?_
          go_wp2_with fail
          ((with_reducible refine (hwrite_any p (row 0 2) d _ _ h0.drew (LR.kept ((Chg.refl (fun _ => False) wr).drew) id id) (RD.kept ((Chg.refl (fun _ => False) wr).drew) (fun _ _ => id)) (fun q hq => by have := hdlt q hq; omega) (by omega) (by rw [row_length]; omega) (by omega)).mono ?_); rintro e w5 ⟨rfl, h5, C5⟩)
          go_wp2_with fail
          refine TQ.normal (by kernel_rfl) ?_
          have I5 : Crowd W w5 (.slice (some ⟨g, 0, none⟩) n cap) ps (fun j => row j 2 ++ (if j = 0 then d else [])) #[.int .i64 N, .slice da d.length dc] := by
            rw [HP.out] at h5 C5
            exact HI.out.wrote hp0 ((Chg.refl _ wr).drew.trans C5 (fun _ _ h => h)) (by simpa using h5) (fun j hj => by show row j 2 ++ (if j = 0 then d else []) = row j 2; rw [if_neg hj, List.append_nil])
          clear h5 C5 HI HP h0 c0 cD RD LR hlo
          go_wp2_with fail
          go_loopw [9] (fun s9 w6 => ∃ i : Nat, i ≤ n ∧ s9 = .int .i64 i ∧ Crowd W w6 (.slice (some ⟨g, 0, none⟩) n cap) ps (fun j => row j 2 ++ (if j = 0 then d else [])) #[.int .i64 N, .slice da d.length dc]) (fun s9 _ => n - (intOf s9).toNat)
          case atStart => exact ⟨0, by omega, rfl, I5⟩
          case round =>
            clear I5
            obtain ⟨i, hi, rfl, I⟩ := hrel
            have LR := hL.kept I.chg id id
            have RD := hd.kept I.chg (fun _ _ => id)
            by_cases hin : i < n
            · have hip : i < ps.length := by have := HPN.out; omega
              have hcell : wr.cell? ⟨g, i, none⟩ = some (.pointer (some ⟨ps[i], 0, none⟩)) := by
                have hO : Own wr 26 1 (.slice (some ⟨g, 0, none⟩) n cap) n (ptrs ps) := I.own.cast HPN.out rfl
                rw [(hO.store hin undef).2.2]; simp [ptrs, hip]
              have hsi := I.hs i hip
              have hlo := I.lo _ (List.getElem_mem hip)
              have cD : wr.cell? ⟨W.heap.size, 1, none⟩ = some (.slice da d.length dc) := by rw [I.box.cell]; rfl
              have hgl : g < wr.heap.size := I.own.lt g rfl
              have hbxl := I.box.lt
              have hfr : wr.heap.size ∉ ps := fun hm => by
                obtain ⟨j, hj, e⟩ := List.getElem_of_mem hm
                have := (I.hs j hj).lt
                omega
              have HFR := Lib.hid hfr
              clear hfr
              have hpl : ps[i] < wr.heap.size := hsi.lt
              obtain ⟨p, hp⟩ : ∃ p, p = ps[i] := ⟨_, rfl⟩
              rw [← hp] at hcell hsi hlo hpl
              have O4 := six_own wr i (by omega)
              have C4 : Chg (fun _ => False) wr (wr.alloc (.cells #[.int .u8 ((i : Int) % 256), .int .u8 ((i : Int) / 256), .int .u8 0, .int .u8 ((i : Int) % 256), .int .u8 ((i : Int) / 256), .int .u8 1] 5)) := (Chg.refl _ wr).alloc _
              have I4 := Lib.hid (I.calm C4)
              have RD4 := RD.kept C4 (fun _ _ => id)
              have LR4 := LR.kept C4 id id
              have cD4 : (wr.alloc (.cells #[.int .u8 ((i : Int) % 256), .int .u8 ((i : Int) / 256), .int .u8 0, .int .u8 ((i : Int) % 256), .int .u8 ((i : Int) / 256), .int .u8 1] 5)).cell? ⟨W.heap.size, 1, none⟩ = some (.slice da d.length dc) := by rw [I4.out.box.cell]; rfl
              have hc4 : (wr.alloc (.cells #[.int .u8 ((i : Int) % 256), .int .u8 ((i : Int) / 256), .int .u8 0, .int .u8 ((i : Int) % 256), .int .u8 ((i : Int) / 256), .int .u8 1] 5)).cell? ⟨g, i, none⟩ = some (.pointer (some ⟨p, 0, none⟩)) := by rw [C4.cell (p := ⟨g, i, none⟩) hgl id]; exact hcell
              have hs4 := hsi.kept C4 id
              have HO4 := Lib.hid O4
              have HP := Lib.hid hp
              clear hp I O4 C4 RD LR hcell cD hsi
              generalize hw4 : wr.alloc (.cells #[.int .u8 ((i : Int) % 256), .int .u8 ((i : Int) / 256), .int .u8 0, .int .u8 ((i : Int) % 256), .int .u8 ((i : Int) / 256), .int .u8 1] 5) = w4 at *
              by_cases hi0 : i = 0
              · have hz : ((i : Int) == 0) = true := by simp; omega
                rw [if_pos hi0] at hs4
                clear hi0
                have ed := fun w => eql_dg (row i 2 ++ d) w
                go_wp2_with (first | ((with_reducible show wpList _ _ _ (⟨some 70, _, _, _, _, _⟩ :: _) _ _); refine Shut.out ?_) | fail)
                show wpList _ _ _ _ _ _
                go_wp2_with ((with_reducible show wpList _ _ _ (⟨some 76, _, _, _, _, _⟩ :: _) _ _); refine wpl_append (o := ⟨some 76, _, _, _, _, _⟩) rfl (.tmp 73) (.tmp 75) 22 rfl tyBytes (HO4.out) (RD4) rfl rfl (by unfold maxLen; omega) (by omega) ?_; intro na nc w6 O6 hgr6 hblk6; have C6 : Chg (fun q => q = wr.heap.size) w4 w6 := Chg.of_grown hgr6 (fun q hq _ => (Option.some.inj hq).symm); have hc6 : w6.cell? ⟨g, i, none⟩ = some (.pointer (some ⟨p, 0, none⟩)) := ((C6.cell (p := ⟨g, i, none⟩) (World.block_lt_of_cell? w4 _ hc4) (by show ¬ g = wr.heap.size; omega)).trans hc4); clear hc4 cD4)
                have I6 := Lib.hid (I4.out.part C6 (fun q hq => by omega) (fun q hq => by subst hq; exact ⟨HFR.out, fun e => by have : g = wr.heap.size := Option.some.inj e; omega⟩))
                have LR6 := LR4.kept C6 (by omega) (by omega)
                have hs6 := hs4.kept C6 (by omega)
                have hl2 : (row i 2 ++ d).length = 6 + d.length := by rw [List.length_append, row_length]
                have RB : Rd w6 (.slice na (6 + d.length) nc) (row i 2 ++ d) := Own.rd (e := 5) (show Own w6 5 1 (.slice na (6 + d.length) nc) (row i 2 ++ d).length (bcells (row i 2 ++ d)) from O6.cast hl2.symm (bcells_append _ _).symm)
                clear hl2
                clear C6 LR4 hs4 O6 hgr6 hblk6 HO4 RD4 I4
                ((with_reducible refine (done_arr p (row i 2 ++ d) w6 hs6 LR6 (by omega) (by rw [List.length_append, row_length]; omega)).mono ?_); rintro e w7 ⟨rfl, C7⟩)
                have I7 := Lib.hid (I6.out.calm C7)
                have LR7 := LR6.kept C7 id id
                have RB7 := RB.kept C7 (fun _ _ => id)
                clear C7
                go_wp2_with fail
                ((with_reducible refine (sum_arr _ (row i 2 ++ d) w7 LR7 RB7 (by rw [List.length_append, row_length]; omega)).mono ?_); rintro e w8 ⟨rfl, C8⟩)
                have I8 := Lib.hid (I7.out.calm C8)
                clear C8
                go_wp2_with fail
                go_roundw
                case rel => exact ⟨i + 1, by omega, by go_num, I8.out⟩
                case measure => simp [intOf]; omega
              · have hz : ((i : Int) == 0) = false := by simp; omega
                rw [if_neg hi0, List.append_nil] at hs4
                clear hi0
                have hrl : (row i 2).length = 6 := row_length i 2
                have HS4 := hs4
                have HO5 := HO4
                clear hs4 HO4
                generalize row i 2 = ri at HS4 HO5 hrl
                have ed := fun w => eql_dg ri w
                have RB : Rd w4 (.slice (some ⟨wr.heap.size, 0, none⟩) 6 6) ri := Own.rd (e := 5) (HO5.out.cast hrl.symm rfl)
                have HRL := Lib.hid hrl
                clear hrl
                go_wp2_with fail
                ((with_reducible refine (done_arr p ri w4 HS4 LR4 (by omega) (by rw [HRL.out]; decide)).mono ?_); rintro e w7 ⟨rfl, C7⟩)
                have I7 := Lib.hid (I4.out.calm C7)
                have LR7 := LR4.kept C7 id id
                have RB7 := RB.kept C7 (fun _ _ => id)
                clear C7
                go_wp2_with fail
                ((with_reducible refine (sum_arr _ ri w7 LR7 RB7 (by rw [HRL.out]; decide)).mono ?_); rintro e w8 ⟨rfl, C8⟩)
                have I8 := Lib.hid (I7.out.calm C8)
                clear C8
                as_aux_lemma =>
                  go_wp2_with fail
                  go_roundw
                  case rel => exact ⟨i + 1, by omega, by go_num, I8.out⟩
                  case measure => simp [intOf]; omega
            · have HC := I.chg
              clear I
              go_wp2_with fail
              ((with_reducible refine (right_any wr LR).mono ?_); rintro e w9 ⟨rfl, C9⟩)
              have K := Lib.hid (HC.trans C9 (fun _ _ h => h))
              clear HC C9
              go_wp2_with fail
              go_ret
              exact ⟨rfl, K.out⟩
end Go.Proofs.YtafgeppdchnceaaDoor
