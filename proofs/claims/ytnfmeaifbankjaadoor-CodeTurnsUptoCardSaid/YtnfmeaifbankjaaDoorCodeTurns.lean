import Derived.Test.YtnfmeaifbankjaaDoorTurns
import Derived.Test.YtnfmeaifbankjaaDoorPlaceRead
set_option linter.unusedVariables false
namespace Go.Proofs.YtnfmeaifbankjaaDoor
open Go Go.RowKit Go.Sat
/-- What the plain law says of the items, in the walk's own words. -/
structure TurnsOf (ops : List OpV) (L : List UInt8) (E : Nat → List UInt8) (C : Nat → RS → Prop) : Prop where
  e0 : E 0 = be 7 1 1
  step : ∀ j (h : j < ops.length), j < 400 → E (j + 1) = E j ++ opT ops[j].k ops[j].n ops[j].b
  fin : ∀ j, j ≤ ops.length → j ≤ 400 → ¬ (j < ops.length ∧ j < 400) → E j = L
  len : ∀ j, (E j).length ≤ 3000000
  lenL : L.length ≤ 3000000
  pos : 0 < L.length
  u8 : (RS.mk L 0 0).fixed 1 = (7, ⟨L, (E 0).length, 0⟩)
  good : ∀ j (h : j < ops.length), j < 400 → (RS.mk L (E j).length 0).backV ops[j].k ops[j].n ops[j].b = true ∧ (RS.mk L (E j).length 0).backS ops[j].k ops[j].n ops[j].b = ⟨L, (E (j + 1)).length, 0⟩
  cut0 : C 0 ((RS.mk L.dropLast 0 0).fixed 1).2
  cut : ∀ j (h : j < ops.length), j < 400 → ∀ s, C j s → C (j + 1) (s.backS ops[j].k ops[j].n ops[j].b)
  cutE : ∀ j s, j ≤ ops.length → j ≤ 400 → ¬ (j < ops.length ∧ j < 400) → C j s → s.met = 1
def itOf (o : OpV) : It := ⟨o.k, o.n, o.b⟩
def itsOf (ops : List OpV) : List It := ⟨1, 7, []⟩ :: (ops.take 400).map itOf
theorem opT_len (k n : Int) (b : List UInt8) (hn : 0 ≤ n ∧ n ≤ 18446744073709551615) (hb : b.length ≤ 1000000000) : (opT k n b).length ≤ b.length + 10 := by
  have h1 := varB_len n.toNat (by omega)
  have h2 := varB_len b.length (by omega)
  unfold opT
  repeat' split
  all_goals simp
  all_goals omega
theorem encs_len : ∀ l : List It, (∀ i ∈ l, i.Ok) → (encs l).length ≤ (l.map fun i => i.b.length).sum + 10 * l.length
  | [], _ => by simp [encs]
  | i :: l, h => by
    have h1 := encs_len l fun x hx => h x (List.mem_cons_of_mem _ hx)
    have hi := h i (List.mem_cons_self ..)
    have h2 := opT_len i.k i.n i.b hi.n hi.b
    have e : encs (i :: l) = opT i.k i.n i.b ++ encs l := by simp [encs, It.enc]
    rw [e]
    simp only [List.length_append, List.map_cons, List.sum_cons, List.length_cons]
    omega
theorem turnsOf (W : World) (vo : Value) (ops : List OpV) (hops : RdOps W vo ops) (hbulk : bulkOps ops ≤ 2000000) (hb : ∀ j (h : j < ops.length), ops[j].b.length ≤ 2000000) :
    TurnsOf ops (encs (itsOf ops)) (fun j => encs ((itsOf ops).take (j + 1))) (fun j s => Cut (itsOf ops) (j + 1) s) := by
  have hok : ∀ i ∈ itsOf ops, i.Ok := by
    intro i hi
    simp only [itsOf, List.mem_cons, List.mem_map] at hi
    rcases hi with rfl | ⟨o, ho, rfl⟩
    · exact ⟨⟨by simp, by simp⟩, by simp⟩
    · have hm := List.mem_of_mem_take ho
      obtain ⟨j, hj, rfl⟩ := List.getElem_of_mem hm
      exact ⟨(hops.1 _ hm).n, Nat.le_trans (hb j hj) (by omega)⟩
  have hlen : (itsOf ops).length = min 400 ops.length + 1 := by simp [itsOf]
  have hget : ∀ j (h : j < ops.length) (h2 : j < 400), (itsOf ops)[j + 1]'(by omega) = itOf ops[j] := fun j h h2 => by simp [itsOf]
  have hL : (encs (itsOf ops)).length ≤ 3000000 := by
    have h1 := encs_len _ hok
    have h2 := bulk_take ops 400
    have h3 : ((itsOf ops).map fun i => i.b.length).sum = ((ops.take 400).map fun o => o.b.length).sum := by
      simp only [itsOf, List.map_cons, List.map_map, List.sum_cons, List.length_nil, Nat.zero_add]
      rfl
    rw [h3, hlen] at h1
    omega
  have hle : ∀ k, (encs ((itsOf ops).take k)).length ≤ (encs (itsOf ops)).length := fun k => by
    rw [encs_split (itsOf ops) k, List.length_append]; omega
  have h0 : encs ((itsOf ops).take 1) = be 7 1 1 := by simp [itsOf, encs, It.enc, opT]
  have hL0 : encs (itsOf ops) = be 7 1 1 ++ encs ((itsOf ops).drop 1) := by rw [← h0]; exact encs_split _ 1
  have hpos : 0 < (itsOf ops).length := by rw [hlen]; omega
  have hz : (itsOf ops)[0]'hpos = ⟨1, 7, []⟩ := rfl
  have hfin : ∀ j, j ≤ ops.length → j ≤ 400 → ¬ (j < ops.length ∧ j < 400) → (itsOf ops).take (j + 1) = itsOf ops := fun j h1 h2 h3 => List.take_of_length_le (by rw [hlen]; omega)
  refine ⟨h0, fun j h h2 => ?_, fun j h1 h2 h3 => by show encs ((itsOf ops).take (j + 1)) = _; rw [hfin j h1 h2 h3], fun j => Nat.le_trans (hle _) hL, hL, ?_, ?_, fun j h h2 => ?_, ?_, fun j h h2 s hs => ?_, fun j s h1 h2 h3 hs => ?_⟩
  · have := encs_succ (itsOf ops) (j + 1) (by rw [hlen]; omega)
    rw [hget j h h2] at this
    exact this
  · rw [hL0]; simp; omega
  · have := RS.fixed_good [] (encs ((itsOf ops).drop 1)) 7 1 (by decide)
    rw [List.nil_append, ← hL0] at this
    rw [show ((RS.mk (encs (itsOf ops)) 0 0)) = RS.mk (encs (itsOf ops)) ([] : List UInt8).length 0 from rfl, this]
    show _ = (7, RS.mk _ (encs ((itsOf ops).take 1)).length 0)
    rw [h0]
    rfl
  · have := turn_good (itsOf ops) (j + 1) (by rw [hlen]; omega) (hok _ (List.getElem_mem _))
    simp only [hget j h h2] at this
    exact this
  · have hc : Cut (itsOf ops) 0 ⟨(encs (itsOf ops)).dropLast, 0, 0⟩ := ⟨rfl, .inl ⟨by rw [hL0]; simp [encs]; omega, by simp [encs], rfl⟩⟩
    have := cut_step backS_stuck (itsOf ops) 0 hpos (by rw [hz]; exact ⟨⟨by simp, by simp⟩, by simp⟩) _ hc
    rw [hz] at this
    exact this
  · have := cut_step backS_stuck (itsOf ops) (j + 1) (by rw [hlen]; omega) (hok _ (List.getElem_mem _)) s hs
    simp only [hget j h h2] at this
    exact this
  · rcases hs.2 with ⟨h, _⟩ | ⟨_, h⟩
    · rw [hfin j h1 h2 h3] at h; omega
    · exact h

set_option maxRecDepth 100000 in
set_option maxHeartbeats 3200000 in
theorem codeTurns_walk (i0 i1 vo : Value) (ls0 ls1 : List UInt8) (ops : List OpV) (W : World) (hr0 : Rd W i0 ls0) (hr1 : Rd W i1 ls1) (hops : RdOps W vo ops) (hbulk : bulkOps ops ≤ 2000000) (hT : Errnos W) :
    Calls Tryd.prog 6 #[.agg #[i0, i1, vo]] W fun e w' => e = .returned (.bool true) ∧ Chg (fun _ => False) W w' := by
  obtain ⟨ia0, ic0, rfl, _⟩ := hr0.form
  obtain ⟨ia1, ic1, rfl, _⟩ := hr1.form
  obtain ⟨oa, oc, rfl⟩ := hops.form
  have hb : ∀ j (h : j < ops.length), ops[j].b.length ≤ 2000000 := fun j h => by
    have h1 := bulk_step ops j h
    have h2 := bulk_take ops (j + 1)
    omega
  have hturn := turnsOf W _ ops hops hbulk hb
  generalize encs (itsOf ops) = L at hturn
  generalize (fun j => encs ((itsOf ops).take (j + 1))) = E at hturn
  generalize (fun (j : Nat) s => Cut (itsOf ops) (j + 1) s) = CC at hturn
  have HT := Lib.hid hturn
  have HB := Lib.hid hb
  have hlenL := hturn.lenL
  have hposL := hturn.pos
  clear hr0 hr1 hbulk hb hturn
  have cbox := (Chg.refl (fun _ => False) W).alloc (.cells #[.slice ia0 ls0.length ic0, .slice ia1 ls1.length ic1, .slice oa ops.length oc] 26)
  have B0 := Blk.new W 26 #[.slice ia0 ls0.length ic0, .slice ia1 ls1.length ic1, .slice oa ops.length oc]
  have hpos : 0 < W.heap.size := World.block_lt_of_cell? W _ (hT 0 (by omega))
  go_enter Tryd.func6, Tryd.ntmps6
  go_wp2_with fail
  refine (new_any _).mono ?_
  rintro e w1 ⟨T, rfl, I1, hc1, hs1⟩
  have C1 := cbox.trans hc1 fun _ _ h => h
  have B1 := B0.kept hc1 id
  have hpw : W.heap.size < (W.alloc (.cells #[.slice ia0 ls0.length ic0, .slice ia1 ls1.length ic1, .slice oa ops.length oc] 26)).heap.size := by simp
  clear B0 cbox hc1 hs1
  generalize (W.alloc (.cells #[.slice ia0 ls0.length ic0, .slice ia1 ls1.length ic1, .slice oa ops.length oc] 26)).heap.size = pbw at *
  go_wp2_with fail
  refine (u8_any pbw _ T 7 [] _ I1 (by omega) (by omega) (by simp)).mono ?_
  rintro e w2 ⟨rfl, vw, I2, hc2, hb2⟩
  have C2 : Chg (fun _ => False) W w2 := C1.trans hc2 fun q hq h => by
    rcases h with h | h
    · omega
    · simp [Value.ownBlock] at h
  have B2 := B1.kept hc2 (by
    rintro (h | h)
    · have h : W.heap.size = pbw := h; omega
    · simp [Value.ownBlock] at h)
  have hv2 : ∀ k, vw.ownBlock = some k → W.heap.size < k := fun k hk => by
    rcases hb2 k hk with h | h
    · simp [Value.ownBlock] at h
    · have := B1.lt; omega
  rw [List.nil_append, ← HT.out.e0] at I2
  clear I1 C1 B1 hc2 hb2
  go_wp2_with fail
  go_loopw [4] (fun i wr => ∃ (j : Nat) (vw : Value), j ≤ ops.length ∧ j ≤ 400 ∧ i = .int .i64 j ∧ IsW wr pbw vw T (E j) ∧ (∀ k, vw.ownBlock = some k → W.heap.size < k) ∧ Blk wr W.heap.size 26 #[.slice ia0 ls0.length ic0, .slice ia1 ls1.length ic1, .slice oa ops.length oc] ∧ Chg (fun _ => False) W wr) (fun i _ => 400 - (intOf i).toNat)
  case atStart => exact ⟨0, vw, Nat.zero_le _, Nat.zero_le _, rfl, I2, hv2, B2, C2⟩
  case round =>
    clear I2 hv2 B2 C2
    obtain ⟨j, vw, hj1, hj2, rfl, I, hv, B, CW⟩ := hrel
    have kB : wr.cell? ⟨W.heap.size, 2, none⟩ = some (.slice oa ops.length oc) := B.cell 2
    by_cases hlt2 : j < ops.length ∧ j < 400
    · have C := CW
      obtain ⟨hl1, hl2⟩ := hlt2
      rcases hops.2 with ⟨h, _⟩ | ⟨b, off, c, hpv, hb, hcell⟩
      · rw [h] at hl1; simp at hl1
      injection hpv with e1 e2 e3
      subst e1 e3
      have ho := hops.1 ops[j] (List.getElem_mem _)
      have hcell := hcell j hl1
      have hstep := HT.out.step j hl1 hl2
      have hbb := HB.out j hl1
      generalize ops[j] = o at *
      obtain ⟨ok, owh, om, on, ox, ob⟩ := o
      obtain ⟨za, zc, hx, _⟩ := ho.rd.form
      simp only at hx
      subst hx
      have cc : ∀ i u, (OpV.cells ⟨ok, owh, om, on, .slice za ob.length zc, ob⟩)[i]? = some u → wr.cell? ⟨b, off + j * 5 + i, none⟩ = some u := fun i u hu => by
        rw [CW.cell (p := ⟨b, off + j * 5 + i, none⟩) hb id]; exact hcell i u hu
      have e0 : wr.cell? ⟨b, off + j * 5, none⟩ = some (.int .i64 ok) := cc 0 _ rfl
      have e1 : wr.cell? ⟨b, off + j * 5 + 1, none⟩ = some (.int .i64 owh) := cc 1 _ rfl
      have e2 : wr.cell? ⟨b, off + j * 5 + 2, none⟩ = some (.int .i64 om) := cc 2 _ rfl
      have e3 : wr.cell? ⟨b, off + j * 5 + 3, none⟩ = some (.int .u64 on) := cc 3 _ rfl
      have e4 : wr.cell? ⟨b, off + j * 5 + 4, none⟩ = some (.slice za ob.length zc) := cc 4 _ rfl
      have hon := ho.n
      have hox : Rd wr (.slice za ob.length zc) ob := ho.rd.kept CW fun _ _ => id
      have holt : ∀ k, rdb (.slice za ob.length zc) = some k → k < W.heap.size := ho.lt
      have HOX := Lib.hid hox
      have HLT := Lib.hid holt
      have HC := Lib.hid C
      have HCW := Lib.hid CW
      clear cc hcell ho C CW hox holt
      have HI := Lib.hid I
      have HBX := Lib.hid B
      have HV := Lib.hid hv
      have HS := Lib.hid hstep
      clear I B hv hstep
      go_wp2_with fail
      have hEl := HT.out.len j
      refine (lays_any pbw vw (.slice za ob.length zc) T (E j) ob ok owh om on _ HI.out HOX.out (fun k hk => ⟨fun e => by have := HLT.out k hk; omega, fun e => by have := HLT.out k hk; have := HV.out k e; omega⟩) (by omega) (by omega) hon).mono ?_
      rintro e w3 ⟨rfl, vw3, I3, hc3, hb3⟩
      go_wp2_with fail
      go_roundw
      case rel =>
        refine ⟨j + 1, vw3, by omega, by omega, by go_num, by rw [HS.out]; exact I3, fun k hk => ?_, HBX.out.kept hc3 ?_, HCW.out.trans hc3 fun q hq h => ?_⟩
        · rcases hb3 k hk with h | h
          · exact HV.out k h
          · have := HBX.out.lt; omega
        · rintro (h | h)
          · have h : W.heap.size = pbw := h; omega
          · have := HV.out _ h; omega
        · rcases h with h | h
          · omega
          · have := HV.out _ h; omega
      case measure => simp [intOf]; omega
    · have hE := HT.out.fin j hj1 hj2 hlt2
      rw [hE] at I
      clear hE
      have HI := Lib.hid I
      have HV := Lib.hid hv
      have HBX := Lib.hid B
      clear I hv B
      rcases (by omega : ¬ j < ops.length ∨ (j < ops.length ∧ ¬ j < 400)) with h1 | ⟨h1, h2⟩
      all_goals
        clear hlt2
        go_wp2_with fail
        refine (out_any pbw _ T L _ HI.out (by omega)).mono ?_
        rintro e w3 ⟨rfl, O3, hc3, hs3⟩
        have C3 := CW.trans hc3 fun _ _ h => h
        have I3 := HI.out.kept hc3 id fun _ _ => id
        have B3 := HBX.out.kept hc3 id
        have hbo := HBX.out.lt
        clear HI HBX HV
        generalize wr.heap.size = bo at *
        go_wp2_with fail
        refine (read_any _ L _ (Own.rd O3) (by omega)).mono ?_
        rintro e w4 ⟨pr, vr, Tr, rfl, R4, hc4, hpr, hrr⟩
        have C4 := C3.trans hc4 fun _ _ h => h
        have I4 := I3.kept hc4 id fun _ _ => id
        have B4 := B3.kept hc4 id
        have O4 := Own.rd (O3.kept hc4 fun _ _ => id)
        have hprb : bo < pr := by omega
        clear I3 B3 O3 C3 hc3 hc4 hpr hrr
        have hz : ((L.length : Int) == 0) = false := by rw [beq_eq_false_iff_ne]; omega
        go_wp2_with fail
        refine (wlen_any pbw _ T L _ I4).mono ?_
        rintro e w5 ⟨rfl, rfl⟩
        go_wp2_with fail
        refine (rdu8_any pr vr Tr _ _ R4).mono ?_
        rw [HT.out.u8]
        rintro e w5 ⟨rfl, R5, hc5⟩
        have C5 : Chg (fun _ => False) W w5 := C4.trans hc5 fun q hq h => by omega
        have B5 := B4.kept hc5 (by show ¬ W.heap.size = pr; omega)
        have O5 := O4.kept hc5 fun k hk h => by
          have := rdb_own hk
          simp [Value.ownBlock] at this; subst this
          have h : bo = pr := h
          omega
        clear B4 O4 C4 hc5 I4 R4 CW
        go_wp2_with fail
        go_loopw [7] (fun i w6 => ∃ j : Nat, j ≤ ops.length ∧ j ≤ 400 ∧ i = .int .i64 j ∧ IsR w6 pr vr Tr met ⟨L, (E j).length, 0⟩ ∧ Chg (fun z => z = pr) w5 w6) (fun i _ => 400 - (intOf i).toNat)
        case atStart => exact ⟨0, Nat.zero_le _, Nat.zero_le _, rfl, R5, Chg.refl _ _⟩
        case round =>
          clear R5 h1
          try clear h2
          try clear hj1
          try clear hj2
          obtain ⟨j, hj1, hj2, rfl, R, C⟩ := hrel
          have CW : Chg (fun _ => False) W wr := C5.trans C fun q hq h => by omega
          have kB : wr.cell? ⟨W.heap.size, 2, none⟩ = some (.slice oa ops.length oc) := (B5.kept C (by show ¬ W.heap.size = pr; omega)).cell 2
          by_cases hlt2 : j < ops.length ∧ j < 400
          · have hz := hz
            obtain ⟨hl1, hl2⟩ := hlt2
            rcases hops.2 with ⟨h, _⟩ | ⟨b, off, c, hpv, hb, hcell⟩
            · rw [h] at hl1; simp at hl1
            injection hpv with e1 e2 e3
            subst e1 e3
            have ho := hops.1 ops[j] (List.getElem_mem _)
            have hcell := hcell j hl1
            have hgood := HT.out.good j hl1 hl2
            have hbb := HB.out j hl1
            generalize ops[j] = o at *
            obtain ⟨ok, owh, om, on, ox, ob⟩ := o
            obtain ⟨za, zc, hx, _⟩ := ho.rd.form
            simp only at hx
            subst hx
            have cc : ∀ i u, (OpV.cells ⟨ok, owh, om, on, .slice za ob.length zc, ob⟩)[i]? = some u → wr.cell? ⟨b, off + j * 5 + i, none⟩ = some u := fun i u hu => by
              rw [CW.cell (p := ⟨b, off + j * 5 + i, none⟩) hb id]; exact hcell i u hu
            have e0 : wr.cell? ⟨b, off + j * 5, none⟩ = some (.int .i64 ok) := cc 0 _ rfl
            have e1 : wr.cell? ⟨b, off + j * 5 + 1, none⟩ = some (.int .i64 owh) := cc 1 _ rfl
            have e2 : wr.cell? ⟨b, off + j * 5 + 2, none⟩ = some (.int .i64 om) := cc 2 _ rfl
            have e3 : wr.cell? ⟨b, off + j * 5 + 3, none⟩ = some (.int .u64 on) := cc 3 _ rfl
            have e4 : wr.cell? ⟨b, off + j * 5 + 4, none⟩ = some (.slice za ob.length zc) := cc 4 _ rfl
            have hon := ho.n
            have hox : Rd wr (.slice za ob.length zc) ob := ho.rd.kept CW fun _ _ => id
            have holt : ∀ k, rdb (.slice za ob.length zc) = some k → k < W.heap.size := ho.lt
            have HOX := Lib.hid hox
            have HLT := Lib.hid holt
            have HC := Lib.hid C
            have HCW := Lib.hid CW
            clear cc hcell ho C CW hox holt
            have HG := Lib.hid hgood
            have HR := Lib.hid R
            clear hgood R
            go_wp2_with fail
            refine (back_any pr vr (.slice za ob.length zc) Tr ob _ ok owh om on _ HR.out HOX.out (fun k hk => by have := HLT.out k hk; omega) (by omega) hon).mono ?_
            unfold BackPost
            rw [HG.out.1, HG.out.2]
            rintro e w7 ⟨rfl, R7, hc7⟩
            have C7 := HC.out.trans hc7 fun _ _ h => h
            have CW7 : Chg (fun _ => False) W w7 := C5.trans C7 fun q hq h => by omega
            go_wp2_with fail
            refine (rfault_any pr vr Tr _ _ R7 (hT.kept CW7 id)).mono ?_
            rw [show errO (RS.mk L (E (j + 1)).length 0).met = 0 from rfl]
            rintro e w8 ⟨rfl, rfl⟩
            go_wp2_with fail
            refine (num_any _ _).mono ?_
            rintro e w8 ⟨rfl, rfl⟩
            go_wp2_with fail
            go_roundw
            case rel => exact ⟨j + 1, by omega, by omega, by go_num, R7, C7⟩
            case measure => simp [intOf]; omega
          · have hE := HT.out.fin j hj1 hj2 hlt2
            rw [hE] at R
            clear hE
            have hend : endO (RS.mk L L.length 0) = 0 := by simp [endO, RS.left, errO]
            have hleft : (((RS.mk L L.length 0).left : Nat) : Int) = 0 := by simp [RS.left]
            have O6 := O5.kept C fun k hk h => by
              have := rdb_own hk
              simp [Value.ownBlock] at this; subst this
              have h : bo = pr := h
              omega
            have B6 := B5.kept C (by show ¬ W.heap.size = pr; omega)
            have HR := Lib.hid R
            have HL := Lib.hid hleft
            have HN := Lib.hid hend
            clear R hleft hend C C5 O5 B5
            have hsub : (L.length : Int) - 1 = ((L.length - 1 : Nat) : Int) := by omega
            have HCW := Lib.hid CW
            clear CW
            rcases (by omega : ¬ j < ops.length ∨ (j < ops.length ∧ ¬ j < 400)) with h1 | ⟨h1, h2⟩
            all_goals
              clear hlt2
              go_wp2_with fail
              refine (rend_any pr vr Tr _ _ HR.out (hT.kept HCW.out id)).mono ?_
              rw [HN.out]
              rintro e w7 ⟨rfl, hd7⟩
              go_wp2_with fail
              refine (num_any _ _).mono ?_
              rintro e w7' ⟨rfl, rfl⟩
              have R7 := HR.out.calm (hd7.chg _)
              go_wp2_with fail
              refine (rleft_any pr vr Tr met _ _ R7).mono ?_
              rw [HL.out]
              rintro e w8 ⟨rfl, hd8⟩
              have R8 := R7.calm (hd8.chg _)
              have c8 : Chg (fun _ => False) wr w8 := (hd7.chg (fun _ => False)).trans (hd8.chg (fun _ => False)) fun _ _ h => h
              go_wp2_with fail
              refine (rat_any pr vr Tr met _ _ R8).mono ?_
              rintro e w8' ⟨rfl, rfl⟩
              go_wp2_with fail

              have O8 := O6.kept c8 fun _ _ => id
              have B8 := B6.kept c8 id
              have C8 := HCW.out.trans c8 fun _ _ h => h
              clear HR HL HN R7 R8 hd7 hd8 c8 O6 B6 HCW
              have O9 : Rd w8 (.slice (some ⟨bo, 0, none⟩) (L.length - 1) L.length) L.dropLast := by
                have h := O8.part (lo := 0) (hi := L.length - 1) (Nat.zero_le _) (by omega)
                rw [List.dropLast_eq_take]
                simpa [show L.length ≠ 0 by omega, addr_add] using h
              refine (read_any _ L.dropLast _ (by simpa using O9) (by simp; omega)).mono ?_
              rintro e w9 ⟨ps, vs, Ts, rfl, R9, hc9, hps, hrs⟩
              have C9 := C8.trans hc9 fun _ _ h => h
              have B9 := B8.kept hc9 id
              have hpsW : W.heap.size < ps := by have := B8.lt; omega
              clear O8 B8 C8 O9 hc9 hps hrs
              go_wp2_with fail
              have hcut0 := HT.out.cut0
              refine (rdu8_any ps vs Ts _ _ R9).mono ?_
              rintro e w10 ⟨rfl, R10, hc10⟩
              have C10 : Chg (fun _ => False) W w10 := C9.trans hc10 fun q hq h => by omega
              have B10 := B9.kept hc10 (by show ¬ W.heap.size = ps; omega)
              clear C9 B9 hc10 R9
              go_wp2_with fail
              go_loopw [9] (fun i w6 => ∃ (j : Nat) (s : RS), j ≤ ops.length ∧ j ≤ 400 ∧ i = .int .i64 j ∧ CC j s ∧ IsR w6 ps vs Ts met s ∧ Chg (fun z => z = ps) w10 w6) (fun i _ => 400 - (intOf i).toNat)
              case atStart => exact ⟨0, _, Nat.zero_le _, Nat.zero_le _, rfl, hcut0, R10, Chg.refl _ _⟩
              case round =>
                clear R10 h1 hcut0
                try clear h2
                try clear hj1
                try clear hj2
                obtain ⟨j, s, hj1, hj2, rfl, hcc, R, C⟩ := hrel
                have CW : Chg (fun _ => False) W wr := C10.trans C fun q hq h => by omega
                have kB : wr.cell? ⟨W.heap.size, 2, none⟩ = some (.slice oa ops.length oc) := (B10.kept C (by show ¬ W.heap.size = ps; omega)).cell 2
                by_cases hlt2 : j < ops.length ∧ j < 400
                · have hz := hz
                  obtain ⟨hl1, hl2⟩ := hlt2
                  rcases hops.2 with ⟨h, _⟩ | ⟨b, off, c, hpv, hb, hcell⟩
                  · rw [h] at hl1; simp at hl1
                  injection hpv with e1 e2 e3
                  subst e1 e3
                  have ho := hops.1 ops[j] (List.getElem_mem _)
                  have hcell := hcell j hl1
                  have hgood := HT.out.cut j hl1 hl2 s hcc
                  have hbb := HB.out j hl1
                  generalize ops[j] = o at *
                  obtain ⟨ok, owh, om, on, ox, ob⟩ := o
                  obtain ⟨za, zc, hx, _⟩ := ho.rd.form
                  simp only at hx
                  subst hx
                  have cc : ∀ i u, (OpV.cells ⟨ok, owh, om, on, .slice za ob.length zc, ob⟩)[i]? = some u → wr.cell? ⟨b, off + j * 5 + i, none⟩ = some u := fun i u hu => by
                    rw [CW.cell (p := ⟨b, off + j * 5 + i, none⟩) hb id]; exact hcell i u hu
                  have e0 : wr.cell? ⟨b, off + j * 5, none⟩ = some (.int .i64 ok) := cc 0 _ rfl
                  have e1 : wr.cell? ⟨b, off + j * 5 + 1, none⟩ = some (.int .i64 owh) := cc 1 _ rfl
                  have e2 : wr.cell? ⟨b, off + j * 5 + 2, none⟩ = some (.int .i64 om) := cc 2 _ rfl
                  have e3 : wr.cell? ⟨b, off + j * 5 + 3, none⟩ = some (.int .u64 on) := cc 3 _ rfl
                  have e4 : wr.cell? ⟨b, off + j * 5 + 4, none⟩ = some (.slice za ob.length zc) := cc 4 _ rfl
                  have hon := ho.n
                  have hox : Rd wr (.slice za ob.length zc) ob := ho.rd.kept CW fun _ _ => id
                  have holt : ∀ k, rdb (.slice za ob.length zc) = some k → k < W.heap.size := ho.lt
                  have HOX := Lib.hid hox
                  have HLT := Lib.hid holt
                  have HC := Lib.hid C
                  have HCW := Lib.hid CW
                  clear cc hcell ho C CW hox holt
                  have HG := Lib.hid hgood
                  have HR := Lib.hid R
                  clear hgood R hcc
                  go_wp2_with fail
                  refine (back_any ps vs (.slice za ob.length zc) Ts ob _ ok owh om on _ HR.out HOX.out (fun k hk => by have := HLT.out k hk; omega) (by omega) hon).mono ?_
                  rintro e w7 ⟨rfl, R7, hc7⟩
                  have C7 := HC.out.trans hc7 fun _ _ h => h
                  go_wp2_with fail
                  go_roundw
                  case rel => exact ⟨j + 1, _, by omega, by omega, by go_num, HG.out, R7, C7⟩
                  case measure => simp [intOf]; omega
                · have hm := HT.out.cutE j s hj1 hj2 hlt2 hcc
                  have herr : errO s.met = 10 := by rw [hm]; rfl
                  have hend : endO s = 10 := by unfold endO; rw [if_neg (by omega), herr]
                  have HR := Lib.hid R
                  have HN := Lib.hid hend
                  have HE := Lib.hid herr
                  have HTr := Lib.hid (hT.kept CW id)
                  clear R hend herr hm hcc
                  rcases (by omega : ¬ j < ops.length ∨ (j < ops.length ∧ ¬ j < 400)) with h1 | ⟨h1, h2⟩
                  all_goals
                    clear hlt2
                    go_wp2_with fail
                    refine (rfault_any ps vs Ts _ _ HR.out HTr.out).mono ?_
                    rw [HE.out]
                    rintro e w7 ⟨rfl, rfl⟩
                    go_wp2_with fail
                    refine (num_any _ _).mono ?_
                    rintro e w7 ⟨rfl, rfl⟩
                    go_wp2_with fail
                    refine (rend_any ps vs Ts _ _ HR.out HTr.out).mono ?_
                    rw [HN.out]
                    rintro e w7 ⟨rfl, hd7⟩
                    go_wp2_with fail
                    refine (num_any _ _).mono ?_
                    rintro e w7' ⟨rfl, rfl⟩
                    go_wp2_with fail
                    go_ret
                    exact ⟨rfl, CW.trans (hd7.chg (fun _ => False)) fun _ _ h => h⟩
end Go.Proofs.YtnfmeaifbankjaaDoor
