import Derived.Test.YtnfmeaifbankjaaDoorPlace
import Derived.Test.YtnfmeaifbankjaaDoorPairs
set_option linter.unusedVariables false
namespace Go.Proofs.YtnfmeaifbankjaaDoor
open Go Go.RowKit Go.Sat
/-- Steps that read, and lie below a bound. -/
theorem RdOps.kept0 {w w' : World} {v : Value} {ops : List OpV} (h : RdOps w v ops) (hc : Chg (fun _ => False) w w') : RdOps w' v ops := by
  refine ⟨fun o ho => RdOps.ok (h.1 o ho) hc, ?_⟩
  rcases h.2 with h | ⟨b, off, c, rfl, hb, hcell⟩
  · exact .inl h
  · exact .inr ⟨b, off, c, rfl, Nat.lt_of_lt_of_le hb hc.size, fun i hi j u hu => by rw [hc.cell (p := ⟨b, off + i * 5 + j, none⟩) hb id]; exact hcell i hi j u hu⟩
set_option maxRecDepth 100000 in
set_option maxHeartbeats 1600000 in
theorem readlaw_any (x y vo : Value) (l : List UInt8) (ops : List OpV) (W : World) (hx : Rd W x l) (hy : Rd W y l) (hl : l.length ≤ 1000000000) (hops : RdOps W vo ops) (hT : Errnos W) :
    Calls Tryd.prog 24 #[x, y, vo] W fun e w' => e = .returned (.bool true) ∧ Chg (fun _ => False) W w' := by
  obtain ⟨xa, xc, rfl, _⟩ := hx.form
  obtain ⟨ya, yc, rfl, _⟩ := hy.form
  obtain ⟨oa, oc, rfl⟩ := hops.form
  have hpos : 0 < W.heap.size := World.block_lt_of_cell? W _ (hT 0 (by omega))
  go_enter Tryd.func24, Tryd.ntmps24
  go_wp2_with fail
  refine (read_any _ l _ hx hl).mono ?_
  rintro e w1 ⟨pb, v, T, rfl, R1, C1, hpb, hrv⟩
  go_wp2_with fail
  have hlt1 := R1.blk.lt
  have hrd1 : ∀ k, rdb v = some k → k < w1.heap.size := fun k hk => Rd.lt R1.rd hk
  refine (copy_any _ l _ (hy.kept C1 fun _ _ => id) hl).mono ?_
  rintro e w2 ⟨rfl, O2, C2, hs2⟩
  have EY := newEye (w1 := w2) O2 hl
  have c3 := (Chg.refl (fun _ => False) w2).alloc (.cells #[.slice (some ⟨w1.heap.size, 0, none⟩) l.length l.length, .int .i64 0, .int .i64 0] 34)
  have P0 : Pair (w2.alloc (.cells #[.slice (some ⟨w1.heap.size, 0, none⟩) l.length l.length, .int .i64 0, .int .i64 0] 34)) pb v T w2.heap.size (.slice (some ⟨w1.heap.size, 0, none⟩) l.length l.length) 34 ⟨l, 0, 0⟩ := by
    refine ⟨(R1.calm C2).calm c3, EY, by omega, fun z hz e => ?_, fun z hz e => ?_, ⟨by omega, by omega⟩, ?_⟩
    · have := hrd1 z hz; omega
    · have h1 := rdb_own hz
      simp [Value.ownBlock] at h1; omega
    · exact hT.kept ((C1.trans C2 fun _ _ h => h).trans c3 fun _ _ h => h) id
  have C03 : Chg (fun _ => False) W (w2.alloc (.cells #[.slice (some ⟨w1.heap.size, 0, none⟩) l.length l.length, .int .i64 0, .int .i64 0] 34)) := (C1.trans C2 fun _ _ h => h).trans c3 fun _ _ h => h
  go_wp2_with fail
  generalize w2.alloc (.cells #[.slice (some ⟨w1.heap.size, 0, none⟩) l.length l.length, .int .i64 0, .int .i64 0] 34) = w3 at *
  generalize (Value.slice (some ⟨w1.heap.size, 0, none⟩) l.length l.length) = ev at *
  have hebW : W.heap.size ≤ w2.heap.size := Nat.le_trans C1.size C2.size
  generalize w2.heap.size = eb at *
  clear O2 EY c3 R1 hrd1 hlt1 C1 C2 hs2
  go_loopw [9] (fun i wr => ∃ (j : Nat) (s : RS), j ≤ ops.length ∧ j ≤ 400 ∧ i = .int .i64 j ∧ s.l = l ∧ Pair wr pb v T eb ev 34 s ∧ Chg (fun z => z = pb ∨ z = eb) w3 wr) (fun i _ => 400 - (intOf i).toNat)
  case atStart => exact ⟨0, _, Nat.zero_le _, Nat.zero_le _, rfl, rfl, P0, Chg.refl _ _⟩
  case round =>
    clear P0
    obtain ⟨j, s, hj1, hj2, rfl, hsl, P, C⟩ := hrel
    have CW : Chg (fun _ => False) W wr := C03.trans C fun q hq h => by omega
    by_cases hlt2 : j < ops.length ∧ j < 400
    · obtain ⟨hl1, hl2⟩ := hlt2
      rcases hops.2 with ⟨h, _⟩ | ⟨b, off, c, hpv, hb, hcell⟩
      · rw [h] at hl1; simp at hl1
      injection hpv with e1 e2 e3
      subst e1 e3
      have ho := hops.1 ops[j] (List.getElem_mem _)
      have hcell := hcell j hl1
      generalize ops[j] = o at *
      obtain ⟨ok, owh, om, on, ox, ob⟩ := o
      obtain ⟨za, zc, hx, _⟩ := ho.rd.form
      simp only at hx
      subst hx
      have cc : ∀ i u, (OpV.cells ⟨ok, owh, om, on, .slice za ob.length zc, ob⟩)[i]? = some u → wr.cell? ⟨b, off + j * 5 + i, none⟩ = some u := fun i u hu => by
        rw [CW.cell (p := ⟨b, off + j * 5 + i, none⟩) hb id]; exact hcell i u hu
      have e0 : wr.cell? ⟨b, off + j * 5, none⟩ = some (.int .i64 ok) := cc 0 _ rfl
      have e1 : wr.cell? ⟨b, off + j * 5 + 1, none⟩ = some (.int .i64 owh) := cc 1 _ rfl
      have e2 : wr.cell? ⟨b, off + j * 5 + 2, none⟩ = some (.int .i64 om) := cc 2 _ rfl
      have e3 : wr.cell? ⟨b, off + j * 5 + 3, none⟩ = some (.int .u64 on) := cc 3 _ rfl
      have e4 : wr.cell? ⟨b, off + j * 5 + 4, none⟩ = some (.slice za ob.length zc) := cc 4 _ rfl
      have hom := ho.m
      have hon := ho.n
      have HP := Lib.hid P
      have HC := Lib.hid C
      have HSL := Lib.hid hsl
      clear cc hcell ho P C CW hsl
      go_wp2_with fail
      refine (reads_any pb eb v ev (.slice za ob.length zc) T 34 s ok owh om on _ HP.out hom hon).mono ?_
      rintro e w4 ⟨rfl, s', hs', P4, C4⟩
      go_wp2_with fail
      go_roundw
      case rel => exact ⟨j + 1, s', by omega, by omega, by go_num, hs'.trans HSL.out, P4, HC.out.trans C4 fun _ _ h => h⟩
      case measure => simp [intOf]; omega
    · have e1 := P.e.facts.2.1
      have hok := P.r.ok.le
      have hleft : ((s.left : Nat) : Int) = (l.length : Int) - s.p := by simp only [RS.left, ← hsl]; omega
      have hpl : s.p ≤ l.length := by rw [← hsl]; exact hok
      have HL := Lib.hid hleft
      have HP := Lib.hid P
      have HCW := Lib.hid CW
      clear hleft P CW hsl hok
      rcases (by omega : ¬ j < ops.length ∨ (j < ops.length ∧ ¬ j < 400)) with h1 | ⟨h1, h2⟩
      all_goals
        go_wp2_with fail
        refine wp_region_pin (fun _ => false) [5, 15] [2, 8] (Same (fun _ => False) wr) mixed (by kernel_rfl) (fun _ _ h e => h.ext e) (Same.refl _ _).drew ?_
        simp only [wpSegs, List.take_succ_cons, List.take_zero, List.drop_succ_cons, List.drop_zero]
        go_wp2_with fail
        have P5 := HP.out.calm ((Chg.refl (fun _ => False) wr).drew)
        refine (rat_any pb v T met s _ P5.r).mono ?_
        rintro e w5 ⟨rfl, rfl⟩
        go_wp2_with fail
        refine SegQ.normal ⟨(Same.refl _ _).drew, ?_⟩
        go_wp2_with fail
        refine (rleft_any pb v T met s _ P5.r).mono ?_
        rw [HL.out]
        rintro e w6 ⟨rfl, hd6⟩
        have c6 : Chg (fun _ => False) wr w6 := ((Chg.refl _ wr).drew).trans (hd6.chg (fun _ => False)) fun _ _ h => h
        have P6 := HP.out.calm c6
        have e6 := P6.e.facts.2.1
        go_wp2_with fail
        refine SegQ.normal ⟨fun z o h _ => c6.keep h id, ?_⟩
        go_wp2_with fail
        refine (rend_any pb v T s _ P6.r P6.tab).mono ?_
        rintro e w7 ⟨rfl, hd7⟩
        go_wp2_with fail
        refine (num_any _ _).mono ?_
        rintro e w7' ⟨rfl, rfl⟩
        go_wp2_with fail
        have P7 := P6.calm (hd7.chg _)
        refine (eend_any eb ev 34 s _ P7.e).mono ?_
        rintro e w8 ⟨rfl, hd8⟩
        go_wp2_with fail
        refine TQ.normal (by kernel_rfl) ⟨⟨PinAt.cell rfl rfl rfl e1 id (fun X h => by go_simp), PinAt.cell rfl rfl rfl e1 id (fun X h => by go_simp), trivial⟩, ?_⟩
        go_wp2_with fail
        go_ret
        exact ⟨rfl, ((HCW.out.trans c6 fun _ _ h => h).trans (hd7.chg (fun _ => False)) fun _ _ h => h).trans (hd8.chg (fun _ => False)) fun _ _ h => h⟩
end Go.Proofs.YtnfmeaifbankjaaDoor
