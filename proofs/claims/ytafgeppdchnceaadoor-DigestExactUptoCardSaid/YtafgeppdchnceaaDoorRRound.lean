import Derived.Test.YtafgeppdchnceaaDoorRSha
set_option linter.unusedVariables false
namespace Go.Proofs.YtafgeppdchnceaaDoor
open Go Go.RowKit Go.Sat
theorem mask32i (x : Int) (h0 : 0 ≤ x) (h : x < 18446744073709551616) : bits BinOp.and IntKind.u64 x 4294967295 = x % 4294967296 := by
  obtain ⟨n, rfl⟩ := Int.eq_ofNat_of_zero_le h0
  rw [mask32 n (by omega)]
  simp
theorem xor64 (a b : Nat) (ha : a < 4294967296) (hb : b < 4294967296) : bits BinOp.xor IntKind.u64 (a : Int) (b : Int) = ((a ^^^ b : Nat) : Int) := u64_xor_nat a b (by omega) (by omega)
theorem and64 (a b : Nat) (ha : a < 4294967296) (hb : b < 4294967296) : bits BinOp.and IntKind.u64 (a : Int) (b : Int) = ((a &&& b : Nat) : Int) := u64_and_nat a b (by omega) (by omega)
theorem S1_bits64 (e : Nat) (h : e < 4294967296) : bits BinOp.xor IntKind.u64 (bits BinOp.xor IntKind.u64 ((Sha.rotr e 6 : Nat) : Int) ((Sha.rotr e 11 : Nat) : Int)) ((Sha.rotr e 25 : Nat) : Int) = ((Sha.S1 e : Nat) : Int) := by
  rw [xor64 _ _ (Sha.rotr_lt h) (Sha.rotr_lt h), xor64 _ _ (Sha.xor_lt (Sha.rotr_lt h) (Sha.rotr_lt h)) (Sha.rotr_lt h)]; rfl
theorem S0_bits64 (e : Nat) (h : e < 4294967296) : bits BinOp.xor IntKind.u64 (bits BinOp.xor IntKind.u64 ((Sha.rotr e 2 : Nat) : Int) ((Sha.rotr e 13 : Nat) : Int)) ((Sha.rotr e 22 : Nat) : Int) = ((Sha.S0 e : Nat) : Int) := by
  rw [xor64 _ _ (Sha.rotr_lt h) (Sha.rotr_lt h), xor64 _ _ (Sha.xor_lt (Sha.rotr_lt h) (Sha.rotr_lt h)) (Sha.rotr_lt h)]; rfl
theorem s0_bits64 (x : Nat) (h : x < 4294967296) : bits BinOp.xor IntKind.u64 (bits BinOp.xor IntKind.u64 ((Sha.rotr x 7 : Nat) : Int) ((Sha.rotr x 18 : Nat) : Int)) ((x : Int) / 8) = ((Sha.s0 x : Nat) : Int) := by
  rw [xor64 _ _ (Sha.rotr_lt h) (Sha.rotr_lt h), show ((x : Int) / 8) = ((x / 8 : Nat) : Int) from by omega, xor64 _ _ (Sha.xor_lt (Sha.rotr_lt h) (Sha.rotr_lt h)) (by omega)]; rfl
theorem s1_bits64 (x : Nat) (h : x < 4294967296) : bits BinOp.xor IntKind.u64 (bits BinOp.xor IntKind.u64 ((Sha.rotr x 17 : Nat) : Int) ((Sha.rotr x 19 : Nat) : Int)) ((x : Int) / 1024) = ((Sha.s1 x : Nat) : Int) := by
  rw [xor64 _ _ (Sha.rotr_lt h) (Sha.rotr_lt h), show ((x : Int) / 1024) = ((x / 1024 : Nat) : Int) from by omega, xor64 _ _ (Sha.xor_lt (Sha.rotr_lt h) (Sha.rotr_lt h)) (by omega)]; rfl
theorem ch_bits64 (e f g : Nat) (he : e < 4294967296) (hf : f < 4294967296) (hg : g < 4294967296) : bits BinOp.xor IntKind.u64 (bits BinOp.and IntKind.u64 (e : Int) (f : Int)) (bits BinOp.and IntKind.u64 (bits BinOp.xor IntKind.u64 4294967295 (e : Int)) (g : Int)) = ((Sha.ch e f g : Nat) : Int) := by
  rw [show (4294967295 : Int) = ((4294967295 : Nat) : Int) from rfl, xor64 _ _ (by decide) he, and64 _ _ he hf, and64 _ _ (Sha.xor_lt (by decide) he) hg, xor64 _ _ (Sha.and_lt he) (Sha.and_lt (Sha.xor_lt (by decide) he))]; rfl
theorem maj_bits64 (a b c : Nat) (ha : a < 4294967296) (hb : b < 4294967296) (hc : c < 4294967296) : bits BinOp.xor IntKind.u64 (bits BinOp.xor IntKind.u64 (bits BinOp.and IntKind.u64 (a : Int) (b : Int)) (bits BinOp.and IntKind.u64 (a : Int) (c : Int))) (bits BinOp.and IntKind.u64 (b : Int) (c : Int)) = ((Sha.maj a b c : Nat) : Int) := by
  rw [and64 _ _ ha hb, and64 _ _ ha hc, and64 _ _ hb hc, xor64 _ _ (Sha.and_lt ha) (Sha.and_lt ha), xor64 _ _ (Sha.xor_lt (Sha.and_lt ha) (Sha.and_lt ha)) (Sha.and_lt hb)]; rfl
theorem w64_one (l : List Nat) : (wcells64 l).toArray.all (·.oneCell') = true := Array.all_eq_true_iff_forall_mem.2 fun u hu => by
  simp only [wcells64, List.mem_toArray, List.mem_map] at hu
  obtain ⟨_, _, rfl⟩ := hu
  rfl
theorem rturn_lit (x : Nat) (n : Int) (m : Nat) (hn : n = m) (w : World) (hx : x < 4294967296) (h1 : 1 ≤ m) (h2 : m ≤ 31) :
    Calls Tryd.prog 39 #[.int .u64 (x : Int), .int .i64 n] w fun e w' => e = .returned (.int .u64 (Sha.rotr x m : Nat)) ∧ w = w' := by
  subst hn; exact rturn_any x m w hx h1 h2
set_option maxRecDepth 100000 in
set_option maxHeartbeats 1600000 in
theorem rround_any (v : Sha.V8) (wl : List Nat) (wb : Nat) (W : World) (hv : ∀ x ∈ v.list, x < 4294967296) (hK : ∀ t, t < 64 → W.cell? ⟨3, t, none⟩ = some (.int .u64 ((Sha.k0.getD t 0 : Nat) : Int)))
    (hw : ∀ t, t < 64 → W.cell? ⟨wb, t, none⟩ = some (.int .u64 ((wl.getD t 0 : Nat) : Int))) (hwl : ∀ x ∈ wl, x < 4294967296) :
    Calls Tryd.prog 40 #[.agg (wcells64 v.list).toArray, .slice (some ⟨wb, 0, none⟩) 64 64] W fun e w' => e = .returned (.agg (wcells64 (Sha.rnds Sha.k0 wl v 64).list).toArray) ∧ Chg (fun _ => False) W w' := by
  have h3 : 3 < W.heap.size := World.block_lt_of_cell? W _ (hK 0 (by decide))
  have hwb : wb < W.heap.size := World.block_lt_of_cell? W _ (hw 0 (by decide))
  have hk0 := Sha.k0_lt
  obtain ⟨a, b, c, d, e, f, g, h⟩ := v
  have hargs : (wcells64 (Sha.V8.list ⟨a, b, c, d, e, f, g, h⟩)).toArray = #[.int .u64 (a : Int), .int .u64 (b : Int), .int .u64 (c : Int), .int .u64 (d : Int), .int .u64 (e : Int), .int .u64 (f : Int), .int .u64 (g : Int), .int .u64 (h : Int)] := rfl
  rw [hargs]
  have HV := Lib.hid hv
  have HK := Lib.hid hK
  have HW := Lib.hid hw
  clear hv hK hw hargs
  go_enter Tryd.func40, Tryd.ntmps40
  go_wp2_with fail
  refine wp_region_text mixed (by kernel_rfl) ?_
  go_wp2_with fail
  refine TQ.normal (by kernel_rfl) ?_
  go_wp2_with fail
  have hz8 : (Sha.rnds Sha.k0 wl ⟨a, b, c, d, e, f, g, h⟩ 0) = ⟨a, b, c, d, e, f, g, h⟩ := rfl
  go_loopw [5, 6, 7, 8, 9, 10, 11, 12, 13] (fun s5 s6 s7 s8 s9 s10 s11 s12 s13 wr => ∃ (t : Nat) (a2 b2 c2 d2 e2 f2 g2 h2 : Nat), t ≤ 64 ∧ s13 = .int .i64 t ∧ Sha.rnds Sha.k0 wl ⟨a, b, c, d, e, f, g, h⟩ t = ⟨a2, b2, c2, d2, e2, f2, g2, h2⟩ ∧
    s5 = .int .u64 a2 ∧ s6 = .int .u64 b2 ∧ s7 = .int .u64 c2 ∧ s8 = .int .u64 d2 ∧ s9 = .int .u64 e2 ∧ s10 = .int .u64 f2 ∧ s11 = .int .u64 g2 ∧ s12 = .int .u64 h2 ∧ Chg (fun _ => False) W wr ∧ Blk wr (W.heap.size + 1) 85 (wcells64 [0, 0, 0, 0, 0, 0, 0, 0]).toArray) (fun _ _ _ _ _ _ _ _ s13 _ => 64 - (intOf s13).toNat)
  case atStart => exact ⟨0, a, b, c, d, e, f, g, h, by omega, rfl, hz8, rfl, rfl, rfl, rfl, rfl, rfl, rfl, rfl, (((Chg.refl _ W).alloc _).alloc _).drew, by have := Blk.new (W.alloc (.cells #[.int .u64 (a : Int), .int .u64 (b : Int), .int .u64 (c : Int), .int .u64 (d : Int), .int .u64 (e : Int), .int .u64 (f : Int), .int .u64 (g : Int), .int .u64 (h : Int)] 85)) 85 (wcells64 [0, 0, 0, 0, 0, 0, 0, 0]).toArray; rw [World.size_alloc] at this; exact this.drew⟩
  case round =>
    obtain ⟨t, a2, b2, c2, d2, e2, f2, g2, h2, ht, rfl, hr, rfl, rfl, rfl, rfl, rfl, rfl, rfl, rfl, C, B⟩ := hrel
    have hrl := Sha.rnds_lt Sha.k0 wl HV.out t
    rw [hr] at hrl
    simp only [Sha.V8.list, List.mem_cons, List.not_mem_nil, or_false, forall_eq_or_imp, forall_eq] at hrl
    obtain ⟨ha2, hb2, hc2, hd2, he2, hf2, hg2, hh2⟩ := hrl
    by_cases hlt : t < 64
    · have ck : wr.cell? ⟨3, t, none⟩ = some (.int .u64 ((Sha.k0.getD t 0 : Nat) : Int)) := by rw [C.cell (p := ⟨3, t, none⟩) h3 id]; exact HK.out t hlt
      have cw : wr.cell? ⟨wb, t, none⟩ = some (.int .u64 ((wl.getD t 0 : Nat) : Int)) := by rw [C.cell (p := ⟨wb, t, none⟩) hwb id]; exact HW.out t hlt
      have hkl := Sha.getD_lt hk0 t
      have hwl2 := Sha.getD_lt hwl t
      have hnext : Sha.rnds Sha.k0 wl ⟨a, b, c, d, e, f, g, h⟩ (t + 1) = Sha.rnd ⟨a2, b2, c2, d2, e2, f2, g2, h2⟩ (Sha.k0.getD t 0) (wl.getD t 0) := by rw [← hr]; rfl
      generalize Sha.k0.getD t 0 = kt at *
      generalize wl.getD t 0 = wt at *
      have e1 := S1_bits64 e2 he2
      have e3 := ch_bits64 e2 f2 g2 he2 hf2 hg2
      have e4 := S0_bits64 a2 ha2
      have e5 := maj_bits64 a2 b2 c2 ha2 hb2 hc2
      have l1 := Sha.S1_lt he2
      have l3 := Sha.ch_lt (f := f2) (g := g2) he2
      have l4 := Sha.S0_lt ha2
      have l5 := Sha.maj_lt (a := a2) (b := b2) (c := c2) ha2 hb2
      have HNX := Lib.hid hnext
      have HC := Lib.hid C
      have HB := Lib.hid B
      clear hnext hr hk0 hwl C B hz8
      go_wp2_with fail
      refine wp_region_pin (fun _ => false) [21, 26] [3, 2, 3] (Same (fun _ => False) wr) mixed (by kernel_rfl) (fun _ _ h e => h.ext e) (Same.refl _ _).drew ?_
      simp only [wpSegs, List.take_succ_cons, List.take_zero, List.drop_succ_cons, List.drop_zero]
      go_wp2_with fail
      ((with_reducible refine (rturn_lit e2 6 6 rfl _ he2 (by decide) (by decide)).mono ?_); rintro e w' ⟨rfl, rfl⟩)
      go_wp2_with fail
      refine SegQ.normal ⟨fun z o h _ => h, ?_⟩
      go_wp2_with fail
      ((with_reducible refine (rturn_lit e2 11 11 rfl _ he2 (by decide) (by decide)).mono ?_); rintro e w' ⟨rfl, rfl⟩)
      go_wp2_with fail
      refine SegQ.normal ⟨fun z o h _ => h, ?_⟩
      go_wp2_with fail
      ((with_reducible refine (rturn_lit e2 25 25 rfl _ he2 (by decide) (by decide)).mono ?_); rintro e w' ⟨rfl, rfl⟩)
      go_wp2_with fail
      refine SegQ.normal ⟨fun z o h _ => h, ?_⟩
      go_wp2_with fail
      refine TQ.normal (by kernel_rfl) ⟨⟨PinAt.cell rfl rfl rfl ck id (fun X h => by go_simp), PinAt.cell rfl rfl rfl cw id (fun X h => by go_simp), trivial⟩, ?_⟩
      go_wp2_with fail
      ((with_reducible refine (rturn_lit a2 2 2 rfl _ ha2 (by decide) (by decide)).mono ?_); rintro e w' ⟨rfl, rfl⟩)
      go_wp2_with fail
      ((with_reducible refine (rturn_lit a2 13 13 rfl _ ha2 (by decide) (by decide)).mono ?_); rintro e w' ⟨rfl, rfl⟩)
      go_wp2_with fail
      ((with_reducible refine (rturn_lit a2 22 22 rfl _ ha2 (by decide) (by decide)).mono ?_); rintro e w' ⟨rfl, rfl⟩)
      go_wp2_with fail
      rw [mask32i _ (by omega) (by omega), mask32i _ (by omega) (by omega)]
      refine ⟨⟨t + 1, ((h2 + Sha.S1 e2 + Sha.ch e2 f2 g2 + kt + wt) % 4294967296 + (Sha.S0 a2 + Sha.maj a2 b2 c2) % 4294967296) % 4294967296, a2, b2, c2, (d2 + (h2 + Sha.S1 e2 + Sha.ch e2 f2 g2 + kt + wt) % 4294967296) % 4294967296, e2, f2, g2, by omega, by go_num, HNX.out, ?_, rfl, rfl, rfl, ?_, rfl, rfl, rfl, HC.out.drew, HB.out.drew⟩, by simp [intOf]; omega⟩
      · congr 1; omega
      · congr 1; omega
    · have ht64 : t = 64 := by omega
      have HT := Lib.hid ht64
      have hdec : decide ((t : Int) < 64) = false := by simp; omega
      clear ht64
      have hinf : (Tryd.prog.info? 85).map (·.size) = some 8 := by kernel_rfl
      have HI := Lib.hid hinf
      have HB := Lib.hid B
      have HR := Lib.hid hr
      clear hinf B hr
      go_wp2_with (first
        | ((with_reducible show wpList _ _ _ (⟨none, .store _ (.tmp 4) (.tmp 106), _, _, _, _⟩ :: _) _ _); refine wpl_store_row (cs' := (wcells64 [a2, b2, c2, d2, e2, f2, g2, h2]).toArray) rfl 85 (.tmp 4) (.tmp 106) rfl rfl rfl HB.out HI.out rfl (w64_one _) ?_; intro w9 B9 hc9)
        | fail)
      refine bodyPost_ret (results_cell_row rfl _ _ (W.heap.size + 1) 85 (wcells64 [a2, b2, c2, d2, e2, f2, g2, h2]).toArray (0, 0) _ rfl B9 Tryd.underlying85 rfl HI.out) rfl ⟨?_, C.trans hc9 (fun q hq e => by omega)⟩
      have := HR.out
      rw [HT.out] at this
      rw [this]; rfl
end Go.Proofs.YtafgeppdchnceaaDoor
