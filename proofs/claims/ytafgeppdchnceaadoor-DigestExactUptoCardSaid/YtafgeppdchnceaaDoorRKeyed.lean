import Derived.Test.YtafgeppdchnceaaDoorRSum
import Derived.Test.YtafgeppdchnceaaDoorRHex
set_option linter.unusedVariables false
namespace Go.Proofs.YtafgeppdchnceaaDoor
open Go Go.RowKit Go.Sat
set_option maxRecDepth 100000 in
set_option maxHeartbeats 4000000 in
theorem rkeyed_any (x y : Value) (key d : List UInt8) (W : World) (hL : RLaid W) (hk : Rd W x key) (hd : Rd W y d) (hkl : key.length ≤ 10000000) (hdl : d.length ≤ 9000000) :
    Calls Tryd.prog 21 #[x, y] W fun e w' => e = .returned (.agg (bcells (kdg key d)).toArray) ∧ Chg (fun _ => False) W w' := by
  have hs3 := hL.size
  have hdlt := hd.lt
  have hklt := hk.lt
  obtain ⟨da, dc, rfl, _⟩ := hd.form
  obtain ⟨ka, kc, rfl, _⟩ := hk.form
  have hsz1 : (Tryd.prog.info? 34).map (·.size) = some 32 := by kernel_rfl
  go_enter Tryd.func21, Tryd.ntmps21
  go_wp2_with (first
    | ((with_reducible show wpList _ _ _ (⟨some 4, _, _, _, _, _⟩ :: _) _ _); refine wpl_alloc_row rfl 34 rfl Tryd.zeroValue34 ?_; intro w1 B1 hc1 hs1; have HS1 := Lib.hid hs1; clear hs1)
    | fail)
  have B1' : Blk w1 W.heap.size 34 (bcells (List.replicate 32 0)).toArray := B1
  have RK1 := hk.kept hc1 (fun _ _ => id)
  ((with_reducible refine (copy_any _ key w1 RK1 (by omega)).mono ?_); rintro e w2 ⟨rfl, O2, C2, hz2⟩)
  have hgi1 : W.heap.size < w1.heap.size := B1.lt
  have B2 := B1'.kept C2 id
  have C2' : Chg (fun _ => False) W w2 := hc1.trans C2 (fun _ _ h => h)
  generalize w1.heap.size = g2 at *
  clear B1 B1' RK1 C2 hc1 HS1
  have hskl := shortKey_length key
  go_upto_if 15 with (fail)
  go_cut [5] (fun s5 wx => ∃ g c : Nat, s5 = .slice (some ⟨g, 0, none⟩) (shortKey key).length c ∧ Own wx 5 1 (.slice (some ⟨g, 0, none⟩) (shortKey key).length c) (shortKey key).length (bcells (shortKey key)) ∧ W.heap.size < g ∧ Blk wx W.heap.size 34 (bcells (List.replicate 32 0)).toArray ∧ Chg (fun _ => False) W wx)
  case first =>
    by_cases hlong : 64 < key.length
    · have hsk : shortKey key = dg key := by unfold shortKey; rw [if_pos hlong]
      have R2 := hk.kept C2' (fun _ _ => id)
      have L2 := hL.kept C2' id id
      have HSK := Lib.hid hsk
      clear hsk O2
      go_wp2_with fail
      ((with_reducible refine (rsum_any _ key w2 L2 R2 (by omega)).mono ?_); rintro e w3 ⟨rfl, C3⟩)
      have B3 := B2.kept C3 id
      have C3' : Chg (fun _ => False) W w3 := C2'.trans C3 (fun _ _ h => h)
      have hdl2 := dg_length key
      have HID := Lib.hid (show (Tryd.prog.info? 34).map (·.size) = some (bcells (dg key)).toArray.size by rw [List.size_toArray, bcells_length, hdl2]; kernel_rfl)
      have HSI := Lib.hid (show (bcells (dg key)).toArray.size = 32 by rw [List.size_toArray, bcells_length, hdl2])
      have HDL := Lib.hid hdl2
      have hb3 := B3.lt
      clear hdl2 L2 B2 C2' C3 R2
      go_wp2_with (first
        | ((with_reducible show wpList _ _ _ (⟨some 6, _, _, _, _, _⟩ :: _) _ _); refine wpl_alloc_row rfl 34 rfl Tryd.zeroValue34 ?_; intro w4 B4 hc4 hs4; have HS4 := Lib.hid hs4; clear hs4)
        | ((with_reducible show wpList _ _ _ (⟨none, .store _ (.tmp 6) (.tmp 17), _, _, _, _⟩ :: _) _ _); refine wpl_store_row rfl 34 (.tmp 6) (.tmp 17) rfl rfl rfl B4 HID.out (by rw [HSI.out]; rfl) (arr_one _) ?_; intro w5 B5 hc5)
        | fail)
      have C45 : Chg (fun q => q = w3.heap.size) w3 w5 := (hc4.mono fun _ _ h => h.elim).trans hc5 (fun _ _ h => h)
      have R5 : Rd w5 (.slice (some ⟨w3.heap.size, 0, none⟩) 32 32) (dg key) := by have := B5.rd (by rw [HDL.out]; unfold maxLen; omega); rwa [HDL.out] at this
      have B5x := B3.kept C45 (by omega)
      have C5' : Chg (fun _ => False) W w5 := C3'.trans C45 (fun q hq e => by omega)
      clear B4 hc4 hc5 B5 C45 B3 C3' HS4
      generalize w3.heap.size = g5 at *
      ((with_reducible refine (copy_any _ (dg key) w5 R5 (by rw [HDL.out]; decide)).mono ?_); rintro e w6 ⟨rfl, O6, C6, hz6⟩)
      have B6 := B5x.kept C6 id
      have C6' : Chg (fun _ => False) W w6 := C5'.trans C6 (fun _ _ h => h)
      have hb5 := B5x.lt
      have HO6 := Lib.hid O6
      clear B5x C5' C6 R5 O6
      generalize w5.heap.size = g6 at *
      go_wp2_with fail
      go_meet
      case rel => exact ⟨g6, (dg key).length, by rw [HSK.out], by rw [HSK.out]; exact HO6.out, by omega, B6, C6'⟩
    · have hq : decide (64 < (key.length : Int)) = false := by simp; omega
      have hsk : shortKey key = key := by unfold shortKey; rw [if_neg hlong]
      have HSK := Lib.hid hsk
      clear hsk
      go_wp2_with fail
      go_meet
      case rel => exact ⟨g2, key.length, by rw [HSK.out], by rw [HSK.out]; exact O2, by omega, B2, C2'⟩
  case rest =>
    obtain ⟨g, c, rfl, O, hg, B, C⟩ := hcut
    have hps := padKey_short key
    have hks := kdg_short key d
    generalize shortKey key = sk at *
    have HPS := Lib.hid hps
    have HKS := Lib.hid hks
    clear hps hks B2 C2' O2
    go_wp2_with fail
    go_loopw [5] (fun s5 wr => ∃ m : Nat, sk.length ≤ m ∧ m ≤ 64 ∧ Own wr 5 1 s5 m (bcells (sk ++ List.replicate (m - sk.length) 0)) ∧ (∀ q, s5.ownBlock = some q → W.heap.size < q) ∧ Blk wr W.heap.size 34 (bcells (List.replicate 32 0)).toArray ∧ Chg (fun _ => False) W wr ∧ W.heap.size ≤ wr.heap.size) (fun s5 _ => 64 - (match s5 with | .slice _ n _ => n | _ => 0))
    case atStart => exact ⟨sk.length, Nat.le_refl _, hskl, by simpa using O, fun q hq => by simp [Value.ownBlock] at hq; omega, B, C, C.size⟩
    case round =>
      clear O B C hg
      obtain ⟨m, hm1, hm2, O, so, B, C, hsz⟩ := hrel
      obtain ⟨ma, mc, rfl, hmc⟩ := O.form
      by_cases hlt : m < 64
      · have hq : decide ((m : Int) < 64) = true := by simp; omega
        have hrep : bcells (sk ++ List.replicate (m + 1 - sk.length) 0) = bcells (sk ++ List.replicate (m - sk.length) 0) ++ [.int .u8 0] := by
          rw [show m + 1 - sk.length = (m - sk.length) + 1 from by omega, List.replicate_succ']
          simp [bcells]
        have HREP := Lib.hid hrep
        clear hrep
        go_wp2_with ((with_reducible show wpList _ _ _ (⟨some 25, _, _, _, _, _⟩ :: _) _ _); refine wpl_append (o := ⟨some 25, _, _, _, _, _⟩) rfl (.tmp 23) (.tmp 24) 22 rfl tyBytes (O.alloc _) (Sl.built1 wr (.int .u8 0) _ rfl) rfl rfl (by unfold maxLen; omega) (by omega) ?_; intro na nc w6 O6 hgr6 hblk6)
        have C6 : Chg (fun q => (Value.slice ma m mc).ownBlock = some q) wr w6 := ((Chg.refl _ wr).alloc _).grown hgr6 (fun q hq => .inr hq)
        go_roundw
        case rel =>
          refine ⟨m + 1, by omega, by omega, by rw [HREP.out]; exact O6, fun q hq => ?_, B.kept C6 (fun e => by have := so _ e; omega), C.trans C6 (fun q hq e => by have := so q e; omega), by have := C6.size; omega⟩
          rcases hblk6 with e | e
          · rw [e] at hq; exact so q hq
          · rw [e] at hq; simp at hq; omega
        case measure => show 64 - (m + 1) < 64 - m; omega
      · have hm : m = 64 := by omega
        subst hm
        have hpk := padKey_eq hskl
        rw [HPS.out] at hpk
        have hpl := padKey_length key
        rw [← hpk] at O
        have hkdg : kdg key d = dg (xorB 92 (padKey key) ++ dg (xorB 54 (padKey key) ++ d)) := rfl
        generalize padKey key = pk at *
        have HK := Lib.hid hkdg
        have HPL := Lib.hid hpl
        have RP : Rd wr (.slice ma 64 mc) pk := Own.rd (e := 5) (O.cast hpl.symm rfl)
        obtain ⟨pg, rfl, hpg⟩ := O.addr (by decide)
        clear hpk hkdg O HPS HKS
        go_wp2_with fail
        obtain ⟨wq, rfl⟩ : ∃ wq : World, wq = wr := ⟨_, rfl⟩
        go_loopw [7, 8, 9] (fun s7 s8 s9 wr => ∃ n : Nat, n ≤ 64 ∧ s9 = .int .i64 n ∧ Own wr 5 1 s7 n (bcells (xorB 54 (pk.take n))) ∧ Own wr 5 1 s8 n (bcells (xorB 92 (pk.take n))) ∧ (∀ q, s7.ownBlock = some q → wq.heap.size ≤ q) ∧ (∀ q, s8.ownBlock = some q → wq.heap.size ≤ q ∧ s7.ownBlock ≠ some q) ∧ Chg (fun _ => False) wq wr) (fun _ _ s9 _ => 64 - (intOf s9).toNat)
        case atStart => exact ⟨0, by omega, rfl, World.ownsRow_nil _ 0 _ 1, World.ownsRow_nil _ 0 _ 1, fun q hq => by simp [Value.ownBlock] at hq, fun q hq => by simp [Value.ownBlock] at hq, Chg.refl _ _⟩
        case round =>
          obtain ⟨n, hn, rfl, OI, OO, si, so2, C2⟩ := hrel
          obtain ⟨ia, ic, rfl, hic⟩ := OI.form
          obtain ⟨oa, oc, rfl, hoc⟩ := OO.form
          by_cases hlt : n < 64
          · have hnp : n < pk.length := by omega
            obtain ⟨p, hp⟩ : ∃ p, p = pk[n] := ⟨_, rfl⟩
            have t54 : xorB 54 (pk.take (n + 1)) = xorB 54 (pk.take n) ++ [p ^^^ 54] := by rw [List.take_succ_eq_append_getElem hnp, hp]; unfold xorB; rw [List.map_append]; rfl
            have t92 : xorB 92 (pk.take (n + 1)) = xorB 92 (pk.take n) ++ [p ^^^ 92] := by rw [List.take_succ_eq_append_getElem hnp, hp]; unfold xorB; rw [List.map_append]; rfl
            have e54 : bits BinOp.xor IntKind.u8 (p.toNat : Int) 54 = ((p ^^^ 54).toNat : Int) := xor_u8 p 54
            have e92 : bits BinOp.xor IntKind.u8 (p.toNat : Int) 92 = ((p ^^^ 92).toNat : Int) := xor_u8 p 92
            have RK := RP.kept C2 (fun _ _ => id)
            have ck : wr.cell? ⟨pg, n, none⟩ = some (.int .u8 (p.toNat : Int)) := by have := RK.cell hnp; rw [Nat.zero_add, ← hp] at this; exact this
            have T54 := Lib.hid t54
            have T92 := Lib.hid t92
            have E54 := Lib.hid e54
            have E92 := Lib.hid e92
            have hgl : pg < wr.heap.size := Nat.lt_of_lt_of_le hpg C2.size
            have hwcr := C2.size
            clear t54 t92 e54 e92 hp RK
            have ck' : (wr.alloc (.cells #[.int .u8 (bits BinOp.xor IntKind.u8 (p.toNat : Int) 54)] 5)).cell? ⟨pg, n, none⟩ = some (.int .u8 (p.toNat : Int)) := by rw [((Chg.refl (fun _ => False) wr).alloc _).cell (p := ⟨pg, n, none⟩) hgl id]; exact ck
            go_wp2_with (first
              | ((with_reducible show wpList _ _ _ (⟨some 37, _, _, _, _, _⟩ :: _) _ _); refine wpl_append (o := ⟨some 37, _, _, _, _, _⟩) rfl (.tmp 30) (.tmp 36) 22 rfl tyBytes (OI.alloc _) (Sl.built1 wr (.int .u8 (bits BinOp.xor IntKind.u8 (p.toNat : Int) 54)) _ rfl) rfl rfl (by unfold maxLen; omega) (by omega) ?_; intro na nc w6 O6 hgr6 hblk6; have C6 : Chg (fun q => (Value.slice ia n ic).ownBlock = some q) wr w6 := ((Chg.refl _ wr).alloc _).grown hgr6 (fun q hq => .inr hq); have OO6 := OO.kept C6 (fun q hq e => (so2 q hq).2 e); have ck6 : w6.cell? ⟨pg, n, none⟩ = some (.int .u8 (p.toNat : Int)) := by { rw [C6.cell (p := ⟨pg, n, none⟩) hgl (fun e => by have h : wq.heap.size ≤ pg := si pg e; omega)]; exact ck })
              | ((with_reducible show wpList _ _ _ (⟨some 45, _, _, _, _, _⟩ :: _) _ _); refine wpl_append (o := ⟨some 45, _, _, _, _, _⟩) rfl (.tmp 38) (.tmp 44) 22 rfl tyBytes (OO6.alloc _) (Sl.built1 w6 (.int .u8 (bits BinOp.xor IntKind.u8 (p.toNat : Int) 92)) _ rfl) rfl rfl (by unfold maxLen; omega) (by omega) ?_; intro ma mc w9 O9 hgr9 hblk9; have C9 : Chg (fun q => (Value.slice oa n oc).ownBlock = some q) w6 w9 := ((Chg.refl _ w6).alloc _).grown hgr9 (fun q hq => .inr hq))
              | fail)
            rw [E54.out] at O6
            rw [E92.out] at O9
            have C6n := C6.size
            have hnb6 : ∀ q, (Value.slice na (n + 1) nc).ownBlock = some q → (Value.slice ia n ic).ownBlock = some q ∨ wr.heap.size < q := fun q hq => by
              rcases hblk6 with e | e
              · rw [e] at hq; exact .inl hq
              · rw [e] at hq; simp at hq; exact .inr (by omega)
            have hnb9 : ∀ q, (Value.slice ma (n + 1) mc).ownBlock = some q → (Value.slice oa n oc).ownBlock = some q ∨ w6.heap.size < q := fun q hq => by
              rcases hblk9 with e | e
              · rw [e] at hq; exact .inl hq
              · rw [e] at hq; simp at hq; exact .inr (by omega)
            have hol6 := O6.lt
            have hoo := OO.lt
            have hne : ∀ q, (Value.slice ma (n + 1) mc).ownBlock = some q → (Value.slice na (n + 1) nc).ownBlock ≠ some q := fun q hq e => by
              rcases hnb9 q hq with h | h
              · rcases hnb6 q e with h2 | h2
                · exact (so2 q h).2 h2
                · have := hoo q h; omega
              · have := hol6 q e; omega
            have RES := Lib.hid (⟨n + 1, by omega, by go_num, (O6.kept C9 (fun q hq e => by
                rcases hnb6 q hq with h2 | h2
                · exact (so2 q e).2 h2
                · have := hoo q e; omega)).cast rfl (by rw [T54.out]; simp [bcells]), O9.cast rfl (by rw [T92.out]; simp [bcells]), fun q hq => by
                rcases hnb6 q hq with h2 | h2
                · exact si q h2
                · omega, fun q hq => ⟨by
                rcases hnb9 q hq with h2 | h2
                · exact (so2 q h2).1
                · omega, hne q hq⟩, (C2.trans C6 (fun q hq e => by have := si q e; omega)).trans C9 (fun q hq e => by have := (so2 q e).1; omega)⟩ : ∃ m : Nat, m ≤ 64 ∧ (Value.int .i64 ((n : Int) + 1)) = .int .i64 m ∧ Own w9 5 1 (.slice na (n + 1) nc) m (bcells (xorB 54 (pk.take m))) ∧ Own w9 5 1 (.slice ma (n + 1) mc) m (bcells (xorB 92 (pk.take m))) ∧ (∀ q, (Value.slice na (n + 1) nc).ownBlock = some q → wq.heap.size ≤ q) ∧ (∀ q, (Value.slice ma (n + 1) mc).ownBlock = some q → wq.heap.size ≤ q ∧ (Value.slice na (n + 1) nc).ownBlock ≠ some q) ∧ Chg (fun _ => False) wq w9)
            clear O6 O9 hnb6 hnb9 hne hol6 hoo C6 C9 OO6 hgr6 hblk6 hgr9 hblk9
            go_wp2_with fail
            go_roundw
            case rel => exact RES.out
            case measure => simp [intOf]; omega
          · have hn64 : n = 64 := by omega
            subst hn64
            rw [List.take_of_length_le (by omega)] at OI OO
            have l54 : (xorB 54 pk).length = 64 := by simp [xorB, hpl]
            have l92 : (xorB 92 pk).length = 64 := by simp [xorB, hpl]
            generalize xorB 54 pk = p1 at *
            generalize xorB 92 pk = p2 at *
            have L54 := Lib.hid l54
            have L92 := Lib.hid l92
            have CW : Chg (fun _ => False) W wr := C.trans C2 (fun _ _ h => h)
            have BW := B.kept C2 id
            have RD := hd.kept CW (fun _ _ => id)
            have hbl := B.lt
            have hwr := C2.size
            have hsiW : ∀ q, (Value.slice ia 64 ic).ownBlock = some q → W.heap.size < q := fun q e => by have := si q e; omega
            have hsoW : ∀ q, (Value.slice oa 64 oc).ownBlock = some q → W.heap.size < q := fun q e => by have := (so2 q e).1; omega
            have hsep : ∀ q, (Value.slice oa 64 oc).ownBlock = some q → (Value.slice ia 64 ic).ownBlock ≠ some q := fun q e => (so2 q e).2
            clear l54 l92 hpl RP so2 si C2 hpg B C
            go_wp2_with ((with_reducible show wpList _ _ _ (⟨some 48, _, _, _, _, _⟩ :: _) _ _); refine wpl_append (o := ⟨some 48, _, _, _, _, _⟩) rfl (.tmp 46) (.tmp 47) 22 rfl tyBytes (OI) (RD) rfl rfl (by unfold maxLen; omega) (by omega) ?_; intro na nc w6 O6 hgr6 hblk6)
            have C6 : Chg (fun q => (Value.slice ia 64 ic).ownBlock = some q) wr w6 := (Chg.refl _ wr).grown hgr6 (fun q hq => .inr hq)
            have OO6 := OO.kept C6 (fun q hq e => hsep q hq e)
            have CW6 : Chg (fun _ => False) W w6 := CW.trans C6 (fun q hq e => by have := hsiW q e; omega)
            have BW6 := BW.kept C6 (fun e => by have := hsiW _ e; omega)
            have hpl : (p1 ++ d).length = 64 + d.length := by rw [List.length_append, L54.out]
            have RA : Rd w6 (.slice na (64 + d.length) nc) (p1 ++ d) := Own.rd (e := 5) (show Own w6 5 1 (.slice na (64 + d.length) nc) (p1 ++ d).length (bcells (p1 ++ d)) from O6.cast hpl.symm (bcells_append _ _).symm)
            have HPL := Lib.hid hpl
            have hoo := OO.lt
            have hw6 := C6.size
            clear OI OO O6 hgr6 hblk6 RD BW CW C6 hpl
            ((with_reducible refine (rsum_any _ (p1 ++ d) w6 (hL.kept CW6 id id) RA (by rw [HPL.out]; omega)).mono ?_); rintro e w7 ⟨rfl, C7⟩)
            have hdl2 := dg_length (p1 ++ d)
            generalize dg (p1 ++ d) = di at *
            have HID := Lib.hid (show (Tryd.prog.info? 34).map (·.size) = some (bcells di).toArray.size by rw [List.size_toArray, bcells_length, hdl2]; kernel_rfl)
            have HSI := Lib.hid (show (bcells di).toArray.size = 32 by rw [List.size_toArray, bcells_length, hdl2])
            have HDL := Lib.hid hdl2
            clear hdl2 RA HPL
            go_wp2_with (first
              | ((with_reducible show wpList _ _ _ (⟨some 10, _, _, _, _, _⟩ :: _) _ _); refine wpl_alloc_row rfl 34 rfl Tryd.zeroValue34 ?_; intro w8 B8 hc8 hs8; have HS8 := Lib.hid hs8; clear hs8)
              | ((with_reducible show wpList _ _ _ (⟨none, .store _ (.tmp 10) (.tmp 50), _, _, _, _⟩ :: _) _ _); refine wpl_store_row rfl 34 (.tmp 10) (.tmp 50) rfl rfl rfl B8 HID.out (by rw [HSI.out]; rfl) (arr_one _) ?_; intro w9 B9 hc9)
              | ((with_reducible show wpList _ _ _ (⟨some 52, _, _, _, _, _⟩ :: _) _ _); refine Shut.out ?_)
              | fail)
            have hz7 := C7.size
            have C89 : Chg (fun q => q = w7.heap.size) w7 w9 := (hc8.mono fun _ _ h => h.elim).trans hc9 (fun _ _ h => h)
            have C79 : Chg (fun q => q = w7.heap.size) w6 w9 := (C7.mono fun _ _ h => h.elim).trans C89 (fun _ _ h => h)
            have OO9 := OO6.kept C79 (fun q hq e => by have := hoo q hq; omega)
            have R9 : Rd w9 (.slice (some ⟨w7.heap.size, 0, none⟩) 32 32) di := by have := B9.rd (by rw [HDL.out]; unfold maxLen; omega); rwa [HDL.out] at this
            have hb6 := BW6.lt
            have BW9 := BW6.kept C79 (by omega)
            have CW9 : Chg (fun _ => False) W w9 := CW6.trans C79 (fun q hq e => by have := CW6.size; omega)
            have hg9 : w7.heap.size < w9.heap.size := R9.lt _ (by simp [rdb])
            clear B8 hc8 hc9 B9 C89 C79 OO6 BW6 CW6 C7 HS8
            generalize w7.heap.size = g9 at *
            have hdle : di.length ≤ 32 := by rw [HDL.out]; decide
            show wpList _ _ _ _ _ _
            go_wp2_with (first
              | ((with_reducible show wpList _ _ _ (⟨some 53, _, _, _, _, _⟩ :: _) _ _); refine wpl_append (o := ⟨some 53, _, _, _, _, _⟩) rfl (.tmp 51) (.tmp 52) 22 rfl tyBytes (OO9) (R9) rfl rfl (by unfold maxLen; omega) (by omega) ?_; intro ma mc x1 P1 hgr1 hblk1)
              | fail)
            have D1 : Chg (fun q => (Value.slice oa 64 oc).ownBlock = some q) w9 x1 := (Chg.refl (fun q => (Value.slice oa 64 oc).ownBlock = some q) w9).grown hgr1 (fun q hq => .inr hq)
            have hpl2 : (p2 ++ di).length = 64 + di.length := by rw [List.length_append, L92.out]
            have RA : Rd x1 (.slice ma (64 + di.length) mc) (p2 ++ di) := Own.rd (e := 5) (show Own x1 5 1 (.slice ma (64 + di.length) mc) (p2 ++ di).length (bcells (p2 ++ di)) from (P1.cast (by rw [hpl2]) (bcells_append _ _).symm))
            have CW1 : Chg (fun _ => False) W x1 := CW9.trans D1 (fun q hq e => by have := hsoW q e; omega)
            have BX1 := BW9.kept D1 (fun e => by have := hsoW _ e; omega)
            have HPL2 := Lib.hid hpl2
            clear hpl2 P1 hgr1 hblk1 D1 OO9 R9 hdle BW9 CW9
            ((with_reducible refine (rsum_any _ (p2 ++ di) x1 (hL.kept CW1 id id) RA (by rw [HPL2.out, HDL.out]; decide)).mono ?_); rintro e x2 ⟨rfl, D2⟩)
            have CW2 : Chg (fun _ => False) W x2 := CW1.trans D2 (fun _ _ h => h)
            have BX2 := BX1.kept D2 id
            have hdl3 := dg_length (p2 ++ di)
            generalize dg (p2 ++ di) = do_ at *
            have HID2 := Lib.hid (show (Tryd.prog.info? 34).map (·.size) = some (bcells do_).toArray.size by rw [List.size_toArray, bcells_length, hdl3]; kernel_rfl)
            have HSI2 := Lib.hid (show (bcells do_).toArray.size = 32 by rw [List.size_toArray, bcells_length, hdl3])
            have HBX := Lib.hid BX2
            clear hdl3 RA D2 BX1 BX2
            go_wp2_with (first
              | ((with_reducible show wpList _ _ _ (⟨none, .store _ (.tmp 4) (.tmp 55), _, _, _, _⟩ :: _) _ _); refine wpl_store_row rfl 34 (.tmp 4) (.tmp 55) rfl rfl rfl HBX.out HID2.out (by rw [HSI2.out]; rfl) (arr_one _) ?_; intro x3 B3 hc3)
              | fail)
            refine bodyPost_ret (results_cell_row rfl _ _ W.heap.size 34 (bcells do_).toArray (0, 0) _ rfl B3 Tryd.underlying34 rfl HID2.out) rfl ⟨by rw [HK.out], CW2.trans hc3 (fun q hq h => by have h' : q = W.heap.size := h; omega)⟩
end Go.Proofs.YtafgeppdchnceaaDoor
