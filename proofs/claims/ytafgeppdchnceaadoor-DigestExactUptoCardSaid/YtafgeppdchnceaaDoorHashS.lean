import Derived.Test.YtafgeppdchnceaaDoorHashWr
set_option linter.unusedVariables false
namespace Go.Sat
open Go Go.RowKit
/-- A struct or an array is loaded whole. -/
theorem wpl_load_agg {P : Program} {ops : Array Oper} {rest : List Oper} {o : Oper} {a : Act} {Q : Exit → Act → World → Prop} {w : World} (hw : Region.wanted o (yielded ops a.tmps) = true) (ty : TypeId) (x : Operand)
    (ho : o.op = .load ty x) {g : Nat} (hx : a.eval x = .pointer (some ⟨g, 0, none⟩)) {T : TypeId} {cs : Array Value} (hb : Blk w g T cs) {d : TypeDesc} (hu : P.underlying ty = some d) (hd : (match d with | .struct _ | .array _ _ => true | _ => false) = true)
    (hi : (P.info? ty).map (·.size) = some cs.size) (h : wpList P ops Q rest (a.put o.dst (.agg cs)) w) : wpList P ops Q (o :: rest) a w := by
  refine BigFrame.wpList_want hw fun K hK => ?_
  unfold Oper.wp execOp
  simp only [ho, hx, Instr.loadAt, Instr.sureAddr, Sem.run_bind, Sem.run_pure, Result.andThen_ok, run_loadVar_row w g T ty cs (0, 0) _ hb hu hd hi]
  exact hK _ _ h
/-- MAKE with more room than is used. -/
theorem wpl_make2 {P : Program} {ops : Array Oper} {rest : List Oper} {o : Oper} {a : Act} {Q : Exit → Act → World → Prop} {w : World} (hw : Region.wanted o (yielded ops a.tmps) = true) (l c : Operand) (t : TypeId)
    (ho : o.op = .makeSlice t l c) {e : TypeId} {bytes : Nat} {z : Value} (hty : SliceTy P t e 1 bytes z) (hz1 : z.cells = #[z]) (n m : Nat) (hl : a.eval l = .int .i64 (n : Int)) (hc : a.eval c = .int .i64 (m : Int))
    (hnm : n ≤ m) (hn : m ≤ maxLen) (hb : bytes * m ≤ 281474976710656)
    (h : ∀ w', Own w' e 1 (.slice (some ⟨w.heap.size, 0, none⟩) n m) n (List.replicate n z) → Chg (fun _ => False) w w' → w'.heap.size = w.heap.size + 1 → wpList P ops Q rest (a.put o.dst (.slice (some ⟨w.heap.size, 0, none⟩) n m)) w') : wpList P ops Q (o :: rest) a w := by
  obtain ⟨hu, ⟨i, hi, hz, hsz, hby⟩, hzs, hpos⟩ := hty
  have h63 : (m : Int) ≤ 9223372036854775807 := by simp [maxLen] at hn; omega
  have hbb : (i.bytes : Int) * (m : Int) ≤ 281474976710656 := by
    have h : ((i.bytes * m : Nat) : Int) ≤ 281474976710656 := by rw [hby]; omega
    rwa [Int.natCast_mul] at h
  have hr := run_make (P := P) w t e i z hu hi hz .i64 .i64 n m (by omega) (by omega) hbb h63
  simp only [Int.toNat_natCast] at hr
  refine BigFrame.wpList_want hw fun K hK => ?_
  unfold Oper.wp execOp
  have hk := hK _ _ (h (w.alloc (.cells (madeCells z.cells (m * i.size)) e)) ⟨by simp, .inr ⟨w.heap.size, m, _, rfl, Nat.zero_le _, heap_alloc_new w _, hnm, hn, by rw [hsz, hz1]; simp [madeCells], by rw [hsz, hz1, Nat.mul_one, Nat.mul_one, madeCells_one]; simp [List.take_replicate, Nat.min_eq_left hnm]⟩⟩ ((Chg.refl _ w).alloc _) (by simp))
  simpa [ho, hl, hc, hr, Oper.upon] using hk
theorem byte_of (x : Nat) : (x : Int) % 256 = ((UInt8.ofNat x).toNat : Int) := by simp
end Go.Sat
namespace Go.Proofs.YtafgeppdchnceaaDoor
open Go Go.RowKit Go.Sat
theorem infoU8 : (Tryd.prog.info? 5).map (fun i => (i.zero, i.size, i.bytes)) = some (some (.int .u8 0), 1, 1) := by kernel_rfl
theorem tyBytes : SliceTy Tryd.prog 22 5 1 1 (.int .u8 0) := by
  obtain ⟨i0, hi0, hz0, hz1, hz2⟩ := info_parts infoU8
  exact ⟨Tryd.underlying22, ⟨i0, hi0, hz0, hz1, hz2⟩, rfl, by decide⟩
def zeroV : Sha.V8 := ⟨0, 0, 0, 0, 0, 0, 0, 0⟩
theorem zeroHash : ∀ w, (zeroValue 80).run Tryd.prog w = .ok (.agg (hcells zeroV (List.replicate 64 0) 0 0).toArray) w := fun w => by kernel_rfl
theorem hsize (v : Sha.V8) (tail : List UInt8) (h a : Int) (ht : tail.length = 64) : (hcells v tail h a).toArray.size = 74 := by
  simp [hcells, wcells, Sha.V8.list, ht]
theorem hashInfo : (Tryd.prog.info? 80).map (·.size) = some 74 := by kernel_rfl
theorem hone (v : Sha.V8) (tail : List UInt8) (h a : Int) : (hcells v tail h a).toArray.all (·.oneCell') = true := Array.all_eq_true_iff_forall_mem.2 fun u hu => by
  simp only [hcells, wcells, List.mem_toArray, List.mem_append, List.mem_cons, List.not_mem_nil, or_false, List.mem_map] at hu
  rcases hu with ⟨_, _, rfl⟩ | hu | rfl | rfl
  · rfl
  · exact bcells_one _ u hu
  · rfl
  · rfl
theorem index_words {w : World} {l : List Nat} (hl : l.length = 8) {i : Nat} (hi : i < l.length) : (Instr.index 76 (.agg (wcells l).toArray) (.int .i64 i)).run Tryd.prog w = .ok (.int .u32 ((l[i] : Nat) : Int)) w := by
  have h1 : i < 8 := by omega
  have h2 : (wcells l)[i]? = some (.int .u32 ((l[i] : Nat) : Int)) := by simp [wcells, hi]
  have h3 : (part 75 (wcells l).toArray (i * 1)).run Tryd.prog w = .ok (.int .u32 ((l[i] : Nat) : Int)) w := by
    simp [part, isAgg, run_underlying Tryd.underlying75, h2]
  simp [Instr.index, run_underlying Tryd.underlying76, asIntOf, Tryd.sizeOf75, h1]
  simpa using h3
/-- The tail of the padding, the digest's bytes so far. -/
def lenB (n k : Nat) : List UInt8 := (List.range k).map fun j => UInt8.ofNat (n / 256 ^ (7 - j))
def wordB (w k : Nat) : List UInt8 := (List.range k).map fun j => UInt8.ofNat (w / 256 ^ (3 - j))
def outB (l : List Nat) : List UInt8 := (l.map fun w => wordB w 4).flatten
theorem lenB_succ (n k : Nat) : lenB n (k + 1) = lenB n k ++ [UInt8.ofNat (n / 256 ^ (7 - k))] := by simp [lenB, List.range_succ]
theorem wordB_succ (n k : Nat) : wordB n (k + 1) = wordB n k ++ [UInt8.ofNat (n / 256 ^ (3 - k))] := by simp [wordB, List.range_succ]
@[simp] theorem lenB_length (n k : Nat) : (lenB n k).length = k := by simp [lenB]
@[simp] theorem wordB_length (n k : Nat) : (wordB n k).length = k := by simp [wordB]
theorem outB_length (l : List Nat) : (outB l).length = 4 * l.length := by
  induction l with
  | nil => rfl
  | cons a l ih => simp only [outB, List.map_cons, List.flatten_cons, List.length_append, wordB_length, List.length_cons] at ih ⊢; omega
theorem outB_snoc (l : List Nat) (x : Nat) : outB (l ++ [x]) = outB l ++ wordB x 4 := by simp [outB]
theorem pad_eq (d : List UInt8) : Sha.pad d = [128] ++ List.replicate ((119 - d.length % 64) % 64) 0 ++ lenB (8 * d.length % 18446744073709551616) 8 := rfl
theorem out_eq (v : Sha.V8) : Sha.out v = outB v.list := rfl
set_option maxRecDepth 100000 in
set_option maxHeartbeats 1600000 in
theorem hsum_any (K : List Nat) (v0 : Sha.V8) (pb : Nat) (d : List UInt8) (w : World) (hI : IsH w K v0 pb d) (hR : Rounds w K) (h2 : 2 < pb) (hv0 : ∀ x ∈ v0.list, x < 4294967296) (hd : d.length ≤ 4000000000000000000) :
    Calls Tryd.prog 15 #[.pointer (some ⟨pb, 0, none⟩)] w fun e w' => e = .returned (arrV (Sha.sha K v0 d)) ∧ Chg (fun _ => False) w w' := by
  obtain ⟨tail, ht, htr, B⟩ := hI
  have hpl := B.lt
  have hh : d.length % 64 < 64 := Nat.mod_lt _ (by decide)
  generalize hhv : d.length % 64 = h at *
  have hall : d.length % 18446744073709551616 = d.length := Nat.mod_eq_of_lt (by omega)
  rw [hall] at B
  clear hall
  have HHV := Lib.hid hhv
  have HTR := Lib.hid htr
  have HB := Lib.hid B
  clear hhv htr B
  go_enter Tryd.func15, Tryd.ntmps15
  go_wp2_with (first
    | ((with_reducible show wpList _ _ _ (⟨some 2, _, _, _, _, _⟩ :: _) _ _); refine wpl_alloc_row rfl 34 rfl Tryd.zeroValue34 ?_; intro w1 B1 hc1 hs1; have HS1 := Lib.hid hs1; clear hs1)
    | ((with_reducible show wpList _ _ _ (⟨some 13, _, _, _, _, _⟩ :: _) _ _); refine wpl_load_agg rfl 80 (.tmp 12) rfl rfl (HB.out.kept hc1 id) Tryd.underlying80 rfl (hashInfo.trans (by rw [hsize _ _ _ _ ht])) ?_)
    | ((with_reducible show wpList _ _ _ (⟨some 3, _, _, _, _, _⟩ :: _) _ _); refine wpl_alloc_row rfl 80 rfl zeroHash ?_; intro w2 B2 hc2 hs2; have HS2 := Lib.hid hs2; clear hs2)
    | ((with_reducible show wpList _ _ _ (⟨none, .store _ (.tmp 3) (.tmp 13), _, _, _, _⟩ :: _) _ _); refine wpl_store_row rfl 80 (.tmp 3) (.tmp 13) rfl rfl rfl B2 (hashInfo.trans (by rw [hsize _ _ _ _ ht])) (by rw [hsize _ _ _ _ ht, hsize _ _ _ _ (by simp)]) (hone _ _ _ _) ?_; intro w3 B3 hc3; have c73 : w3.cell? ⟨w1.heap.size, 73, none⟩ = some (.int .u64 ((d.length : Nat) : Int)) := (by rw [B3.cell, List.getElem?_toArray]; exact hcell_all _ _ _ _ ht))
    | ((with_reducible show wpList _ _ _ (⟨some 17, _, _, _, _, _⟩ :: _) _ _); refine wpl_make2 rfl (.const (.int .i64 1)) (.const (.int .i64 72)) 22 rfl tyBytes rfl 1 72 rfl rfl (by decide) (by unfold maxLen; omega) (by decide) ?_; intro w4 O4 hc4 hs4; have HS4 := Lib.hid hs4; obtain ⟨O5, f5, k5⟩ := O4.store (i := 0) (by omega) (.int .u8 128); clear hs4)
    | fail)
  have C4 : Chg (fun _ => False) w (w4.setCell ⟨w3.heap.size, 0, none⟩ (.int .u8 128)) := by
    have a1 := hc1.trans hc2 (fun _ _ h => h)
    have a2 := a1.trans hc3 (fun q hq h => by have := HS1.out; omega)
    have a3 := a2.trans hc4 (fun _ _ h => h)
    exact a3.setCell (.inl (by have := a2.size; show w.heap.size ≤ w3.heap.size; exact this)) _
  have B4 : Blk (w4.setCell ⟨w3.heap.size, 0, none⟩ (.int .u8 128)) w1.heap.size 80 (hcells (Sha.state K v0 d) tail (h : Nat) (d.length : Nat)).toArray := by
    refine B3.kept (S := fun q => q = w3.heap.size) ((hc4.mono fun _ _ h => h.elim).trans (setCell_chg _ _ _) (fun _ _ h => h)) ?_
    have := hc3.size; have := HS2.out; omega
  have C34 : Chg (fun q => q = w1.heap.size ∨ w3.heap.size ≤ q) w1 (w4.setCell ⟨w3.heap.size, 0, none⟩ (.int .u8 128)) := by
    have a1 := (hc2.mono (T := fun q => q = w1.heap.size ∨ w3.heap.size ≤ q) (fun _ _ h => h.elim)).trans hc3 (fun _ _ h => .inl h)
    have a2 := a1.trans hc4 (fun _ _ h => h.elim)
    exact a2.setCell (.inr (.inr (Nat.le_refl _))) _
  have B1' : Blk w1 w.heap.size 34 (bcells (List.replicate 32 0)).toArray := B1
  have B5 := B1'.kept C34 (by have := HS1.out; have := hc2.size; have := hc3.size; omega)
  have O6 : Own (w4.setCell ⟨w3.heap.size, 0, none⟩ (.int .u8 128)) 5 1 (.slice (some ⟨w3.heap.size, 0, none⟩) 1 72) (1 + 0) (bcells (128 :: List.replicate 0 0)) := O5
  have hgc : w1.heap.size < w3.heap.size := by have := HS2.out; have := hc3.size; omega
  have hgi : w.heap.size < w1.heap.size := by have := HS1.out; omega
  have hsz5 : w3.heap.size ≤ (w4.setCell ⟨w3.heap.size, 0, none⟩ (.int .u8 128)).heap.size := by have := HS4.out; simp; omega
  have hbits : IntKind.u64.wrap (8 * (d.length : Int)) = ((8 * d.length % 18446744073709551616 : Nat) : Int) := by
    simp only [IntKind.wrap, IntKind.signed, IntKind.bits]; simp
  rw [hbits]
  have hbl : 8 * d.length % 18446744073709551616 < 18446744073709551616 := Nat.mod_lt _ (by decide)
  generalize hbv : 8 * d.length % 18446744073709551616 = bits at *
  have HBV := Lib.hid hbv
  clear hbits hbv B1 B1' C34 O5 c73 k5 f5 O4 B3 hc1 hc2 hc3 B2 HS1 HS2
  generalize w4.setCell ⟨w3.heap.size, 0, none⟩ (.int .u8 128) = w5 at *
  clear hc4 HS4 w4
  generalize w3.heap.size = ge at *
  generalize w1.heap.size = gc at *
  clear w3 w2 w1
  generalize hgie : w.heap.size = gi at *
  have HGI := Lib.hid hgie
  clear hgie
  obtain ⟨z, HZ⟩ : ∃ z, z = (119 - h) % 64 := ⟨_, rfl⟩
  have hz64 : z < 64 := by omega
  have hzm : (h + (1 + z)) % 64 = 56 := by omega
  have hzn : ∀ k, k < z → (h + (1 + k)) % 64 ≠ 56 := fun k hk => by omega
  have HZM := Lib.hid hzm
  have HZN := Lib.hid hzn
  have HZ' := Lib.hid HZ
  clear hzm hzn HZ
  go_loopw [5] (fun y wr => ∃ k : Nat, k ≤ z ∧ Own wr 5 1 y (1 + k) (bcells (128 :: List.replicate k 0)) ∧ (∀ q, y.ownBlock = some q → ge ≤ q) ∧ Chg (fun q => ge ≤ q) w5 wr) (fun y _ => match y with | .slice _ n _ => 1 + z - n | _ => 0)
  case atStart => exact ⟨0, Nat.zero_le _, O6, fun q hq => Nat.le_of_eq (Option.some.inj hq), Chg.refl _ _⟩
  case round =>
    obtain ⟨k, hk, O, hyq, C⟩ := hrel
    obtain ⟨ya, yc, rfl, hyc⟩ := O.form
    have B := B4.kept C (by omega)
    have c72 : wr.cell? ⟨gc, 72, none⟩ = some (.int .i64 (h : Nat)) := by rw [B.cell, List.getElem?_toArray]; exact hcell_have _ _ _ _ ht
    by_cases hlt : k < z
    · have hq : (((h : Int) + (1 + (k : Int))) % 64 != 56) = true := by have := HZN.out k hlt; simp; omega
      go_wp2_with ((with_reducible show wpList _ _ _ (⟨some 29, _, _, _, _, _⟩ :: _) _ _); refine wpl_append (o := ⟨some 29, _, _, _, _, _⟩) rfl (.tmp 27) (.tmp 28) 22 rfl tyBytes (O.alloc _) (Sl.built1 wr (.int .u8 0) _ rfl) rfl rfl (by unfold maxLen; omega) (by omega) ?_; intro na nc w6 O6' hgr6 hblk6)
      go_roundw
      case rel =>
        refine ⟨k + 1, by omega, O6'.cast (by omega) (by rw [List.replicate_succ']; simp [bcells]), fun q hq => ?_, (C.alloc _).grown hgr6 (fun q hq => .inr (hyq q hq))⟩
        rcases hblk6 with e | e
        · rw [e] at hq; exact hyq q hq
        · rw [e] at hq; simp at hq; have := C.size; omega
      case measure => simp; omega
    · obtain rfl : k = z := by omega
      have hq : (((h : Int) + (1 + (k : Int))) % 64 != 56) = false := by have := HZM.out; simp; omega
      go_wp2_with fail
      have O7 : Own wr 5 1 (.slice ya (1 + k) yc) (1 + k + 0) (bcells (128 :: List.replicate k 0 ++ lenB bits 0)) := by simpa [lenB] using O
      clear O c72 B HZM HZN O6 hlt hk
      go_loopw [5, 6] (fun y i wr2 => ∃ j : Nat, j ≤ 8 ∧ i = .int .i64 (7 - (j : Int)) ∧ Own wr2 5 1 y (1 + k + j) (bcells (128 :: List.replicate k 0 ++ lenB bits j)) ∧ (∀ q, y.ownBlock = some q → ge ≤ q) ∧ Chg (fun q => ge ≤ q) w5 wr2) (fun _ i _ => (intOf i + 1).toNat)
      case atStart => exact ⟨0, by omega, rfl, O7, hyq, C⟩
      case round =>
        clear O7 hyq C hyc hq
        obtain ⟨j, hj, rfl, O, hyq, C⟩ := hrel
        obtain ⟨xa, xc, rfl, hyc⟩ := O.form
        by_cases hlt : j < 8
        · obtain ⟨m, hm⟩ : ∃ m : Nat, j + m = 7 := ⟨7 - j, by omega⟩
          have hmi : 7 - (j : Int) = (m : Int) := by omega
          rw [hmi]
          have hbyte : ((bits : Int) / 2 ^ (8 * m) % 256) = ((UInt8.ofNat (bits / 256 ^ (7 - j))).toNat : Int) := by
            rw [show 7 - j = m from by omega, ← byte_of, show (256 : Nat) ^ m = 2 ^ (8 * m) from by rw [Nat.pow_mul]]; simp
          have HBY := Lib.hid hbyte
          clear hbyte
          go_wp2_with ((with_reducible show wpList _ _ _ (⟨some 41, _, _, _, _, _⟩ :: _) _ _); refine wpl_append (o := ⟨some 41, _, _, _, _, _⟩) rfl (.tmp 34) (.tmp 40) 22 rfl tyBytes (O.alloc _) (Sl.built1 wr (.int .u8 ((bits : Int) / 2 ^ (8 * m) % 256)) _ rfl) rfl rfl (by unfold maxLen; omega) (by omega) ?_; intro na nc w6 O6' hgr6 hblk6)
          go_roundw
          case rel =>
            refine ⟨j + 1, by omega, by rw [← hmi]; go_num, O6'.cast (by omega) (by rw [HBY.out, lenB_succ]; simp [bcells]), fun q hq => ?_, (C.alloc _).grown hgr6 (fun q hq => .inr (hyq q hq))⟩
            rcases hblk6 with e | e
            · rw [e] at hq; exact hyq q hq
            · rw [e] at hq; simp at hq; have := C.size; omega
          case measure => simp [intOf]
        · obtain rfl : j = 8 := by omega
          obtain ⟨l, hl⟩ : ∃ l, l = 128 :: List.replicate k 0 ++ lenB bits 8 := ⟨_, rfl⟩
          have hpad : Sha.pad d = l := by rw [hl, pad_eq, HHV.out, HBV.out, HZ'.out]; rfl
          have hll : l.length = 1 + k + 8 := by rw [hl]; simp; omega
          have hrd : Rd wr (.slice xa (1 + k + 8) xc) l := Own.rd (e := 5) (O.cast hll.symm (by rw [hl]))
          have hI : IsH wr K v0 gc d := ⟨⟨tail, ht, by rw [HHV.out]; exact HTR.out, by rw [HHV.out, Nat.mod_eq_of_lt (by omega)]; exact B4.kept C (by omega)⟩⟩
          have CW : Chg (fun _ => False) w wr := C4.trans C (fun q hq hT => by have := HGI.out; omega)
          have hR' : Rounds wr K := hR.kept CW id
          have hsep : ∀ q, rdb (.slice xa (1 + k + 8) xc) = some q → q ≠ gc := fun q hq => by have := hyq q (rdb_own hq); omega
          have B5' := B5.kept C (by omega)
          have HPAD := Lib.hid hpad
          have HCW := Lib.hid CW
          have HI := hI
          have HB5' := Lib.hid B5'
          clear hpad hl O HB B4 B5 CW hI B5' HTR HHV HBV HZ' hyq
          have hCsz := C.size
          clear C C4
          go_wp2_with fail
          ((with_reducible refine (write_any K v0 gc d l _ wr HI hR' hrd hsep (by omega) hv0 hd (by omega)).mono ?_); rintro e w7 ⟨rfl, I7, C7⟩)
          obtain ⟨tail7, ht7, _, B7⟩ := I7
          have B7' : Blk w7 gc 80 ([] ++ wcells (Sha.state K v0 (d ++ l)).list ++ (bcells tail7 ++ [Value.int .i64 ((d ++ l).length % 64 : Nat), Value.int .u64 ((d ++ l).length % 18446744073709551616 : Nat)])).toArray := B7
          have hLl : (Sha.state K v0 (d ++ l)).list.length = 8 := rfl
          have hLb := state_lt K v0 hv0 (d ++ l)
          have hsha : Sha.sha K v0 d = outB (Sha.state K v0 (d ++ l)).list := by unfold Sha.sha; rw [HPAD.out]; rfl
          generalize (Sha.state K v0 (d ++ l)).list = L at *
          have C7' : Chg (fun _ => False) w w7 := HCW.out.trans C7 (fun q hq e => by have := HGI.out; omega)
          have HB6 := Lib.hid (HB5'.out.kept C7 (by omega))
          have hgi7 : gi < w7.heap.size := HB6.out.lt
          have HC7 := Lib.hid C7'
          have HSHA := Lib.hid hsha
          clear B7 C7 C7' hsha HB5' HCW HI hR' hrd hsep HPAD ht7
          go_wp2_with (first
            | ((with_reducible show wpList _ _ _ (⟨some 7, _, _, _, _, _⟩ :: _) _ _); refine wpl_alloc_row rfl 34 rfl Tryd.zeroValue34 ?_; intro w8 B8 hc8 hs8; have HS8 := Lib.hid hs8; clear hs8)
            | ((with_reducible show wpList _ _ _ (⟨some 45, _, _, _, _, _⟩ :: _) _ _); refine wpl_load_mid rfl 76 (.tmp 44) rfl rfl ((B7'.kept hc8 id).range rfl) Tryd.underlying76 (by rw [wcells_length, hLl]; kernel_rfl) ?_)
            | fail)
          have hg8 : gi < w7.heap.size := hgi7
          have HG8 := HC7.out.size
          generalize w7.heap.size = g8 at *
          have B8' : Blk w8 g8 34 (bcells (outB (L.take 0) ++ List.replicate (32 - 4 * 0) 0)).toArray := B8
          clear B8 B7'
          go_loopw [46] (fun i wr => ∃ n : Nat, n ≤ 8 ∧ i = .int .i64 n ∧ Blk wr g8 34 (bcells (outB (L.take n) ++ List.replicate (32 - 4 * n) 0)).toArray ∧ Chg (fun q => q = g8) w8 wr) (fun i _ => 8 - (intOf i).toNat)
          case atStart => exact ⟨0, by omega, rfl, B8', Chg.refl _ _⟩
          case round =>
            clear B8'
            obtain ⟨n, hn, rfl, B9, C9⟩ := hrel
            by_cases hlt : n < 8
            · have hnl : n < L.length := by omega
              have hx := fun w => index_words (w := w) hLl hnl
              have hxb := hLb L[n] (List.getElem_mem _)
              have hot : outB (L.take (n + 1)) = outB (L.take n) ++ wordB L[n] 4 := by rw [List.take_succ_eq_append_getElem hnl, outB_snoc]
              generalize hxe : L[n] = x at *
              have hol : (outB (L.take n)).length = 4 * n := by rw [outB_length, List.length_take]; omega
              have HOT := Lib.hid hot
              have HOL := Lib.hid hol
              have HXE := Lib.hid hxe
              have B9' : Blk wr g8 34 (bcells (outB (L.take n) ++ wordB x 0 ++ List.replicate (32 - 4 * n - 0) 0)).toArray := by simpa [wordB] using B9
              clear hot hol hxe B9
              go_wp2_with fail
              go_loopw [50] (fun i wr2 => ∃ k : Nat, k ≤ 4 ∧ i = .int .i64 k ∧ Blk wr2 g8 34 (bcells (outB (L.take n) ++ wordB x k ++ List.replicate (32 - 4 * n - k) 0)).toArray ∧ Chg (fun q => q = g8) w8 wr2) (fun i _ => 4 - (intOf i).toNat)
              case atStart => exact ⟨0, by omega, rfl, B9', C9⟩
              case round =>
                clear B9' C9
                obtain ⟨k, hk, rfl, B, C⟩ := hrel
                by_cases hlt : k < 4
                · obtain ⟨m, hm⟩ : ∃ m : Nat, k + m = 3 := ⟨3 - k, by omega⟩
                  have hs : 24 - 8 * (k : Int) = 8 * (m : Int) := by omega
                  have hrep : List.replicate (32 - 4 * n - k) (0 : UInt8) = 0 :: List.replicate (32 - 4 * n - (k + 1)) 0 := by rw [← List.replicate_succ]; congr 1; omega
                  rw [hrep] at B
                  have hA : (outB (L.take n) ++ wordB x k).length = 4 * n + k := by rw [List.length_append, HOL.out, wordB_length]
                  have f0 := B.free (4 * n + k)
                  have c0 : wr.cell? ⟨g8, 4 * n + k, none⟩ = some (.int .u8 0) := by
                    rw [B.cell, List.getElem?_toArray, bcells_get, List.getElem?_append_right (by omega), hA]; simp
                  have hbyte : ((x : Int) / 2 ^ (8 * m) % 256) = ((UInt8.ofNat (x / 256 ^ (3 - k))).toNat : Int) := by
                    rw [show 3 - k = m from by omega, ← byte_of, show (256 : Nat) ^ m = 2 ^ (8 * m) from by rw [Nat.pow_mul]]; simp
                  have HA := Lib.hid hA
                  have HBY := Lib.hid hbyte
                  clear hA hbyte hrep
                  go_wp2_with fail
                  refine ⟨⟨k + 1, by omega, by go_num, ?_, C.setCell (.inr rfl) _⟩, by simp [intOf]; omega⟩
                  have e := B.set (4 * n + k) (.int .u8 ((x : Int) / 2 ^ (8 * m) % 256))
                  rw [HBY.out, bset1 HA.out] at e
                  rw [HBY.out, wordB_succ]
                  simpa using e
                · obtain rfl : k = 4 := by omega
                  go_wp2_with fail
                  refine ⟨⟨n + 1, by omega, by go_num, ?_, C⟩, by simp [intOf]; omega⟩
                  rw [HOT.out]
                  exact B
            · obtain rfl : n = 8 := by omega
              rw [List.take_of_length_le (by omega)] at B9
              have B9' : Blk wr g8 34 (bcells (outB L)).toArray := by simpa using B9
              have hol : (outB L).length = 32 := by rw [outB_length, hLl]
              have hid : (Tryd.prog.info? 34).map (·.size) = some (bcells (outB L)).toArray.size := by rw [List.size_toArray, bcells_length, hol]; kernel_rfl
              have HID := Lib.hid hid
              have HB10 := Lib.hid (HB6.out.kept (hc8.mono (T := fun q => q = g8) (fun _ _ h => h.elim) |>.trans C9 (fun _ _ h => h)) (by omega))
              clear B9 hid
              go_wp2_with (first
                | ((with_reducible show wpList _ _ _ (⟨some 66, _, _, _, _, _⟩ :: _) _ _); refine wpl_load_row rfl 34 (.tmp 7) rfl rfl B9' Tryd.underlying34 HID.out ?_)
                | ((with_reducible show wpList _ _ _ (⟨none, .store _ (.tmp 2) (.tmp 66), _, _, _, _⟩ :: _) _ _); refine wpl_store_row rfl 34 (.tmp 2) (.tmp 66) rfl rfl rfl HB10.out HID.out (by simp [hol]) (arr_one _) ?_; intro w9 B11 hc11)
                | fail)
              refine bodyPost_ret (results_cell_row rfl _ _ gi 34 (bcells (outB L)).toArray (0, 0) _ rfl B11 Tryd.underlying34 rfl HID.out) rfl ?_
              refine ⟨by rw [HSHA.out]; rfl, ?_⟩
              have a1 := HC7.out.trans hc8 (fun _ _ h => h)
              have a2 := a1.trans C9 (fun q hq e => by have := HGI.out; omega)
              exact a2.trans hc11 (fun q hq e => by have := HGI.out; omega)
end Go.Proofs.YtafgeppdchnceaaDoor
