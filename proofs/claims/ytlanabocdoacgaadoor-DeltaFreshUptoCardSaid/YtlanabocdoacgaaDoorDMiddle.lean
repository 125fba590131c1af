import Derived.Test.YtlanabocdoacgaaDoorDWrite
import Derived.Deep.LoopGhost
set_option linter.unusedVariables false
namespace Go.Sat
open Go Go.RowKit
/-- The last part of a slice of bytes that reads. -/
theorem wpl_from {P : Program} {ops : Array Oper} {rest : List Oper} {o : Oper} {a : Act} {Q : Exit → Act → World → Prop} {w : World} (hw : Region.wanted o (yielded ops a.tmps) = true) (t : TypeId) (x lo : Operand)
    (ho : o.op = .slice t x (some lo) none none) {e : TypeId} (ht : P.underlying t = some (.slice e)) (hsz : ∀ w, (sizeOf e).run P w = .ok 1 w) {ao : Option Addr} {n c : Nat} {l : List UInt8} (hx : a.eval x = .slice ao n c) (hr : Rd w (.slice ao n c) l)
    {j : Int} (l0 : Nat) (hlo : a.eval lo = .int .i64 j) (hj0 : j = l0) (h2 : l0 ≤ l.length)
    (h : ∀ y, Rd w y (l.drop l0) → (∀ k, rdb y = some k → rdb (.slice ao n c) = some k) → wpList P ops Q rest (a.put o.dst y) w) : wpList P ops Q (o :: rest) a w := by
  subst hj0
  have hp := hr.part h2 (Nat.le_refl _)
  have hc : l.length ≤ c ∧ n = l.length := by
    obtain ⟨ao', c', e1, e2⟩ := hr.form
    injection e1 with e3 e4 e5
    omega
  have he : P.elem t = e := by simp [Program.elem, ht]
  have hrun : (Instr.slice t (.slice ao n c) (some (.int .i64 (l0 : Int))) none none).run P w = .ok (.slice (ao.map fun a => if c = l0 then a else a.add l0) (l.length - l0) (c - l0)) w := by
    rw [run_slice_l w t ao n c (by rw [he]; exact ht) .i64 l0 (by omega) (by omega), he, hsz]
    simp [sliced, hc.2]
    split
    · cases ao <;> rfl
    · rfl
  have hrun2 : (Instr.sliceAt t (.slice ao n c) (some (.int .i64 (l0 : Int))) none none).run P w = .ok (.slice (ao.map fun a => if c = l0 then a else a.add l0) (l.length - l0) (c - l0)) w := by
    rw [run_sliceAt_slice _ _ _ _ _ _ (by rw [he]; exact ht)]; exact hrun
  have hdt : (l.drop l0).take (l.length - l0) = l.drop l0 := List.take_of_length_le (by simp)
  rw [hdt] at hp
  refine BigFrame.wpList_want hw fun K hK => ?_
  unfold Oper.wp execOp
  have := hK _ _ (h _ hp fun k hk => ?_)
  · simpa [ho, hlo, hx, hrun2, Oper.upon] using this
  · cases ao with
    | none => simp [rdb] at hk
    | some a =>
      simp only [rdb, Option.map_some] at hk ⊢
      split at hk
      · cases hk
      · rw [if_neg (by omega)]
        rw [← hk]
        split
        · rfl
        · unfold Addr.add; split <;> rfl
def key8 (l : List UInt8) (i : Nat) : List UInt8 := (l.drop i).take 8
theorem key8_len {l : List UInt8} {i : Nat} (h : i + 8 ≤ l.length) : (key8 l i).length = 8 := by simp [key8]; omega
/-- Where a key first stands, behind so many looks. -/
def placesF (base : List UInt8) : Nat → List UInt8 → Option Nat
  | 0 => fun _ => none
  | j + 1 => if (placesF base j (key8 base (4 * j))).isSome then placesF base j else fun x => if x = key8 base (4 * j) then some (4 * j) else placesF base j x
theorem placesF_at (base : List UInt8) : ∀ (j : Nat) (x : List UInt8) (a : Nat), placesF base j x = some a → ∃ i, i < j ∧ a = 4 * i ∧ x = key8 base a
  | 0, x, a, h => by simp [placesF] at h
  | j + 1, x, a, h => by
    unfold placesF at h
    split at h
    · obtain ⟨i, h1, h2⟩ := placesF_at base j x a h
      exact ⟨i, by omega, h2⟩
    · simp only at h
      split at h
      · rename_i e
        cases h
        exact ⟨j, by omega, rfl, e⟩
      · obtain ⟨i, h1, h2⟩ := placesF_at base j x a h
        exact ⟨i, by omega, h2⟩
/-- The commands for what has no end in common. -/
def midL (base b : List UInt8) (f : List UInt8 → Option Nat) : Nat → Nat → Nat → List UInt8
  | 0, from_, _ => freB (b.drop from_)
  | fu + 1, from_, i =>
    if i + 16 ≤ b.length then
      match f (key8 b i) with
      | none => midL base b f fu from_ (i + 1)
      | some a => if lcp (b.drop i) (base.drop a) < 16 then midL base b f fu from_ (i + 1)
        else freB ((b.drop from_).take (i - from_)) ++ repB a (lcp (b.drop i) (base.drop a)) ++ midL base b f fu (i + lcp (b.drop i) (base.drop a)) (i + lcp (b.drop i) (base.drop a))
    else freB (b.drop from_)
theorem midL_end {base b : List UInt8} {f : List UInt8 → Option Nat} {fu from_ i : Nat} (h : ¬ i + 16 ≤ b.length) : midL base b f fu from_ i = freB (b.drop from_) := by
  cases fu with
  | zero => rfl
  | succ fu => simp [midL, h]
theorem midL_none {base b : List UInt8} {f : List UInt8 → Option Nat} {fu from_ i : Nat} (h : i + 16 ≤ b.length) (hf : f (key8 b i) = none) : midL base b f (fu + 1) from_ i = midL base b f fu from_ (i + 1) := by simp [midL, h, hf]
theorem midL_short {base b : List UInt8} {f : List UInt8 → Option Nat} {fu from_ i a : Nat} (h : i + 16 ≤ b.length) (hf : f (key8 b i) = some a) (hl : lcp (b.drop i) (base.drop a) < 16) : midL base b f (fu + 1) from_ i = midL base b f fu from_ (i + 1) := by simp [midL, h, hf, hl]
theorem midL_long {base b : List UInt8} {f : List UInt8 → Option Nat} {fu from_ i a n : Nat} (h : i + 16 ≤ b.length) (hf : f (key8 b i) = some a) (hn : lcp (b.drop i) (base.drop a) = n) (hl : 16 ≤ n) :
    midL base b f (fu + 1) from_ i = freB ((b.drop from_).take (i - from_)) ++ repB a n ++ midL base b f fu (i + n) (i + n) := by
  simp only [midL, h, hf, hn, if_true]; rw [if_neg (by omega)]
/-- More fuel than is wanted tells the same. -/
theorem midL_fuel (base b : List UInt8) (f : List UInt8 → Option Nat) : ∀ (fu fu' from_ i : Nat), b.length ≤ i + fu → b.length ≤ i + fu' → midL base b f fu from_ i = midL base b f fu' from_ i
  | 0, fu', from_, i, h, _ => by rw [midL_end (by omega), midL_end (by omega)]
  | fu + 1, 0, from_, i, _, h => by rw [midL_end (by omega), midL_end (by omega)]
  | fu + 1, fu' + 1, from_, i, h, h' => by
    unfold midL
    split
    · split
      · exact midL_fuel base b f fu fu' _ _ (by omega) (by omega)
      · split
        · exact midL_fuel base b f fu fu' _ _ (by omega) (by omega)
        · rw [midL_fuel base b f fu fu' _ _ (by omega) (by omega)]
    · rfl
def midR (base b : List UInt8) : List UInt8 := midL base b (placesF base ((base.length - 4) / 4)) b.length 0 0
theorem lcp_key {base b : List UInt8} {i a : Nat} (hi : i + 8 ≤ b.length) (ha : a + 8 ≤ base.length) (h : key8 b i = key8 base a) : 8 ≤ lcp (b.drop i) (base.drop a) := by
  have key : ∀ n, n ≤ 8 → n ≤ lcp (b.drop i) (base.drop a) := by
    intro n
    induction n with
    | zero => intro _; exact Nat.zero_le _
    | succ n ih =>
      intro hn
      refine lcp_step _ _ n (ih (by omega)) (by simp; omega) (by simp; omega) ?_
      have h1 : ((b.drop i).take 8)[n]? = ((base.drop a).take 8)[n]? := by unfold key8 at h; rw [h]
      rw [List.getElem?_take_of_lt (by omega), List.getElem?_take_of_lt (by omega), List.getElem?_eq_getElem (by simp; omega), List.getElem?_eq_getElem (by simp; omega)] at h1
      exact Option.some.inj h1
  exact key 8 (Nat.le_refl _)
end Go.Sat
namespace Go.Proofs.YtlanabocdoacgaaDoor
open Go Go.RowKit Go.Sat
theorem _root_.Go.Sat.freB_len (b : List UInt8) (h : b.length ≤ 65536) : (freB b).length ≤ b.length + 10 := by
  unfold freB
  split
  · have := varB_len (2 * b.length) (by omega); rw [List.length_append]; omega
  · simp
theorem _root_.Go.Sat.repB_len (a n : Nat) (h : a ≤ 65536) (h2 : n ≤ 65536) : (repB a n).length ≤ 20 := by
  unfold repB
  split
  · have := varB_len (2 * n + 1) (by omega); have := varB_len a (by omega); rw [List.length_append]; omega
  · simp
theorem MapIs.mono {w : World} {b n n' : Nat} {f : List UInt8 → Option Nat} (h : MapIs w b n f) (hn : n ≤ n') : MapIs w b n' f := by
  obtain ⟨D, h, hf⟩ := h; exact ⟨D, h.mono hn, hf⟩
theorem Rd.range {w : World} {b off c : Nat} {l : List UInt8} (h : Rd w (.slice (some ⟨b, off, none⟩) l.length c) l) : w.rangeAt b off (bcells l) := fun j u hu => by
  have hj : j < l.length := by have := (List.getElem?_eq_some_iff.1 hu).1; simpa using this
  rw [h.cell hj, ← hu, bcells_get, List.getElem?_eq_getElem hj]; rfl
theorem info8 {l : List UInt8} (h : l.length = 8) : (Tryd.prog.info? 109).map (·.size) = some (bcells l).length := by
  have : (Tryd.prog.info? 109).map (·.size) = some 8 := by kernel_rfl
  rw [bcells_length, h]; exact this
theorem info8a {l : List UInt8} (h : l.length = 8) : (Tryd.prog.info? 109).map (·.size) = some (bcells l).toArray.size := by
  rw [List.size_toArray]; exact info8 h
set_option maxRecDepth 100000 in
set_option maxHeartbeats 6400000 in
theorem middle_any (pb : Nat) (v x y : Value) (T : TypeId) (l base b : List UInt8) (w : World) (hw : IsW w pb v T l) (hx : Rd w x base) (hy : Rd w y b) (hsx : ∀ k, rdb x = some k → k ≠ pb ∧ v.ownBlock ≠ some k) (hsy : ∀ k, rdb y = some k → k ≠ pb ∧ v.ownBlock ≠ some k)
    (hl : l.length ≤ 1000000) (hbl : base.length ≤ 65536) (hb : b.length ≤ 65536) :
    Calls Tryd.prog 41 #[.pointer (some ⟨pb, 0, none⟩), x, y] w fun e w' => e = .returned (.tuple #[]) ∧ WStep w pb v T l (midR base b) w' := by
  obtain ⟨xa, xc, rfl, _⟩ := hx.form
  obtain ⟨ya, yc, rfl, _⟩ := hy.form
  have hxl : ∀ k, rdb (.slice xa base.length xc) = some k → k < w.heap.size := fun k hk => Rd.lt hx hk
  have hyl : ∀ k, rdb (.slice ya b.length yc) = some k → k < w.heap.size := fun k hk => Rd.lt hy hk
  have HX := Lib.hid hx
  have HY := Lib.hid hy
  have HSX := Lib.hid hsx
  have HSY := Lib.hid hsy
  have HXL := Lib.hid hxl
  have HYL := Lib.hid hyl
  have hmm := @run_makeMap Tryd.prog
  have M0 := MapIs.made w
  have C0 : Chg (fun _ => False) w (w.alloc (.map #[] 0)) := (Chg.refl _ w).alloc _
  clear hx hy hsx hsy hxl hyl
  go_enter Tryd.func41, Tryd.ntmps41
  go_wp2_with fail
  go_step3
  go_wp2_with fail
  clear hmm
  obtain ⟨mb, hmb⟩ : ∃ mb, mb = w.heap.size := ⟨_, rfl⟩
  rw [← hmb] at M0 ⊢
  have HMB := Lib.hid hmb
  clear hmb
  generalize w.alloc (.map #[] 0) = w0 at *
  go_loopw [7] (fun s7 wr => ∃ j : Nat, j ≤ (base.length - 4) / 4 ∧ s7 = .int .i64 ((4 * j : Nat) : Int) ∧ MapIs wr mb j (placesF base j) ∧ Chg (fun _ => False) w wr) (fun s7 _ => base.length + 8 - (intOf s7).toNat)
  case atStart => exact ⟨0, by omega, rfl, M0, C0⟩
  case round =>
    clear M0 C0
    obtain ⟨j, hj, rfl, M, C⟩ := hrel
    obtain ⟨q, hq⟩ : ∃ q, q = 4 * j := ⟨_, rfl⟩
    rw [← hq]
    have HQ := Lib.hid hq
    have hqb : (q : Int) ≤ 65536 := by omega
    by_cases hlt : q + 8 ≤ base.length
    · have hd : decide ((q : Int) + 8 ≤ base.length) = true := by simp; omega
      have hk8 := key8_len hlt
      have hstep : placesF base (j + 1) = if (placesF base j (key8 base q)).isSome then placesF base j else fun x => if x = key8 base q then some q else placesF base j x := by rw [hq]; rfl
      have HST := Lib.hid hstep
      have HK8 := Lib.hid hk8
      have hpart := key8 base q
      have HI8 := Lib.hid (info8 hk8)
      have HI8a := Lib.hid (info8a hk8)
      have HS8 := Lib.hid (show (bcells (key8 base q)).toArray.size = 8 by rw [List.size_toArray, bcells_length, hk8])
      have hkd : key8 base q = ((base.drop q).take (q + 8 - q)) := by unfold key8; rw [show q + 8 - q = 8 from by omega]
      have HKD := Lib.hid hkd
      have hxr := HX.out.kept C (fun _ _ => id)
      have HXR := Lib.hid hxr
      have harr := run_arr8
      clear hq hstep hk8 hpart hkd hxr
      generalize key8 base q = ky at *
      go_wp2_with (first
        | ((with_reducible show wpList _ _ _ (⟨some 28, _, _, _, _, _⟩ :: _) _ _); refine Shut.out ?_)
        | fail)
      show wpList _ _ _ _ _ _
      (refine wpl_part rfl 24 (.tmp 24) (.tmp 25) (.tmp 27) rfl Tryd.underlying24 sizeU8 rfl HXR.out q (q + 8) rfl rfl rfl (by omega) (by omega) hlt ?_; intro yk hyk hyks; rw [← HKD.out] at hyk; obtain ⟨kb, ko, kc, rfl, _, _⟩ := hyk.addr (by rw [HK8.out]; decide); have RG := Lib.hid (Rd.range hyk); rw [HK8.out])
      go_wp2_with (first
        | ((with_reducible show wpList _ _ _ (⟨some 30, _, _, _, _, _⟩ :: _) _ _); refine wpl_load_mid rfl 109 (.tmp 29) rfl rfl RG.out Tryd.underlying109 HI8.out ?_)
        | ((with_reducible show wpList _ _ _ (⟨some 8, _, _, _, _, _⟩ :: _) _ _); refine wpl_alloc_row rfl 109 rfl Tryd.zeroValue109 ?_; intro w1 B1 hc1 hs1)
        | ((with_reducible show wpList _ _ _ (⟨none, .store _ (.tmp 8) (.tmp 30), _, _, _, _⟩ :: _) _ _); refine wpl_store_row rfl 109 (.tmp 8) (.tmp 30) rfl rfl rfl B1 HI8a.out (by rw [HS8.out]; rfl) (arr_one _) ?_; intro w2 B2 hc2)
        | ((with_reducible show wpList _ _ _ (⟨some 33, _, _, _, _, _⟩ :: _) _ _); refine Shut.out ?_)
        | fail)
      show wpList _ _ _ _ _ _
      have C12 : Chg (fun k => k = wr.heap.size) wr w2 := (hc1.mono fun _ _ h => h.elim).trans hc2 (fun _ _ h => h)
      have hml := M.lt
      have M2 := M.kept C12 (by omega)
      have CW2 : Chg (fun _ => False) w w2 := C.trans C12 (fun k hk h => by have h' : k = wr.heap.size := h; have := C.size; omega)
      have HB2 := Lib.hid B2
      have hmw : w.heap.size ≤ mb := by have := HMB.out; omega
      have hwr := C.size
      have hg2 : wr.heap.size < w2.heap.size := B2.lt
      clear B1 hc1 hc2 hs1 B2 C12 harr
      generalize wr.heap.size = g8 at *
      by_cases hsome : (placesF base j ky).isSome = true
      · have hst2 : placesF base (j + 1) = placesF base j := by rw [HST.out, if_pos hsome]
        have HST2 := Lib.hid hst2
        clear hst2
        go_wp2_with (first
          | ((with_reducible show wpList _ _ _ (⟨some 33, _, _, _, _, _⟩ :: _) _ _); refine wpl_load_row rfl 109 (.tmp 8) rfl rfl HB2.out Tryd.underlying109 HI8a.out ?_)
          | ((with_reducible show wpList _ _ _ (⟨some 34, _, _, _, _, _⟩ :: _) _ _); refine wpl_look8 rfl (.tmp 32) (.tmp 33) rfl rfl M2 rfl HK8.out ?_)
          | fail)
        go_roundw
        case rel => exact ⟨j + 1, by have := HQ.out; omega, by have := HQ.out; congr 1; omega, by rw [HST2.out]; exact M2.mono (by omega), CW2⟩
        case measure => have := HQ.out; simp [intOf]; omega
      · have hnone : (placesF base j ky).isSome = false := by simpa using hsome
        have hst2 : placesF base (j + 1) = fun x => if x = ky then some q else placesF base j x := by rw [HST.out, if_neg hsome]
        have HST2 := Lib.hid hst2
        clear hst2 hsome
        go_wp2_with (first
          | ((with_reducible show wpList _ _ _ (⟨some 33, _, _, _, _, _⟩ :: _) _ _); refine wpl_load_row rfl 109 (.tmp 8) rfl rfl HB2.out Tryd.underlying109 HI8a.out ?_)
          | ((with_reducible show wpList _ _ _ (⟨some 34, _, _, _, _, _⟩ :: _) _ _); refine wpl_look8 rfl (.tmp 32) (.tmp 33) rfl rfl M2 rfl HK8.out ?_)
          | ((with_reducible show wpList _ _ _ (⟨some 40, _, _, _, _, _⟩ :: _) _ _); refine wpl_load_row rfl 109 (.tmp 8) rfl rfl HB2.out Tryd.underlying109 HI8a.out ?_)
          | ((with_reducible show wpList _ _ _ (⟨none, .mapUpdate _ _ _ _, _, _, _, _⟩ :: _) _ _); refine wpl_put8 rfl (.tmp 39) (.tmp 40) (.tmp 41) rfl rfl M2 rfl rfl HK8.out (by unfold maxLen; omega) (by omega) ?_; intro w3 M3 C3)
          | fail)
        go_roundw
        case rel => exact ⟨j + 1, by have := HQ.out; omega, by have := HQ.out; congr 1; omega, by rw [HST2.out]; exact M3, CW2.trans C3 (fun k hk h => by have h' : k = mb := h; omega)⟩
        case measure => have := HQ.out; simp [intOf]; omega
    · have hd : decide ((q : Int) + 8 ≤ base.length) = false := by simp; omega
      have hJ : j = (base.length - 4) / 4 := by omega
      rw [hJ] at M
      have hmbl := M.lt
      have hmw : w.heap.size ≤ mb := by have := HMB.out; omega
      clear hq hJ hj hlt
      obtain ⟨F, hF⟩ : ∃ F, F = placesF base ((base.length - 4) / 4) := ⟨_, rfl⟩
      have hFa : ∀ x a, F x = some a → a + 8 ≤ base.length ∧ x = key8 base a := fun x a h => by
        rw [hF] at h
        obtain ⟨i, h1, h2, h3⟩ := placesF_at _ _ _ _ h
        exact ⟨by omega, h3⟩
      have hmid : midR base b = midL base b F b.length 0 0 := by unfold midR; rw [hF]
      rw [← hF] at M
      have HFA := Lib.hid hFa
      have HMID := Lib.hid hmid
      clear hF hFa hmid
      generalize (base.length - 4) / 4 = mn at *
      go_wp2_with fail
      go_step3
      go_wp2_with fail
      obtain ⟨wo, rfl⟩ : ∃ wo : World, wo = wr := ⟨_, rfl⟩
      have IW0 : IsW wo pb v T (l ++ []) := by rw [List.append_nil]; exact hw.kept C id (fun _ _ => id)
      have hvw : v.ownBlock ≠ some mb := fun e => by have := hw.own.lt mb e; omega
      have hmbp : mb ≠ pb := fun e => by have := lt_of_block hw.blk; omega
      have HVW := Lib.hid hw.own.lt
      clear hw
      go_loopg [11, 12] b.length (fun g s11 s12 wy => ∃ (from_ i : Nat) (out : List UInt8) (v2 : Value), b.length ≤ i + g ∧ i ≤ b.length ∧ from_ ≤ i ∧ s11 = .int .i64 (from_ : Int) ∧ s12 = .int .i64 (i : Int) ∧ midL base b F b.length 0 0 = out ++ midL base b F g from_ i ∧ out.length ≤ 4 * from_ ∧ IsW wy pb v2 T (l ++ out) ∧ (∀ k, v2.ownBlock = some k → v.ownBlock = some k ∨ w.heap.size ≤ k) ∧ v2.ownBlock ≠ some mb ∧ MapIs wy mb mn F ∧ Chg (fun k => k = pb ∨ v.ownBlock = some k) w wy)
      case atStart => exact ⟨0, 0, [], v, by omega, by omega, by omega, rfl, rfl, rfl, by simp, IW0, fun k hk => .inl hk, hvw, M, C.mono (fun _ _ h => h.elim)⟩
      case round =>
        clear IW0 hvw M C
        obtain ⟨from_, i, out, v2, hg, hi, hfi, rfl, rfl, hmid, hol, IW, hvb, hvm, M, C⟩ := hrel
        have hY := HY.out.kept C (fun k hk h => by rcases h with h | h; exact (HSY.out k hk).1 h; exact (HSY.out k hk).2 h)
        have hX := HX.out.kept C (fun k hk h => by rcases h with h | h; exact (HSX.out k hk).1 h; exact (HSX.out k hk).2 h)
        by_cases h16 : i + 16 ≤ b.length
        · cases gk with
          | zero => omega
          | succ g =>
            have hd : decide ((i : Int) + 16 ≤ b.length) = true := by simp; omega
            have hk8 := key8_len (show i + 8 ≤ b.length by omega)
            have HK8 := Lib.hid hk8
            have HI8 := Lib.hid (info8 hk8)
            have hkd : key8 b i = ((b.drop i).take (i + 8 - i)) := by unfold key8; rw [show i + 8 - i = 8 from by omega]
            have HKD := Lib.hid hkd
            have hlc : ∀ a, F (key8 b i) = some a → 8 ≤ lcp (b.drop i) (base.drop a) ∧ a + 8 ≤ base.length := fun a ha => by
              obtain ⟨h1, h2⟩ := HFA.out _ _ ha
              exact ⟨lcp_key (by omega) h1 h2, h1⟩
            have hmn := midL_none (base := base) (b := b) (f := F) (fu := g) (from_ := from_) h16
            have hms := fun a => midL_short (base := base) (b := b) (f := F) (fu := g) (from_ := from_) (a := a) h16
            have hml := fun a n => midL_long (base := base) (b := b) (f := F) (fu := g) (from_ := from_) (a := a) (n := n) h16
            have HLC := Lib.hid hlc
            have HMN := Lib.hid hmn
            have HMS := Lib.hid hms
            have HML := Lib.hid hml
            have HMD := Lib.hid hmid
            have HYR := Lib.hid hY
            have HXR := Lib.hid hX
            have HIW := Lib.hid IW
            have HC := Lib.hid C
            have HVB := Lib.hid hvb
            have harr := run_arr8
            clear hk8 hkd hlc hmn hms hml hmid hY hX IW C hvb
            generalize key8 b i = ky at *
            go_wp2_with (first
              | ((with_reducible show wpList _ _ _ (⟨some 53, _, _, _, _, _⟩ :: _) _ _); refine wpl_part rfl 24 (.tmp 49) (.tmp 50) (.tmp 52) rfl Tryd.underlying24 sizeU8 rfl HYR.out i (i + 8) rfl rfl rfl (by omega) (by omega) (by omega) ?_; intro yk hyk hyks; rw [← HKD.out] at hyk; obtain ⟨kb, ko, kc, rfl, _, _⟩ := hyk.addr (by rw [HK8.out]; decide); have RG := Lib.hid (Rd.range hyk); rw [HK8.out])
              | ((with_reducible show wpList _ _ _ (⟨some 55, _, _, _, _, _⟩ :: _) _ _); refine wpl_load_mid rfl 109 (.tmp 54) rfl rfl RG.out Tryd.underlying109 HI8.out ?_)
              | ((with_reducible show wpList _ _ _ (⟨some 56, _, _, _, _, _⟩ :: _) _ _); refine Shut.out ?_)
              | fail)
            show wpList _ _ _ _ _ _
            clear harr
            cases hF : F ky with
            | none =>
              have hnx := HMN.out hF
              have HNX := Lib.hid hnx
              have HF := Lib.hid hF
              clear hnx hF
              have hz : (F ky).isSome = false := by rw [HF.out]; rfl
              go_wp2_with (first
                | ((with_reducible show wpList _ _ _ (⟨some 56, _, _, _, _, _⟩ :: _) _ _); refine wpl_look8 rfl (.tmp 48) (.tmp 55) rfl rfl M rfl HK8.out ?_)
                | fail)
              go_roundg g
              case measure => omega
              case rel => exact ⟨from_, i + 1, out, v2, by omega, by omega, by omega, rfl, by go_num, by rw [HMD.out, HNX.out], hol, HIW.out, HVB.out, hvm, M, HC.out⟩
            | some a =>
              obtain ⟨hl8, ha8⟩ := HLC.out a hF
              have hms2 := HMS.out a hF
              have hml2 := fun n => HML.out a n hF
              have HMS2 := Lib.hid hms2
              have HML2 := Lib.hid hml2
              have HF := Lib.hid hF
              clear hms2 hml2 hF HMS HML HLC
              have hz : (F ky).isSome = true := by rw [HF.out]; rfl
              have hg0 : (F ky).getD 0 = a := by rw [HF.out]; rfl
              go_wp2_with (first
                | ((with_reducible show wpList _ _ _ (⟨some 56, _, _, _, _, _⟩ :: _) _ _); refine wpl_look8 rfl (.tmp 48) (.tmp 55) rfl rfl M rfl HK8.out ?_; rw [hg0]; clear hg0)
                | fail)
              clear hz
              obtain ⟨wi, rfl⟩ : ∃ wi : World, wi = wr := ⟨_, rfl⟩
              obtain ⟨L, hL⟩ : ∃ L, L = lcp (b.drop i) (base.drop a) := ⟨_, rfl⟩
              have HLL := Lib.hid hL
              rw [← hL] at hl8
              have hLle : L ≤ b.length - i := by have := (lcp_le (b.drop i) (base.drop a)).1; rw [List.length_drop] at this; omega
              have hLle2 : L ≤ base.length - a := by have := (lcp_le (b.drop i) (base.drop a)).2; rw [List.length_drop] at this; omega
              have hLstep : ∀ n (h1 : i + n < b.length) (h2 : a + n < base.length), n ≤ L → b[i + n] = base[a + n] → n + 1 ≤ L := fun n h1 h2 hn he => by
                rw [hL] at hn ⊢
                exact lcp_step _ _ n hn (by simp; omega) (by simp; omega) (by simpa using he)
              have hLstop : ∀ n, n ≤ L → (∀ (h1 : i + n < b.length) (h2 : a + n < base.length), b[i + n] ≠ base[a + n]) → L = n := fun n hn he => by
                rw [hL] at hn ⊢
                exact lcp_stop _ _ n hn (fun h1 h2 => by simpa using he (by simp at h1; omega) (by simp at h2; omega))
              have HSTEP := Lib.hid hLstep
              have HSTOP := Lib.hid hLstop
              clear hL hLstep hLstop
              have hMS3 : L < 16 → midL base b F (g + 1) from_ i = midL base b F g from_ (i + 1) := fun h => HMS2.out (by rw [← HLL.out]; exact h)
              have hML3 : 16 ≤ L → midL base b F (g + 1) from_ i = freB ((b.drop from_).take (i - from_)) ++ repB a L ++ midL base b F g (i + L) (i + L) := fun h => HML2.out L HLL.out.symm h
              have HMS3 := Lib.hid hMS3
              have HML3 := Lib.hid hML3
              clear hMS3 hML3 HMS2 HML2 HLL
              have M0 := Lib.hid M
              clear M
              have hwb : mb < wi.heap.size := M0.out.lt
              go_loopg [12, 15] 8 (fun g3 s12 s15 wz => ∃ n : Nat, n + g3 = 16 ∧ 8 ≤ n ∧ n ≤ L ∧ s12 = .int .i64 (i : Int) ∧ s15 = .int .i64 (n : Int) ∧ Chg (fun _ => False) wi wz) 
              case atStart => exact ⟨8, by omega, by omega, hl8, rfl, rfl, Chg.refl _ _⟩
              case round =>
                obtain ⟨n, hn16, hn8, hnL, rfl, rfl, C3⟩ := hrel
                have hY3 := HYR.out.kept C3 (fun _ _ => id)
                have hX3 := HXR.out.kept C3 (fun _ _ => id)
                have CC3 : Chg (fun k => k = pb ∨ v.ownBlock = some k) w wr := HC.out.trans C3 (fun _ _ h => h.elim)
                have hi64 : (i : Int) ≤ 65536 := by omega
                have ha64 : (a : Int) ≤ 65536 := by omega
                obtain ⟨r, hr⟩ : ∃ r, r = a + n := ⟨_, rfl⟩
                obtain ⟨p, hp⟩ : ∃ p, p = i + n := ⟨_, rfl⟩
                have hri : (a : Int) + (n : Int) = (r : Int) := by omega
                have hpi : (i : Int) + (n : Int) = (p : Int) := by omega
                cases gk with
                | succ g3 =>
                  have hn16' : decide ((n : Int) < 16) = true := by simp; omega
                  have hpb : p < b.length := by omega
                  by_cases hrb : r < base.length
                  · have hdr : decide (base.length ≤ r) = false := by simp; omega
                    obtain ⟨yb, yo, yc', e1, _, _⟩ := hY3.addr (by omega)
                    cases e1
                    obtain ⟨xb, xo, xc', e2, _, _⟩ := hX3.addr (by omega)
                    cases e2
                    have cy := hY3.cell hpb
                    have cx := hX3.cell hrb
                    by_cases heq : b[p] = base[r]
                    · have hL1 : n + 1 ≤ L := HSTEP.out n (by omega) (by omega) hnL (by simpa [hr, hp] using heq)
                      rw [← heq] at cx
                      generalize b[p] = z at *
                      clear hY3 hX3 heq hr hp
                      go_wp2_with fail
                      refine wp_region_text mixed (by kernel_rfl) ?_
                      go_wp2_with fail
                      refine TQ.normal (by kernel_rfl) ?_
                      go_wp2_with fail
                      go_roundg g3
                      case measure => omega
                      case rel => exact ⟨n + 1, by omega, by omega, hL1, rfl, by go_num, C3.drew⟩
                    · have hLn : L = n := HSTOP.out n hnL (fun _ _ h => heq (by simpa [hr, hp] using h))
                      have hnx := HMS3.out (by omega)
                      have HNX := Lib.hid hnx
                      have hne : ((b[p].toNat : Int) != (base[r].toNat : Int)) = true := by
                        simp only [bne_iff_ne, ne_eq]
                        intro h
                        exact heq (UInt8.toNat_inj.1 (by omega))
                      generalize b[p] = z at *
                      generalize base[r] = z2 at *
                      clear hY3 hX3 heq hr hp hnx
                      go_wp2_with fail
                      refine wp_region_text mixed (by kernel_rfl) ?_
                      go_wp2_with fail
                      refine TQ.normal (by kernel_rfl) ?_
                      go_wp2_with fail
                      go_roundg g
                      case measure => omega
                      case rel => exact ⟨from_, i + 1, out, v2, by omega, by omega, by omega, rfl, by go_num, by rw [HMD.out, HNX.out], hol, HIW.out.kept C3.drew id (fun _ _ => id), HVB.out, hvm, M0.out.kept C3.drew id, CC3.drew⟩
                  · have hdr : decide (base.length ≤ r) = true := by simp; omega
                    have hLn : L = n := HSTOP.out n hnL (fun _ h => by omega)
                    have hnx := HMS3.out (by omega)
                    have HNX := Lib.hid hnx
                    clear hY3 hX3 hr hp hnx
                    go_wp2_with fail
                    refine wp_region_text mixed (by kernel_rfl) ?_
                    go_wp2_with fail
                    refine TQ.normal (by kernel_rfl) ?_
                    go_wp2_with fail
                    go_roundg g
                    case measure => omega
                    case rel => exact ⟨from_, i + 1, out, v2, by omega, by omega, by omega, rfl, by go_num, by rw [HMD.out, HNX.out], hol, HIW.out.kept C3.drew id (fun _ _ => id), HVB.out, hvm, M0.out.kept C3.drew id, CC3.drew⟩
                | zero =>
                  have hn16e : n = 16 := by omega
                  have hn16' : decide ((n : Int) < 16) = false := by simp; omega
                  have hL16 : 16 ≤ L := by omega
                  have hnx := HML3.out hL16
                  have HNX := Lib.hid hnx
                  clear hnx hY3 hX3 hr hp hri hpi CC3 r p
                  have hnb : 16 ≤ n := by omega
                  clear hn16e hn16
                  go_wp2_with fail
                  clear hn16'
                  obtain ⟨wj, rfl⟩ : ∃ wj : World, wj = wr := ⟨_, rfl⟩
                  go_loopw [15] (fun s15 wz => ∃ n : Nat, 16 ≤ n ∧ n ≤ L ∧ s15 = .int .i64 (n : Int) ∧ Chg (fun _ => False) wi wz) (fun s15 _ => b.length - (intOf s15).toNat)
                  case atStart => exact ⟨n, hnb, hnL, rfl, C3⟩
                  case round =>
                    clear C3 hnb hnL
                    obtain ⟨n, hnb, hnL, rfl, C3⟩ := hrel
                    have hY3 := HYR.out.kept C3 (fun _ _ => id)
                    have hX3 := HXR.out.kept C3 (fun _ _ => id)
                    obtain ⟨r, hr⟩ : ∃ r, r = a + n := ⟨_, rfl⟩
                    obtain ⟨p, hp⟩ : ∃ p, p = i + n := ⟨_, rfl⟩
                    have hri : (a : Int) + (n : Int) = (r : Int) := by omega
                    have hpi : (i : Int) + (n : Int) = (p : Int) := by omega
                    by_cases hpb : p < b.length
                    · have hdp : decide (p < b.length) = true := by simp; omega
                      by_cases hrb : r < base.length
                      · have hdr : decide (r < base.length) = true := by simp; omega
                        obtain ⟨yb, yo, yc', e1, _, _⟩ := hY3.addr (by omega)
                        cases e1
                        obtain ⟨xb, xo, xc', e2, _, _⟩ := hX3.addr (by omega)
                        cases e2
                        have cy := hY3.cell hpb
                        have cx := hX3.cell hrb
                        by_cases heq : b[p] = base[r]
                        · have hL1 : n + 1 ≤ L := HSTEP.out n (by omega) (by omega) hnL (by simpa [hr, hp] using heq)
                          rw [← heq] at cx
                          generalize b[p] = z at *
                          clear hY3 hX3 heq hr hp
                          go_wp2_with fail
                          refine wp_region_text mixed (by kernel_rfl) ?_
                          go_wp2_with fail
                          refine TQ.normal (by kernel_rfl) ?_
                          go_wp2_with fail
                          go_roundw
                          case rel => exact ⟨n + 1, by omega, hL1, by go_num, C3.drew⟩
                          case measure => simp [intOf]; omega
                        · have hLn : L = n := HSTOP.out n hnL (fun _ _ h => heq (by simpa [hr, hp] using h))
                          have HLn := Lib.hid hLn
                          have hne : ((b[p].toNat : Int) == (base[r].toNat : Int)) = false := by
                            simp only [beq_eq_false_iff_ne, ne_eq]
                            intro h
                            exact heq (UInt8.toNat_inj.1 (by omega))
                          generalize b[p] = z at *
                          generalize base[r] = z2 at *
                          clear hY3 hX3 heq hr hp hLn
                          go_wp2_with fail
                          refine wp_region_text mixed (by kernel_rfl) ?_
                          go_wp2_with fail
                          refine TQ.normal (by kernel_rfl) ?_
                          have C4 := C3.drew
                          have CC4 : Chg (fun k => k = pb ∨ v.ownBlock = some k) w wr.drew := HC.out.trans C4 (fun _ _ h => h.elim)
                          have hY4 := HYR.out.kept C4 (fun _ _ => id)
                          have I4 := HIW.out.kept C4 id (fun _ _ => id)
                          have M4 := Lib.hid (M0.out.kept C4 id)
                          have hwz := C4.size
                          have hmz := (M0.out.kept C4 id).lt
                          clear C3 C4
                          generalize wr.drew = wd at *
                          go_wp2_with (first
                            | ((with_reducible show wpList _ _ _ (⟨some 125, _, _, _, _, _⟩ :: _) _ _); refine wpl_part rfl 24 (.tmp 122) (.tmp 123) (.tmp 124) rfl Tryd.underlying24 sizeU8 rfl hY4 from_ i rfl rfl rfl rfl hfi hi ?_; intro yk hyk hyks)
                            | fail)
                          have hfl : ((b.drop from_).take (i - from_)).length = i - from_ := by rw [List.length_take, List.length_drop]; omega
                          have hfr := freB_len ((b.drop from_).take (i - from_)) (by omega)
                          have HFL := Lib.hid hfl
                          (refine (fresh_any pb v2 yk T _ ((b.drop from_).take (i - from_)) wd I4 hyk (fun k hk => ⟨(HSY.out k (hyks k hk)).1, fun e => by
                            rcases HVB.out k e with h | h
                            · exact (HSY.out k (hyks k hk)).2 h
                            · have := HYL.out k (hyks k hk); omega⟩) (by rw [List.length_append]; omega) (by omega)).mono ?_; rintro e w5 ⟨rfl, v5, I5, C5, b5⟩)
                          have hwz5 := C5.size
                          have h5m : v5.ownBlock ≠ some mb := fun e => by
                            rcases b5 mb e with h | h
                            · exact hvm h
                            · omega
                          have M5 := Lib.hid (M4.out.kept C5 (fun h => by rcases h with h | h; exact hmbp h; exact hvm h))
                          have CC5 : Chg (fun k => k = pb ∨ v.ownBlock = some k) w w5 := CC4.trans C5 (fun k hk h => by
                            rcases h with h | h
                            · exact .inl h
                            · rcases HVB.out k h with h2 | h2
                              · exact .inr h2
                              · omega)
                          have hb5 : ∀ k, v5.ownBlock = some k → v.ownBlock = some k ∨ w.heap.size ≤ k := fun k hk => by
                            rcases b5 k hk with h | h
                            · exact HVB.out k h
                            · exact .inr (Nat.le_trans CC4.size h)
                          have HB5 := Lib.hid hb5
                          clear C5 b5 hb5 hyk hyks hY4 I4 CC4
                          go_wp2_with fail
                          (refine (repeat_any pb v5 T a n _ w5 I5 (by rw [List.length_append, List.length_append]; omega) (by omega) (by omega)).mono ?_; rintro e w6 ⟨rfl, v6, I6, C6, b6⟩)
                          have hwz6 := C6.size
                          have hrl := repB_len a n (by omega) (by omega)
                          go_wp2_with fail
                          go_roundg g
                          case measure => omega
                          case rel =>
                            refine ⟨i + n, i + n, out ++ (freB ((b.drop from_).take (i - from_)) ++ repB a n), v6, by omega, by omega, by omega, by go_num, by go_num, ?_, ?_, ?_, fun k hk => ?_, fun e => ?_, M5.out.kept C6 (fun h => by rcases h with h | h; exact hmbp h; exact h5m h), CC5.trans C6 (fun k hk h => ?_)⟩
                            · have e3 := HLn.out
                              rw [HMD.out, HNX.out, e3]; simp only [List.append_assoc]
                            · rw [List.length_append, List.length_append]; have := HFL.out; omega
                            · have := I6; simp only [List.append_assoc] at this ⊢; exact this
                            · rcases b6 k hk with h | h
                              · exact HB5.out k h
                              · exact .inr (by have := CC5.size; omega)
                            · rcases b6 mb e with h | h
                              · exact h5m h
                              · omega
                            · rcases h with h | h
                              · exact .inl h
                              · rcases HB5.out k h with h2 | h2
                                · exact .inr h2
                                · omega
                      · have hdr : decide (r < base.length) = false := by simp; omega
                        have hLn : L = n := HSTOP.out n hnL (fun _ h => by omega)
                        have HLn := Lib.hid hLn
                        clear hY3 hX3 hr hp hLn
                        go_wp2_with fail
                        refine wp_region_text mixed (by kernel_rfl) ?_
                        go_wp2_with fail
                        refine TQ.normal (by kernel_rfl) ?_
                        have C4 := C3.drew
                        have CC4 : Chg (fun k => k = pb ∨ v.ownBlock = some k) w wr.drew := HC.out.trans C4 (fun _ _ h => h.elim)
                        have hY4 := HYR.out.kept C4 (fun _ _ => id)
                        have I4 := HIW.out.kept C4 id (fun _ _ => id)
                        have M4 := Lib.hid (M0.out.kept C4 id)
                        have hwz := C4.size
                        have hmz := (M0.out.kept C4 id).lt
                        clear C3 C4
                        generalize wr.drew = wd at *
                        go_wp2_with (first
                          | ((with_reducible show wpList _ _ _ (⟨some 125, _, _, _, _, _⟩ :: _) _ _); refine wpl_part rfl 24 (.tmp 122) (.tmp 123) (.tmp 124) rfl Tryd.underlying24 sizeU8 rfl hY4 from_ i rfl rfl rfl rfl hfi hi ?_; intro yk hyk hyks)
                          | fail)
                        have hfl : ((b.drop from_).take (i - from_)).length = i - from_ := by rw [List.length_take, List.length_drop]; omega
                        have hfr := freB_len ((b.drop from_).take (i - from_)) (by omega)
                        have HFL := Lib.hid hfl
                        (refine (fresh_any pb v2 yk T _ ((b.drop from_).take (i - from_)) wd I4 hyk (fun k hk => ⟨(HSY.out k (hyks k hk)).1, fun e => by
                          rcases HVB.out k e with h | h
                          · exact (HSY.out k (hyks k hk)).2 h
                          · have := HYL.out k (hyks k hk); omega⟩) (by rw [List.length_append]; omega) (by omega)).mono ?_; rintro e w5 ⟨rfl, v5, I5, C5, b5⟩)
                        have hwz5 := C5.size
                        have h5m : v5.ownBlock ≠ some mb := fun e => by
                          rcases b5 mb e with h | h
                          · exact hvm h
                          · omega
                        have M5 := Lib.hid (M4.out.kept C5 (fun h => by rcases h with h | h; exact hmbp h; exact hvm h))
                        have CC5 : Chg (fun k => k = pb ∨ v.ownBlock = some k) w w5 := CC4.trans C5 (fun k hk h => by
                          rcases h with h | h
                          · exact .inl h
                          · rcases HVB.out k h with h2 | h2
                            · exact .inr h2
                            · omega)
                        have hb5 : ∀ k, v5.ownBlock = some k → v.ownBlock = some k ∨ w.heap.size ≤ k := fun k hk => by
                          rcases b5 k hk with h | h
                          · exact HVB.out k h
                          · exact .inr (Nat.le_trans CC4.size h)
                        have HB5 := Lib.hid hb5
                        clear C5 b5 hb5 hyk hyks hY4 I4 CC4
                        go_wp2_with fail
                        (refine (repeat_any pb v5 T a n _ w5 I5 (by rw [List.length_append, List.length_append]; omega) (by omega) (by omega)).mono ?_; rintro e w6 ⟨rfl, v6, I6, C6, b6⟩)
                        have hwz6 := C6.size
                        have hrl := repB_len a n (by omega) (by omega)
                        go_wp2_with fail
                        go_roundg g
                        case measure => omega
                        case rel =>
                          refine ⟨i + n, i + n, out ++ (freB ((b.drop from_).take (i - from_)) ++ repB a n), v6, by omega, by omega, by omega, by go_num, by go_num, ?_, ?_, ?_, fun k hk => ?_, fun e => ?_, M5.out.kept C6 (fun h => by rcases h with h | h; exact hmbp h; exact h5m h), CC5.trans C6 (fun k hk h => ?_)⟩
                          · have e3 := HLn.out
                            rw [HMD.out, HNX.out, e3]; simp only [List.append_assoc]
                          · rw [List.length_append, List.length_append]; have := HFL.out; omega
                          · have := I6; simp only [List.append_assoc] at this ⊢; exact this
                          · rcases b6 k hk with h | h
                            · exact HB5.out k h
                            · exact .inr (by have := CC5.size; omega)
                          · rcases b6 mb e with h | h
                            · exact h5m h
                            · omega
                          · rcases h with h | h
                            · exact .inl h
                            · rcases HB5.out k h with h2 | h2
                              · exact .inr h2
                              · omega
                    · have hdp : decide (p < b.length) = false := by simp; omega
                      have hLn : L = n := HSTOP.out n hnL (fun h _ => by omega)
                      have HLn := Lib.hid hLn
                      clear hY3 hX3 hr hp hLn
                      go_wp2_with fail
                      refine wp_region_text mixed (by kernel_rfl) ?_
                      go_wp2_with fail
                      refine TQ.normal (by kernel_rfl) ?_
                      have C4 := C3.drew
                      have CC4 : Chg (fun k => k = pb ∨ v.ownBlock = some k) w wr.drew := HC.out.trans C4 (fun _ _ h => h.elim)
                      have hY4 := HYR.out.kept C4 (fun _ _ => id)
                      have I4 := HIW.out.kept C4 id (fun _ _ => id)
                      have M4 := Lib.hid (M0.out.kept C4 id)
                      have hwz := C4.size
                      have hmz := (M0.out.kept C4 id).lt
                      clear C3 C4
                      generalize wr.drew = wd at *
                      go_wp2_with (first
                        | ((with_reducible show wpList _ _ _ (⟨some 125, _, _, _, _, _⟩ :: _) _ _); refine wpl_part rfl 24 (.tmp 122) (.tmp 123) (.tmp 124) rfl Tryd.underlying24 sizeU8 rfl hY4 from_ i rfl rfl rfl rfl hfi hi ?_; intro yk hyk hyks)
                        | fail)
                      have hfl : ((b.drop from_).take (i - from_)).length = i - from_ := by rw [List.length_take, List.length_drop]; omega
                      have hfr := freB_len ((b.drop from_).take (i - from_)) (by omega)
                      have HFL := Lib.hid hfl
                      (refine (fresh_any pb v2 yk T _ ((b.drop from_).take (i - from_)) wd I4 hyk (fun k hk => ⟨(HSY.out k (hyks k hk)).1, fun e => by
                        rcases HVB.out k e with h | h
                        · exact (HSY.out k (hyks k hk)).2 h
                        · have := HYL.out k (hyks k hk); omega⟩) (by rw [List.length_append]; omega) (by omega)).mono ?_; rintro e w5 ⟨rfl, v5, I5, C5, b5⟩)
                      have hwz5 := C5.size
                      have h5m : v5.ownBlock ≠ some mb := fun e => by
                        rcases b5 mb e with h | h
                        · exact hvm h
                        · omega
                      have M5 := Lib.hid (M4.out.kept C5 (fun h => by rcases h with h | h; exact hmbp h; exact hvm h))
                      have CC5 : Chg (fun k => k = pb ∨ v.ownBlock = some k) w w5 := CC4.trans C5 (fun k hk h => by
                        rcases h with h | h
                        · exact .inl h
                        · rcases HVB.out k h with h2 | h2
                          · exact .inr h2
                          · omega)
                      have hb5 : ∀ k, v5.ownBlock = some k → v.ownBlock = some k ∨ w.heap.size ≤ k := fun k hk => by
                        rcases b5 k hk with h | h
                        · exact HVB.out k h
                        · exact .inr (Nat.le_trans CC4.size h)
                      have HB5 := Lib.hid hb5
                      clear C5 b5 hb5 hyk hyks hY4 I4 CC4
                      go_wp2_with fail
                      (refine (repeat_any pb v5 T a n _ w5 I5 (by rw [List.length_append, List.length_append]; omega) (by omega) (by omega)).mono ?_; rintro e w6 ⟨rfl, v6, I6, C6, b6⟩)
                      have hwz6 := C6.size
                      have hrl := repB_len a n (by omega) (by omega)
                      go_wp2_with fail
                      go_roundg g
                      case measure => omega
                      case rel =>
                        refine ⟨i + n, i + n, out ++ (freB ((b.drop from_).take (i - from_)) ++ repB a n), v6, by omega, by omega, by omega, by go_num, by go_num, ?_, ?_, ?_, fun k hk => ?_, fun e => ?_, M5.out.kept C6 (fun h => by rcases h with h | h; exact hmbp h; exact h5m h), CC5.trans C6 (fun k hk h => ?_)⟩
                        · have e3 := HLn.out
                          rw [HMD.out, HNX.out, e3]; simp only [List.append_assoc]
                        · rw [List.length_append, List.length_append]; have := HFL.out; omega
                        · have := I6; simp only [List.append_assoc] at this ⊢; exact this
                        · rcases b6 k hk with h | h
                          · exact HB5.out k h
                          · exact .inr (by have := CC5.size; omega)
                        · rcases b6 mb e with h | h
                          · exact h5m h
                          · omega
                        · rcases h with h | h
                          · exact .inl h
                          · rcases HB5.out k h with h2 | h2
                            · exact .inr h2
                            · omega
        · have hd : decide ((i : Int) + 16 ≤ b.length) = false := by simp; omega
          have hmd : midR base b = out ++ freB (b.drop from_) := by rw [HMID.out, hmid, midL_end h16]
          have HMD := Lib.hid hmd
          have HY2 := Lib.hid hY
          clear hmd hmid hY hX
          go_wp2_with (first
            | ((with_reducible show wpList _ _ _ (⟨some 138, _, _, _, _, _⟩ :: _) _ _); refine wpl_from rfl 24 (.tmp 136) (.tmp 137) rfl Tryd.underlying24 sizeU8 rfl HY2.out from_ rfl rfl (by omega) ?_; intro yk hyk hyks)
            | fail)
          (refine (fresh_any pb v2 yk T _ (b.drop from_) wr IW hyk (fun k hk => ⟨(HSY.out k (hyks k hk)).1, fun e => by
            rcases hvb k e with h | h
            · exact (HSY.out k (hyks k hk)).2 h
            · have := HYL.out k (hyks k hk); omega⟩) (by rw [List.length_append]; omega) (by simp; omega)).mono ?_; rintro e w5 ⟨rfl, v5, I5, C5, b5⟩)
          go_wp2_with fail
          rw [Exit.noGoto_normal]
          go_end0
          rw [HMD.out]
          refine ⟨rfl, v5, by rw [← List.append_assoc]; exact I5, C.trans C5 (fun k hk h => ?_), fun k hk => ?_⟩
          · rcases h with h | h
            · exact .inl h
            · rcases hvb k h with h2 | h2
              · exact .inr h2
              · omega
          · rcases b5 k hk with h | h
            · exact hvb k h
            · exact .inr (Nat.le_trans C.size h)
end Go.Proofs.YtlanabocdoacgaaDoor
