import Derived.Test.YtafgeppdchnceaaDoorHexD
set_option linter.unusedVariables false
namespace Go.Sat
open Go Go.RowKit
namespace Sha
/-- The first words, the rounds' words. -/
def h0 : V8 := ⟨1779033703, 3144134277, 1013904242, 2773480762, 1359893119, 2600822924, 528734635, 1541459225⟩
def k0 : List Nat := [1116352408, 1899447441, 3049323471, 3921009573, 961987163, 1508970993, 2453635748, 2870763221, 3624381080, 310598401, 607225278, 1426881987, 1925078388, 2162078206, 2614888103, 3248222580, 3835390401, 4022224774, 264347078, 604807628, 770255983, 1249150122, 1555081692, 1996064986, 2554220882, 2821834349, 2952996808, 3210313671, 3336571891, 3584528711, 113926993, 338241895, 666307205, 773529912, 1294757372, 1396182291, 1695183700, 1986661051, 2177026350, 2456956037, 2730485921, 2820302411, 3259730800, 3345764771, 3516065817, 3600352804, 4094571909, 275423344, 430227734, 506948616, 659060556, 883997877, 958139571, 1322822218, 1537002063, 1747873779, 1955562222, 2024104815, 2227730452, 2361852424, 2428436474, 2756734187, 3204031479, 3329325298]
theorem h0_lt : ∀ x ∈ h0.list, x < 4294967296 := by decide
theorem k0_lt : ∀ x ∈ k0, x < 4294967296 := by decide
end Sha
/-- The digest of bytes. -/
def dg (d : List UInt8) : List UInt8 := Sha.sha Sha.k0 Sha.h0 d
theorem dg_length (d : List UInt8) : (dg d).length = 32 := by
  unfold dg Sha.sha Sha.out Sha.V8.list
  simp
theorem Rd.lt {w : World} {x : Value} {l : List UInt8} (h : Rd w x l) : ∀ k, rdb x = some k → k < w.heap.size := by
  intro k hk
  obtain ⟨ao, c, rfl, _⟩ := h.form
  by_cases hl : 0 < l.length
  · obtain ⟨b, off, c', e, _, hb⟩ := h.addr hl
    rw [e] at hk
    simp only [rdb] at hk
    split at hk
    · cases hk
    · cases hk; exact hb
  · have : l.length = 0 := by omega
    cases ao with
    | none => simp [rdb] at hk
    | some a => simp [rdb, this] at hk
/-- The padded key, xored. -/
def padKey (k : List UInt8) : List UInt8 := (if 64 < k.length then dg k else k) ++ List.replicate (64 - (if 64 < k.length then dg k else k).length) 0
def xorB (c : UInt8) (l : List UInt8) : List UInt8 := l.map fun b => b ^^^ c
/-- The keyed digest. -/
def kdg (k d : List UInt8) : List UInt8 := dg (xorB 92 (padKey k) ++ dg (xorB 54 (padKey k) ++ d))
end Go.Sat
namespace Go.Proofs.YtafgeppdchnceaaDoor
open Go Go.RowKit Go.Sat
/-- What the package-level variables hold. -/
structure Laid (w : World) : Prop where
  b : w.rangeAt 0 0 (wcells Sha.h0.list)
  r : Rounds w Sha.k0
theorem Laid.size {w : World} (h : Laid w) : 2 < w.heap.size := World.block_lt_of_cell? w _ (h.r.1 0 (by decide))
theorem Laid.kept {S : Nat → Prop} {w w' : World} (h : Laid w) (hc : Chg S w w') (h0 : ¬ S 0) (h2 : ¬ S 2) : Laid w' :=
  ⟨fun j v hv => by have := h.b j v hv; rw [hc.cell (p := ⟨0, 0 + j, none⟩) (World.block_lt_of_cell? w _ this) h0]; exact this, h.r.kept hc h2⟩
/-- A Hash to which d was written. -/
def Hs (w : World) (pb : Nat) (d : List UInt8) : Prop := IsH w Sha.k0 Sha.h0 pb d
theorem Hs.lt {w : World} {pb : Nat} {d : List UInt8} (h : Hs w pb d) : pb < w.heap.size := by obtain ⟨_, _, _, B⟩ := h; exact B.lt
theorem Hs.kept {S : Nat → Prop} {w w' : World} {pb : Nat} {d : List UInt8} (h : Hs w pb d) (hc : Chg S w w') (hn : ¬ S pb) : Hs w' pb d := by
  obtain ⟨tail, h1, h2, B⟩ := h
  exact ⟨tail, h1, h2, B.kept hc hn⟩
theorem Hs.drew {w : World} {pb : Nat} {d : List UInt8} (h : Hs w pb d) : Hs w.drew pb d := by
  obtain ⟨tail, h1, h2, B⟩ := h
  exact ⟨tail, h1, h2, B.drew⟩
theorem hwrite_any (pb : Nat) (d b : List UInt8) (x : Value) (w : World) (hI : Hs w pb d) (hL : Laid w) (hx : Rd w x b) (hsep : ∀ k, rdb x = some k → k ≠ pb) (h2 : 2 < pb) (hd : d.length ≤ 4000000000000000000) (hb : b.length ≤ 4000000000000000000) :
    Calls Tryd.prog 13 #[.pointer (some ⟨pb, 0, none⟩), x] w fun e w' => e = .returned (.tuple #[]) ∧ Hs w' pb (d ++ b) ∧ Chg (fun k => k = pb) w w' :=
  write_any Sha.k0 Sha.h0 pb d b x w hI hL.r hx hsep h2 Sha.h0_lt hd hb
theorem hdone_any (pb : Nat) (d : List UInt8) (w : World) (hI : Hs w pb d) (hL : Laid w) (h2 : 2 < pb) (hd : d.length ≤ 4000000000000000000) :
    Calls Tryd.prog 15 #[.pointer (some ⟨pb, 0, none⟩)] w fun e w' => e = .returned (arrV (dg d)) ∧ Chg (fun _ => False) w w' :=
  hsum_any Sha.k0 Sha.h0 pb d w hI hL.r h2 Sha.h0_lt hd
theorem built_hash (v : Sha.V8) : List.foldl (fun cs x => cs.setIfInBounds x.snd x.fst) Tryd.zeroCells80 (wcells v.list).zipIdx = (hcells v (List.replicate 64 0) 0 0).toArray := by
  obtain ⟨a, b, c, d, e, f, g, h⟩ := v; kernel_rfl
theorem hnew_any (w : World) (hL : Laid w) :
    Calls Tryd.prog 9 #[] w fun e w' => e = .returned (.pointer (some ⟨w.heap.size, 0, none⟩)) ∧ Hs w' w.heap.size [] ∧ Chg (fun _ => False) w w' := by
  have hlen : (wcells Sha.h0.list).length = 8 := rfl
  have hbld := built_hash Sha.h0
  have hb := hL.b
  generalize hv : Sha.h0 = v at *
  have HB := Lib.hid hb
  have HBLD := Lib.hid hbld
  have HV := Lib.hid hv
  clear hb hv hbld
  go_enter Tryd.func9, Tryd.ntmps9
  go_wp2_with (first
    | ((with_reducible show wpList _ _ _ (⟨some 1, _, _, _, _, _⟩ :: _) _ _); refine wpl_load_mid rfl 76 (.global 0) rfl rfl HB.out Tryd.underlying76 (by rw [hlen]; kernel_rfl) ?_)
    | fail)
  rw [HBLD.out]
  go_ret
  refine ⟨rfl, ?_, (Chg.refl _ w).alloc _⟩
  have B := Blk.new w 80 (hcells v (List.replicate 64 0) 0 0).toArray
  refine ⟨List.replicate 64 0, rfl, rfl, ?_⟩
  rw [HV.out]
  exact B
theorem dsum_any (x : Value) (l : List UInt8) (w : World) (hL : Laid w) (hx : Rd w x l) (hl : l.length ≤ 4000000000000000000) :
    Calls Tryd.prog 16 #[x] w fun e w' => e = .returned (arrV (dg l)) ∧ Chg (fun _ => False) w w' := by
  have hs2 := hL.size
  have hxl := hx.lt
  have HLL := Lib.hid hl
  go_enter Tryd.func16, Tryd.ntmps16
  go_wp2_with (first
    | ((with_reducible show wpList _ _ _ (⟨some 2, _, _, _, _, _⟩ :: _) _ _); refine wpl_alloc_row rfl 34 rfl Tryd.zeroValue34 ?_; intro w1 B1 hc1 hs1; have HS1 := Lib.hid hs1; clear hs1)
    | fail)
  ((with_reducible refine (hnew_any w1 (hL.kept hc1 id id)).mono ?_); rintro e w2 ⟨rfl, I2, C2⟩)
  have L2 := (hL.kept hc1 id id).kept C2 id id
  have hs1 : w.heap.size < w1.heap.size := by have := HS1.out; omega
  have hx2 := (hx.kept hc1 (fun _ _ => id)).kept C2 (fun _ _ => id)
  go_wp2_with fail
  ((with_reducible refine (hwrite_any w1.heap.size [] l x w2 I2 L2 hx2 (fun k hk => by have := hxl k hk; omega) (by omega) (by simp) HLL.out).mono ?_); rintro e w3 ⟨rfl, I3, C3⟩)
  rw [List.nil_append] at I3
  go_wp2_with fail
  ((with_reducible refine (hdone_any w1.heap.size l w3 I3 (L2.kept C3 (by omega) (by omega)) (by omega) HLL.out).mono ?_); rintro e w4 ⟨rfl, C4⟩)
  have B4 := ((B1.kept C2 id).kept C3 (by omega)).kept C4 id
  have hid : (Tryd.prog.info? 34).map (·.size) = some (bcells (dg l)).toArray.size := by rw [List.size_toArray, bcells_length, dg_length]; kernel_rfl
  have HID := Lib.hid hid
  have hz : ((bcells (dg l)).toArray).size = 32 := by rw [List.size_toArray, bcells_length, dg_length]
  have HZ := Lib.hid hz
  have HB4 := Lib.hid B4
  clear hid hz B4 B1
  unfold arrV
  go_wp2_with (first
    | ((with_reducible show wpList _ _ _ (⟨none, .store _ (.tmp 2) (.tmp 9), _, _, _, _⟩ :: _) _ _); refine wpl_store_row rfl 34 (.tmp 2) (.tmp 9) rfl rfl rfl HB4.out HID.out (by rw [HZ.out]; rfl) (arr_one _) ?_; intro w9 B11 hc11)
    | fail)
  refine bodyPost_ret (results_cell_row rfl _ _ w.heap.size 34 (bcells (dg l)).toArray (0, 0) _ rfl B11 Tryd.underlying34 rfl HID.out) rfl ⟨rfl, ?_⟩
  have a1 := hc1.trans C2 (fun _ _ h => h)
  have a2 := a1.trans C3 (fun q hq e => by omega)
  have a3 := a2.trans C4 (fun _ _ h => h)
  exact a3.trans hc11 (fun q hq e => by omega)
end Go.Proofs.YtafgeppdchnceaaDoor
