import Derived.Test.YtafgeppdchnceaaDoorKnownHex
import Derived.Test.YtafgeppdchnceaaDoorDKeyed
import Derived.Lib.SlBytesConst
set_option linter.unusedVariables false
namespace Go.Proofs.YtafgeppdchnceaaDoor
open Go Go.RowKit Go.Sat
theorem fill_set (c : UInt8) {k N : Nat} (h : k < N) : (bcells (List.replicate k c ++ List.replicate (N - k) 0)).set k (.int .u8 (c.toNat : Int)) = bcells (List.replicate (k + 1) c ++ List.replicate (N - (k + 1)) 0) := by
  rw [show N - k = (N - (k + 1)) + 1 from by omega, List.replicate_succ, List.replicate_succ', List.append_assoc]
  simp only [bcells, List.map_append, List.map_cons, List.cons_append, List.nil_append]
  rw [List.set_append_right _ _ (by simp)]
  simp
theorem fill_len (c : UInt8) {k N : Nat} (h : k ≤ N) : (List.replicate k c ++ List.replicate (N - k) (0 : UInt8)).length = N := by simp; omega
/-- A slice of the call's own that is being filled. -/
def Filling (w : World) (g N : Nat) (c : UInt8) (k : Nat) : Prop := Own w 5 1 (.slice (some ⟨g, 0, none⟩) N N) N (bcells (List.replicate k c ++ List.replicate (N - k) 0))
theorem Filling.start {w : World} {g N : Nat} {c : UInt8} (h : Own w 5 1 (.slice (some ⟨g, 0, none⟩) N N) N (List.replicate N (.int .u8 0))) : Filling w g N c 0 := by
  refine h.cast rfl ?_
  simp [bcells]
theorem Filling.next {w : World} {g N : Nat} {c : UInt8} {k : Nat} (h : Filling w g N c k) (hk : k < N) : Filling (w.setCell ⟨g, k, none⟩ (.int .u8 (c.toNat : Int))) g N c (k + 1) ∧ w.frozen? ⟨g, k, none⟩ = false ∧ ∃ u, w.cell? ⟨g, k, none⟩ = some u := by
  obtain ⟨a, b, e⟩ := Own.store h hk (.int .u8 (c.toNat : Int))
  rw [fill_set c hk] at a
  have hl := h.1
  refine ⟨a, b, ?_⟩
  rw [e, List.getElem?_eq_getElem (by rw [hl]; omega)]
  exact ⟨_, rfl⟩
theorem Filling.full {w : World} {g N : Nat} {c : UInt8} (h : Filling w g N c N) : Rd w (.slice (some ⟨g, 0, none⟩) N N) (List.replicate N c) := by
  have h2 : Own w 5 1 (.slice (some ⟨g, 0, none⟩) N N) N (bcells (List.replicate N c)) := h.cast rfl (by rw [Nat.sub_self, List.replicate_zero, List.append_nil])
  exact Own.rd (e := 5) (h2.cast (by simp) rfl)
theorem rd_56 (w : World) : Rd (w.alloc (.cells (#[.int .u8 97, .int .u8 98, .int .u8 99, .int .u8 100, .int .u8 98, .int .u8 99, .int .u8 100, .int .u8 101, .int .u8 99, .int .u8 100, .int .u8 101, .int .u8 102, .int .u8 100, .int .u8 101, .int .u8 102, .int .u8 103, .int .u8 101, .int .u8 102, .int .u8 103, .int .u8 104, .int .u8 102, .int .u8 103, .int .u8 104, .int .u8 105, .int .u8 103, .int .u8 104, .int .u8 105, .int .u8 106, .int .u8 104, .int .u8 105, .int .u8 106, .int .u8 107, .int .u8 105, .int .u8 106, .int .u8 107, .int .u8 108, .int .u8 106, .int .u8 107, .int .u8 108, .int .u8 109, .int .u8 107, .int .u8 108, .int .u8 109, .int .u8 110, .int .u8 108, .int .u8 109, .int .u8 110, .int .u8 111, .int .u8 109, .int .u8 110, .int .u8 111, .int .u8 112, .int .u8 110, .int .u8 111, .int .u8 112, .int .u8 113] : Array Value) 5 (56, 57))) (.slice (some ⟨w.heap.size, 0, none⟩) 56 56) [97, 98, 99, 100, 98, 99, 100, 101, 99, 100, 101, 102, 100, 101, 102, 103, 101, 102, 103, 104, 102, 103, 104, 105, 103, 104, 105, 106, 104, 105, 106, 107, 105, 106, 107, 108, 106, 107, 108, 109, 107, 108, 109, 110, 108, 109, 110, 111, 109, 110, 111, 112, 110, 111, 112, 113] := by
  rw [show (#[.int .u8 97, .int .u8 98, .int .u8 99, .int .u8 100, .int .u8 98, .int .u8 99, .int .u8 100, .int .u8 101, .int .u8 99, .int .u8 100, .int .u8 101, .int .u8 102, .int .u8 100, .int .u8 101, .int .u8 102, .int .u8 103, .int .u8 101, .int .u8 102, .int .u8 103, .int .u8 104, .int .u8 102, .int .u8 103, .int .u8 104, .int .u8 105, .int .u8 103, .int .u8 104, .int .u8 105, .int .u8 106, .int .u8 104, .int .u8 105, .int .u8 106, .int .u8 107, .int .u8 105, .int .u8 106, .int .u8 107, .int .u8 108, .int .u8 106, .int .u8 107, .int .u8 108, .int .u8 109, .int .u8 107, .int .u8 108, .int .u8 109, .int .u8 110, .int .u8 108, .int .u8 109, .int .u8 110, .int .u8 111, .int .u8 109, .int .u8 110, .int .u8 111, .int .u8 112, .int .u8 110, .int .u8 111, .int .u8 112, .int .u8 113] : Array Value) = (bcells [97, 98, 99, 100, 98, 99, 100, 101, 99, 100, 101, 102, 100, 101, 102, 103, 101, 102, 103, 104, 102, 103, 104, 105, 103, 104, 105, 106, 104, 105, 106, 107, 105, 106, 107, 108, 106, 107, 108, 109, 107, 108, 109, 110, 108, 109, 110, 111, 109, 110, 111, 112, 110, 111, 112, 113]).toArray from by kernel_rfl]
  exact Sl.builtF w (bcells [97, 98, 99, 100, 98, 99, 100, 101, 99, 100, 101, 102, 100, 101, 102, 103, 101, 102, 103, 104, 102, 103, 104, 105, 103, 104, 105, 106, 104, 105, 106, 107, 105, 106, 107, 108, 106, 107, 108, 109, 107, 108, 109, 110, 108, 109, 110, 111, 109, 110, 111, 112, 110, 111, 112, 113]).toArray 5 (56, 57) 1 56 rfl (by simpa using bcells_one [97, 98, 99, 100, 98, 99, 100, 101, 99, 100, 101, 102, 100, 101, 102, 103, 101, 102, 103, 104, 102, 103, 104, 105, 103, 104, 105, 106, 104, 105, 106, 107, 105, 106, 107, 108, 106, 107, 108, 109, 107, 108, 109, 110, 108, 109, 110, 111, 109, 110, 111, 112, 110, 111, 112, 113]) (by unfold maxLen; omega)
theorem rd_8 (w : World) : Rd (w.alloc (.cells (#[.int .u8 72, .int .u8 105, .int .u8 32, .int .u8 84, .int .u8 104, .int .u8 101, .int .u8 114, .int .u8 101] : Array Value) 5 (8, 9))) (.slice (some ⟨w.heap.size, 0, none⟩) 8 8) [72, 105, 32, 84, 104, 101, 114, 101] := by
  rw [show (#[.int .u8 72, .int .u8 105, .int .u8 32, .int .u8 84, .int .u8 104, .int .u8 101, .int .u8 114, .int .u8 101] : Array Value) = (bcells [72, 105, 32, 84, 104, 101, 114, 101]).toArray from by kernel_rfl]
  exact Sl.builtF w (bcells [72, 105, 32, 84, 104, 101, 114, 101]).toArray 5 (8, 9) 1 8 rfl (by simpa using bcells_one [72, 105, 32, 84, 104, 101, 114, 101]) (by unfold maxLen; omega)
theorem rd_4 (w : World) : Rd (w.alloc (.cells (#[.int .u8 74, .int .u8 101, .int .u8 102, .int .u8 101] : Array Value) 5 (4, 5))) (.slice (some ⟨w.heap.size, 0, none⟩) 4 4) [74, 101, 102, 101] := by
  rw [show (#[.int .u8 74, .int .u8 101, .int .u8 102, .int .u8 101] : Array Value) = (bcells [74, 101, 102, 101]).toArray from by kernel_rfl]
  exact Sl.builtF w (bcells [74, 101, 102, 101]).toArray 5 (4, 5) 1 4 rfl (by simpa using bcells_one [74, 101, 102, 101]) (by unfold maxLen; omega)
theorem rd_28 (w : World) : Rd (w.alloc (.cells (#[.int .u8 119, .int .u8 104, .int .u8 97, .int .u8 116, .int .u8 32, .int .u8 100, .int .u8 111, .int .u8 32, .int .u8 121, .int .u8 97, .int .u8 32, .int .u8 119, .int .u8 97, .int .u8 110, .int .u8 116, .int .u8 32, .int .u8 102, .int .u8 111, .int .u8 114, .int .u8 32, .int .u8 110, .int .u8 111, .int .u8 116, .int .u8 104, .int .u8 105, .int .u8 110, .int .u8 103, .int .u8 63] : Array Value) 5 (28, 29))) (.slice (some ⟨w.heap.size, 0, none⟩) 28 28) [119, 104, 97, 116, 32, 100, 111, 32, 121, 97, 32, 119, 97, 110, 116, 32, 102, 111, 114, 32, 110, 111, 116, 104, 105, 110, 103, 63] := by
  rw [show (#[.int .u8 119, .int .u8 104, .int .u8 97, .int .u8 116, .int .u8 32, .int .u8 100, .int .u8 111, .int .u8 32, .int .u8 121, .int .u8 97, .int .u8 32, .int .u8 119, .int .u8 97, .int .u8 110, .int .u8 116, .int .u8 32, .int .u8 102, .int .u8 111, .int .u8 114, .int .u8 32, .int .u8 110, .int .u8 111, .int .u8 116, .int .u8 104, .int .u8 105, .int .u8 110, .int .u8 103, .int .u8 63] : Array Value) = (bcells [119, 104, 97, 116, 32, 100, 111, 32, 121, 97, 32, 119, 97, 110, 116, 32, 102, 111, 114, 32, 110, 111, 116, 104, 105, 110, 103, 63]).toArray from by kernel_rfl]
  exact Sl.builtF w (bcells [119, 104, 97, 116, 32, 100, 111, 32, 121, 97, 32, 119, 97, 110, 116, 32, 102, 111, 114, 32, 110, 111, 116, 104, 105, 110, 103, 63]).toArray 5 (28, 29) 1 28 rfl (by simpa using bcells_one [119, 104, 97, 116, 32, 100, 111, 32, 121, 97, 32, 119, 97, 110, 116, 32, 102, 111, 114, 32, 110, 111, 116, 104, 105, 110, 103, 63]) (by unfold maxLen; omega)
theorem rd_54 (w : World) : Rd (w.alloc (.cells (#[.int .u8 84, .int .u8 101, .int .u8 115, .int .u8 116, .int .u8 32, .int .u8 85, .int .u8 115, .int .u8 105, .int .u8 110, .int .u8 103, .int .u8 32, .int .u8 76, .int .u8 97, .int .u8 114, .int .u8 103, .int .u8 101, .int .u8 114, .int .u8 32, .int .u8 84, .int .u8 104, .int .u8 97, .int .u8 110, .int .u8 32, .int .u8 66, .int .u8 108, .int .u8 111, .int .u8 99, .int .u8 107, .int .u8 45, .int .u8 83, .int .u8 105, .int .u8 122, .int .u8 101, .int .u8 32, .int .u8 75, .int .u8 101, .int .u8 121, .int .u8 32, .int .u8 45, .int .u8 32, .int .u8 72, .int .u8 97, .int .u8 115, .int .u8 104, .int .u8 32, .int .u8 75, .int .u8 101, .int .u8 121, .int .u8 32, .int .u8 70, .int .u8 105, .int .u8 114, .int .u8 115, .int .u8 116] : Array Value) 5 (54, 55))) (.slice (some ⟨w.heap.size, 0, none⟩) 54 54) [84, 101, 115, 116, 32, 85, 115, 105, 110, 103, 32, 76, 97, 114, 103, 101, 114, 32, 84, 104, 97, 110, 32, 66, 108, 111, 99, 107, 45, 83, 105, 122, 101, 32, 75, 101, 121, 32, 45, 32, 72, 97, 115, 104, 32, 75, 101, 121, 32, 70, 105, 114, 115, 116] := by
  rw [show (#[.int .u8 84, .int .u8 101, .int .u8 115, .int .u8 116, .int .u8 32, .int .u8 85, .int .u8 115, .int .u8 105, .int .u8 110, .int .u8 103, .int .u8 32, .int .u8 76, .int .u8 97, .int .u8 114, .int .u8 103, .int .u8 101, .int .u8 114, .int .u8 32, .int .u8 84, .int .u8 104, .int .u8 97, .int .u8 110, .int .u8 32, .int .u8 66, .int .u8 108, .int .u8 111, .int .u8 99, .int .u8 107, .int .u8 45, .int .u8 83, .int .u8 105, .int .u8 122, .int .u8 101, .int .u8 32, .int .u8 75, .int .u8 101, .int .u8 121, .int .u8 32, .int .u8 45, .int .u8 32, .int .u8 72, .int .u8 97, .int .u8 115, .int .u8 104, .int .u8 32, .int .u8 75, .int .u8 101, .int .u8 121, .int .u8 32, .int .u8 70, .int .u8 105, .int .u8 114, .int .u8 115, .int .u8 116] : Array Value) = (bcells [84, 101, 115, 116, 32, 85, 115, 105, 110, 103, 32, 76, 97, 114, 103, 101, 114, 32, 84, 104, 97, 110, 32, 66, 108, 111, 99, 107, 45, 83, 105, 122, 101, 32, 75, 101, 121, 32, 45, 32, 72, 97, 115, 104, 32, 75, 101, 121, 32, 70, 105, 114, 115, 116]).toArray from by kernel_rfl]
  exact Sl.builtF w (bcells [84, 101, 115, 116, 32, 85, 115, 105, 110, 103, 32, 76, 97, 114, 103, 101, 114, 32, 84, 104, 97, 110, 32, 66, 108, 111, 99, 107, 45, 83, 105, 122, 101, 32, 75, 101, 121, 32, 45, 32, 72, 97, 115, 104, 32, 75, 101, 121, 32, 70, 105, 114, 115, 116]).toArray 5 (54, 55) 1 54 rfl (by simpa using bcells_one [84, 101, 115, 116, 32, 85, 115, 105, 110, 103, 32, 76, 97, 114, 103, 101, 114, 32, 84, 104, 97, 110, 32, 66, 108, 111, 99, 107, 45, 83, 105, 122, 101, 32, 75, 101, 121, 32, 45, 32, 72, 97, 115, 104, 32, 75, 101, 121, 32, 70, 105, 114, 115, 116]) (by unfold maxLen; omega)
theorem kdg_length (k d : List UInt8) : (kdg k d).length = 32 := dg_length _
theorem hex_arr (l : List UInt8) (w : World) (hl : l.length = 32) : Calls Tryd.prog 22 #[.agg (bcells l).toArray] w fun e w' => e = .returned (.string (strB (hexB l))) ∧ Chg (fun _ => False) w w' := hex_any l w hl
set_option maxRecDepth 100000 in
set_option maxHeartbeats 4000000 in
theorem known_walk (W : World) (hL : Laid W) : Calls Tryd.prog 6 #[] W fun e w' => e = .returned (.bool true) ∧ Chg (fun _ => False) W w' := by
  have hs2 := hL.size
  obtain ⟨N, hN⟩ : ∃ N : Nat, N = 1000 := ⟨_, rfl⟩
  obtain ⟨N2, hN2⟩ : ∃ N : Nat, N = 20 := ⟨_, rfl⟩
  obtain ⟨N3, hN3⟩ : ∃ N : Nat, N = 131 := ⟨_, rfl⟩
  have hNl : N ≤ 1000 := by omega
  have hN2l : N2 ≤ 20 := by omega
  have hN3l : N3 ≤ 131 := by omega
  have HN := Lib.hid hN
  have HN2 := Lib.hid hN2
  have HN3 := Lib.hid hN3
  clear hN hN2 hN3
  go_enter Tryd.func6, Tryd.ntmps6
  go_wp2_with fail
  ((with_reducible refine (hnew_any W hL).mono ?_); rintro e w1 ⟨rfl, H1, C1⟩)
  have hp1 := H1.lt
  obtain ⟨p, hp⟩ : ∃ p, p = W.heap.size := ⟨_, rfl⟩
  rw [← hp] at H1 hp1 ⊢
  have HP := Lib.hid hp
  have hp2 : 2 < p := by omega
  clear hp
  go_wp2_with fail
  go_loopw [2] (fun s2 wr => ∃ i : Nat, i ≤ 1000 ∧ s2 = .int .i64 i ∧ Hs wr p (List.replicate (N * i) 97) ∧ Chg (fun _ => False) W wr) (fun s2 _ => 1000 - (intOf s2).toNat)
  case atStart => exact ⟨0, by omega, rfl, by simpa using H1, C1⟩
  case round =>
    clear H1 C1
    obtain ⟨i, hi, rfl, H, C⟩ := hrel
    by_cases hlt : i < 1000
    · have hd1 : decide ((i : Int) < 1000) = true := by simp; omega
      have hpl := H.lt
      go_wp2_with (first
        | ((with_reducible show wpList _ _ _ (⟨some 16, _, _, _, _, _⟩ :: _) _ _); refine wpl_make rfl (.const (.int .i64 1000)) (.const (.int .i64 1000)) 22 rfl tyBytes rfl N (by rw [HN.out]; rfl) (by rw [HN.out]; rfl) (by unfold maxLen; omega) (by omega) ?_; intro w2 O2 C2 hs2')
        | fail)
      have F2 : Filling w2 wr.heap.size N 97 0 := Filling.start O2
      have H2 := H.kept C2 id
      have C2' : Chg (fun _ => False) W w2 := C.trans C2 (fun _ _ h => h)
      have hgp : p < wr.heap.size := hpl
      have hW2 := C.size
      clear O2 C2 C H hs2'
      generalize wr.heap.size = g at *
      go_loopw [4] (fun s4 w3 => ∃ k : Nat, k ≤ N ∧ s4 = .int .i64 k ∧ Filling w3 g N 97 k ∧ Chg (fun q => q = g) w2 w3) (fun s4 _ => N - (intOf s4).toNat)
      case atStart => exact ⟨0, by omega, rfl, F2, Chg.refl _ _⟩
      case round =>
        clear F2
        obtain ⟨k, hk, rfl, F, C3⟩ := hrel
        by_cases hkn : k < N
        · obtain ⟨F', f, u, c⟩ := F.next hkn
          have HF := Lib.hid F'
          clear F' F
          go_wp2_with fail
          go_roundw
          case rel => exact ⟨k + 1, by omega, by go_num, HF.out, C3.setCell (.inr rfl) _⟩
          case measure => simp [intOf]; omega
        · have hkn' : k = N := by omega
          have F3 : Rd wr (.slice (some ⟨g, 0, none⟩) N N) (List.replicate N 97) := Filling.full (by rw [hkn'] at F; exact F)
          have H3 := H2.kept C3 (by omega)
          have C4 : Chg (fun _ => False) W wr := C2'.trans C3 (fun q hq e => by have := HP.out; omega)
          have hkd : decide (k < N) = false := by simp; omega
          clear F H2 C2' C3 hkn'
          go_wp2_with fail
          have hNi : N * i ≤ 1000000 := Nat.le_trans (Nat.mul_le_mul hNl hi) (by decide)
          have hW := hwrite_any p (List.replicate (N * i) 97) (List.replicate N 97) _ wr H3 (hL.kept C4 id id) F3 (fun q hq => by have : g = q := Option.some.inj (rdb_own hq); omega) (by omega) (by rw [List.length_replicate]; omega) (by rw [List.length_replicate]; omega)
          rw [List.replicate_append_replicate, ← Nat.mul_succ] at hW
          ((with_reducible refine hW.mono ?_); rintro e w5 ⟨rfl, H5, C5⟩)
          have C6 : Chg (fun _ => False) W w5 := C4.trans C5 (fun q hq e => by have := HP.out; omega)
          have H6 := Lib.hid H5
          clear hW H5 C5 C4 H3 F3
          go_wp2_with fail
          go_roundw
          case rel => exact ⟨i + 1, by omega, by go_num, H6.out, C6⟩
          case measure => simp [intOf]; omega
    · have hi' : i = 1000 := by omega
      have hd1 : decide ((i : Int) < 1000) = false := by simp; omega
      have hX : hexB (dg (List.replicate (N * i) 97)) = [99, 100, 99, 55, 54, 101, 53, 99, 57, 57, 49, 52, 102, 98, 57, 50, 56, 49, 97, 49, 99, 55, 101, 50, 56, 52, 100, 55, 51, 101, 54, 55, 102, 49, 56, 48, 57, 97, 52, 56, 97, 52, 57, 55, 50, 48, 48, 101, 48, 52, 54, 100, 51, 57, 99, 99, 99, 55, 49, 49, 50, 99, 100, 48] := by rw [hi', HN.out]; exact hex_million
      have hXl : (List.replicate (N * i) (97 : UInt8)).length ≤ 4000000000000000000 := by
        rw [List.length_replicate]
        exact Nat.le_trans (Nat.mul_le_mul hNl hi) (by decide)
      have HX := Lib.hid hX
      have HXL := Lib.hid hXl
      clear hX hXl hi'
      generalize List.replicate (N * i) (97 : UInt8) = XM at *
      have hpl := H.lt
      go_wp2_with (first
        | ((with_reducible show wpList _ _ _ (⟨some 29, _, _, _, _, _⟩ :: _) _ _); refine wpl_make rfl (.const (.int .i64 20)) (.const (.int .i64 20)) 22 rfl tyBytes rfl N2 (by rw [HN2.out]; rfl) (by rw [HN2.out]; rfl) (by unfold maxLen; omega) (by omega) ?_; intro w2 O2 C2 hs2')
        | fail)
      have F2 : Filling w2 wr.heap.size N2 11 0 := Filling.start O2
      have H2 := H.kept C2 id
      have C2' : Chg (fun _ => False) W w2 := C.trans C2 (fun _ _ h => h)
      have hgp : p < wr.heap.size := hpl
      have hg2 : wr.heap.size < w2.heap.size := hs2'
      clear O2 C2 C H hs2'
      generalize wr.heap.size = g at *
      go_loopw [6] (fun s6 w3 => ∃ k : Nat, k ≤ N2 ∧ s6 = .int .i64 k ∧ Filling w3 g N2 11 k ∧ Chg (fun q => q = g) w2 w3) (fun s6 _ => N2 - (intOf s6).toNat)
      case atStart => exact ⟨0, by omega, rfl, F2, Chg.refl _ _⟩
      case round =>
        clear F2
        obtain ⟨k, hk, rfl, F, C3⟩ := hrel
        by_cases hkn : k < N2
        · have hkd : decide ((k : Int) < 20) = true := by have := HN2.out; simp; omega
          obtain ⟨F', f, u, c⟩ := F.next hkn
          have HF := Lib.hid F'
          clear F' F
          go_wp2_with fail
          go_roundw
          case rel => exact ⟨k + 1, by omega, by go_num, HF.out, C3.setCell (.inr rfl) _⟩
          case measure => simp [intOf]; omega
        · have hkd : decide ((k : Int) < 20) = false := by have := HN2.out; simp; omega
          have hkn' : k = N2 := by omega
          have F3 : Rd wr (.slice (some ⟨g, 0, none⟩) N2 N2) (List.replicate N2 11) := Filling.full (by rw [hkn'] at F; exact F)
          have H3 := H2.kept C3 (by omega)
          have C4 : Chg (fun _ => False) W wr := C2'.trans C3 (fun q hq e => by have := HP.out; omega)
          have hgw : g < wr.heap.size := Nat.lt_of_lt_of_le hg2 C3.size
          clear F H2 C2' C3 hkn'
          go_wp2_with (first
            | ((with_reducible show wpList _ _ _ (⟨some 37, _, _, _, _, _⟩ :: _) _ _); refine wpl_make rfl (.const (.int .i64 131)) (.const (.int .i64 131)) 22 rfl tyBytes rfl N3 (by rw [HN3.out]; rfl) (by rw [HN3.out]; rfl) (by unfold maxLen; omega) (by omega) ?_; intro w5 O5 C5 hs5)
            | fail)
          have F5 : Filling w5 wr.heap.size N3 170 0 := Filling.start O5
          have H5 := H3.kept C5 id
          have R5 := F3.kept C5 (fun _ _ => id)
          have C5' : Chg (fun _ => False) W w5 := C4.trans C5 (fun _ _ h => h)
          clear O5 C5 C4 H3 F3 hs5
          generalize wr.heap.size = g3 at *
          go_loopw [8] (fun s8 w6 => ∃ k : Nat, k ≤ N3 ∧ s8 = .int .i64 k ∧ Filling w6 g3 N3 170 k ∧ Chg (fun q => q = g3) w5 w6) (fun s8 _ => N3 - (intOf s8).toNat)
          case atStart => exact ⟨0, by omega, rfl, F5, Chg.refl _ _⟩
          case round =>
            clear F5 hkd hkn hk
            obtain ⟨k2, hk, rfl, F, C6⟩ := hrel
            by_cases hkn : k2 < N3
            · have hkd : decide ((k2 : Int) < 131) = true := by have := HN3.out; simp; omega
              obtain ⟨F', f, u, c⟩ := F.next hkn
              have HF := Lib.hid F'
              clear F' F
              go_wp2_with fail
              go_roundw
              case rel => exact ⟨k2 + 1, by omega, by go_num, HF.out, C6.setCell (.inr rfl) _⟩
              case measure => simp [intOf]; omega
            · have hkd : decide ((k2 : Int) < 131) = false := by have := HN3.out; simp; omega
              have hkn' : k2 = N3 := by omega
              have F7 : Rd wr (.slice (some ⟨g3, 0, none⟩) N3 N3) (List.replicate N3 170) := Filling.full (by rw [hkn'] at F; exact F)
              have H7 := H5.kept C6 (by omega)
              have R7 := R5.kept C6 (fun q hq => by have : g = q := Option.some.inj (rdb_own hq); omega)
              have C7 : Chg (fun _ => False) W wr := C5'.trans C6 (fun q hq e => by have := HP.out; omega)
              clear F H5 R5 C5' C6 hkn'
              have kc := fun (w : World) (C : Array Value) (n c : Nat) => Lib.run_convert_bytes_const (P := Tryd.prog) w 22 5 C n c Tryd.underlying22 Tryd.underlying5
              have hst := strB_toList
              go_wp2_with fail
              ((with_reducible refine (right_any wr (hL.kept C7 id id)).mono ?_); rintro e w8 ⟨rfl, D8⟩)
              have K8 := Lib.hid D8
              clear D8
              go_wp2_with fail
              ((with_reducible refine (sum_arr (.slice none 0 0) [] w8 (hL.kept (C7.trans K8.out (fun _ _ h => h)) id id) (Rd.nil w8) (by decide)).mono ?_); rintro e w9 ⟨rfl, D9⟩)
              have K9 := Lib.hid (K8.out.trans D9 (fun _ _ h => h))
              clear D9 K8
              go_wp2_with fail
              ((with_reducible refine (hex_arr (dg []) w9 (dg_length _)).mono ?_); rintro e w10 ⟨rfl, Ew10⟩)
              rw [hex_empty]
              have K10 := Lib.hid (K9.out.trans Ew10 (fun _ _ h => h))
              clear Ew10
              have Ra1 : Rd (w10.alloc (.cells #[.int .u8 97, .int .u8 98, .int .u8 99, .int .u8 100, .int .u8 98, .int .u8 99, .int .u8 100, .int .u8 101, .int .u8 99, .int .u8 100, .int .u8 101, .int .u8 102, .int .u8 100, .int .u8 101, .int .u8 102, .int .u8 103, .int .u8 101, .int .u8 102, .int .u8 103, .int .u8 104, .int .u8 102, .int .u8 103, .int .u8 104, .int .u8 105, .int .u8 103, .int .u8 104, .int .u8 105, .int .u8 106, .int .u8 104, .int .u8 105, .int .u8 106, .int .u8 107, .int .u8 105, .int .u8 106, .int .u8 107, .int .u8 108, .int .u8 106, .int .u8 107, .int .u8 108, .int .u8 109, .int .u8 107, .int .u8 108, .int .u8 109, .int .u8 110, .int .u8 108, .int .u8 109, .int .u8 110, .int .u8 111, .int .u8 109, .int .u8 110, .int .u8 111, .int .u8 112, .int .u8 110, .int .u8 111, .int .u8 112, .int .u8 113] 5 (56, 57))) (.slice (some ⟨w10.heap.size, 0, none⟩) 56 56) [97, 98, 99, 100, 98, 99, 100, 101, 99, 100, 101, 102, 100, 101, 102, 103, 101, 102, 103, 104, 102, 103, 104, 105, 103, 104, 105, 106, 104, 105, 106, 107, 105, 106, 107, 108, 106, 107, 108, 109, 107, 108, 109, 110, 108, 109, 110, 111, 109, 110, 111, 112, 110, 111, 112, 113] := rd_56 w10
              have Ca1 : Chg (fun _ => False) w10 (w10.alloc (.cells #[.int .u8 97, .int .u8 98, .int .u8 99, .int .u8 100, .int .u8 98, .int .u8 99, .int .u8 100, .int .u8 101, .int .u8 99, .int .u8 100, .int .u8 101, .int .u8 102, .int .u8 100, .int .u8 101, .int .u8 102, .int .u8 103, .int .u8 101, .int .u8 102, .int .u8 103, .int .u8 104, .int .u8 102, .int .u8 103, .int .u8 104, .int .u8 105, .int .u8 103, .int .u8 104, .int .u8 105, .int .u8 106, .int .u8 104, .int .u8 105, .int .u8 106, .int .u8 107, .int .u8 105, .int .u8 106, .int .u8 107, .int .u8 108, .int .u8 106, .int .u8 107, .int .u8 108, .int .u8 109, .int .u8 107, .int .u8 108, .int .u8 109, .int .u8 110, .int .u8 108, .int .u8 109, .int .u8 110, .int .u8 111, .int .u8 109, .int .u8 110, .int .u8 111, .int .u8 112, .int .u8 110, .int .u8 111, .int .u8 112, .int .u8 113] 5 (56, 57))) := (Chg.refl _ w10).alloc _
              have La := hL.kept ((C7.trans K10.out (fun _ _ h => h)).trans Ca1 (fun _ _ h => h)) id id
              have Ka := Lib.hid (K10.out.trans Ca1 (fun _ _ h => h))
              clear Ca1 K9 K10
              go_wp2_with fail
              ((with_reducible refine (sum_arr _ [97, 98, 99, 100, 98, 99, 100, 101, 99, 100, 101, 102, 100, 101, 102, 103, 101, 102, 103, 104, 102, 103, 104, 105, 103, 104, 105, 106, 104, 105, 106, 107, 105, 106, 107, 108, 106, 107, 108, 109, 107, 108, 109, 110, 108, 109, 110, 111, 109, 110, 111, 112, 110, 111, 112, 113] _ La Ra1 (by decide)).mono ?_); rintro e w11 ⟨rfl, D11⟩)
              have K11 := Lib.hid (Ka.out.trans D11 (fun _ _ h => h))
              clear D11 La Ra1 Ka
              go_wp2_with fail
              ((with_reducible refine (hex_arr (dg [97, 98, 99, 100, 98, 99, 100, 101, 99, 100, 101, 102, 100, 101, 102, 103, 101, 102, 103, 104, 102, 103, 104, 105, 103, 104, 105, 106, 104, 105, 106, 107, 105, 106, 107, 108, 106, 107, 108, 109, 107, 108, 109, 110, 108, 109, 110, 111, 109, 110, 111, 112, 110, 111, 112, 113]) w11 (dg_length _)).mono ?_); rintro e w12 ⟨rfl, Ew12⟩)
              rw [hex_two]
              have K12 := Lib.hid (K11.out.trans Ew12 (fun _ _ h => h))
              clear Ew12
              go_wp2_with fail
              ((with_reducible refine (done_arr p XM w12 (H7.kept K12.out id) (hL.kept (C7.trans K12.out (fun _ _ h => h)) id id) (by omega) HXL.out).mono ?_); rintro e w13 ⟨rfl, D13⟩)
              have K13 := Lib.hid (K12.out.trans D13 (fun _ _ h => h))
              clear D13 K12 K11
              go_wp2_with fail
              ((with_reducible refine (hex_arr (dg XM) w13 (dg_length _)).mono ?_); rintro e w14 ⟨rfl, Ew14⟩)
              rw [HX.out]
              have K14 := Lib.hid (K13.out.trans Ew14 (fun _ _ h => h))
              clear Ew14
              have Rb1 : Rd (w14.alloc (.cells #[.int .u8 72, .int .u8 105, .int .u8 32, .int .u8 84, .int .u8 104, .int .u8 101, .int .u8 114, .int .u8 101] 5 (8, 9))) (.slice (some ⟨w14.heap.size, 0, none⟩) 8 8) [72, 105, 32, 84, 104, 101, 114, 101] := rd_8 w14
              have Cb1 : Chg (fun _ => False) w14 (w14.alloc (.cells #[.int .u8 72, .int .u8 105, .int .u8 32, .int .u8 84, .int .u8 104, .int .u8 101, .int .u8 114, .int .u8 101] 5 (8, 9))) := (Chg.refl _ w14).alloc _
              have hk1 : hexB (kdg (List.replicate N2 11) [72, 105, 32, 84, 104, 101, 114, 101]) = [98, 48, 51, 52, 52, 99, 54, 49, 100, 56, 100, 98, 51, 56, 53, 51, 53, 99, 97, 56, 97, 102, 99, 101, 97, 102, 48, 98, 102, 49, 50, 98, 56, 56, 49, 100, 99, 50, 48, 48, 99, 57, 56, 51, 51, 100, 97, 55, 50, 54, 101, 57, 51, 55, 54, 99, 50, 101, 51, 50, 99, 102, 102, 55] := (by rw [HN2.out]; exact hex_k1)
              have Kb := Lib.hid (K14.out.trans Cb1 (fun _ _ h => h))
              clear Cb1 K13 K14
              go_wp2_with fail
              ((with_reducible refine (keyed_arr _ _ (List.replicate N2 11) [72, 105, 32, 84, 104, 101, 114, 101] _ (hL.kept (C7.trans Kb.out (fun _ _ h => h)) id id) (R7.kept Kb.out (fun _ _ => id)) Rb1 (by rw [List.length_replicate]; omega) (by decide)).mono ?_); rintro e w15 ⟨rfl, D15⟩)
              have K15 := Lib.hid (Kb.out.trans D15 (fun _ _ h => h))
              have HK1 := Lib.hid hk1
              clear D15 Rb1 Kb hk1
              go_wp2_with fail
              ((with_reducible refine (hex_arr (kdg (List.replicate N2 11) [72, 105, 32, 84, 104, 101, 114, 101]) w15 (kdg_length _ _)).mono ?_); rintro e w16 ⟨rfl, Ew16⟩)
              rw [HK1.out]
              have K16 := Lib.hid (K15.out.trans Ew16 (fun _ _ h => h))
              clear Ew16
              have Rc1 : Rd (w16.alloc (.cells #[.int .u8 74, .int .u8 101, .int .u8 102, .int .u8 101] 5 (4, 5))) (.slice (some ⟨w16.heap.size, 0, none⟩) 4 4) [74, 101, 102, 101] := rd_4 w16
              have Cc1 : Chg (fun _ => False) w16 (w16.alloc (.cells #[.int .u8 74, .int .u8 101, .int .u8 102, .int .u8 101] 5 (4, 5))) := (Chg.refl _ w16).alloc _
              have hz1 : (w16.alloc (.cells #[.int .u8 74, .int .u8 101, .int .u8 102, .int .u8 101] 5 (4, 5))).heap.size = w16.heap.size + 1 := by simp
              have Rd1 : Rd ((w16.alloc (.cells #[.int .u8 74, .int .u8 101, .int .u8 102, .int .u8 101] 5 (4, 5))).alloc (.cells #[.int .u8 119, .int .u8 104, .int .u8 97, .int .u8 116, .int .u8 32, .int .u8 100, .int .u8 111, .int .u8 32, .int .u8 121, .int .u8 97, .int .u8 32, .int .u8 119, .int .u8 97, .int .u8 110, .int .u8 116, .int .u8 32, .int .u8 102, .int .u8 111, .int .u8 114, .int .u8 32, .int .u8 110, .int .u8 111, .int .u8 116, .int .u8 104, .int .u8 105, .int .u8 110, .int .u8 103, .int .u8 63] 5 (28, 29))) (.slice (some ⟨(w16.alloc (.cells #[.int .u8 74, .int .u8 101, .int .u8 102, .int .u8 101] 5 (4, 5))).heap.size, 0, none⟩) 28 28) [119, 104, 97, 116, 32, 100, 111, 32, 121, 97, 32, 119, 97, 110, 116, 32, 102, 111, 114, 32, 110, 111, 116, 104, 105, 110, 103, 63] := rd_28 (w16.alloc (.cells #[.int .u8 74, .int .u8 101, .int .u8 102, .int .u8 101] 5 (4, 5)))
              have Cd1 : Chg (fun _ => False) (w16.alloc (.cells #[.int .u8 74, .int .u8 101, .int .u8 102, .int .u8 101] 5 (4, 5))) ((w16.alloc (.cells #[.int .u8 74, .int .u8 101, .int .u8 102, .int .u8 101] 5 (4, 5))).alloc (.cells #[.int .u8 119, .int .u8 104, .int .u8 97, .int .u8 116, .int .u8 32, .int .u8 100, .int .u8 111, .int .u8 32, .int .u8 121, .int .u8 97, .int .u8 32, .int .u8 119, .int .u8 97, .int .u8 110, .int .u8 116, .int .u8 32, .int .u8 102, .int .u8 111, .int .u8 114, .int .u8 32, .int .u8 110, .int .u8 111, .int .u8 116, .int .u8 104, .int .u8 105, .int .u8 110, .int .u8 103, .int .u8 63] 5 (28, 29))) := (Chg.refl _ _).alloc _
              rw [hz1] at Rd1
              have kc2 : (convert 22 22 (.slice (some ⟨w16.heap.size + 1, 0, none⟩) 28 28)).run Tryd.prog ((w16.alloc (.cells #[.int .u8 74, .int .u8 101, .int .u8 102, .int .u8 101] 5 (4, 5))).alloc (.cells #[.int .u8 119, .int .u8 104, .int .u8 97, .int .u8 116, .int .u8 32, .int .u8 100, .int .u8 111, .int .u8 32, .int .u8 121, .int .u8 97, .int .u8 32, .int .u8 119, .int .u8 97, .int .u8 110, .int .u8 116, .int .u8 32, .int .u8 102, .int .u8 111, .int .u8 114, .int .u8 32, .int .u8 110, .int .u8 111, .int .u8 116, .int .u8 104, .int .u8 105, .int .u8 110, .int .u8 103, .int .u8 63] 5)) = .ok (.slice (some ⟨w16.heap.size + 1, 0, none⟩) 28 28) ((w16.alloc (.cells #[.int .u8 74, .int .u8 101, .int .u8 102, .int .u8 101] 5 (4, 5))).alloc (.cells #[.int .u8 119, .int .u8 104, .int .u8 97, .int .u8 116, .int .u8 32, .int .u8 100, .int .u8 111, .int .u8 32, .int .u8 121, .int .u8 97, .int .u8 32, .int .u8 119, .int .u8 97, .int .u8 110, .int .u8 116, .int .u8 32, .int .u8 102, .int .u8 111, .int .u8 114, .int .u8 32, .int .u8 110, .int .u8 111, .int .u8 116, .int .u8 104, .int .u8 105, .int .u8 110, .int .u8 103, .int .u8 63] 5 (28, 29))) := (by have := kc (w16.alloc (.cells #[.int .u8 74, .int .u8 101, .int .u8 102, .int .u8 101] 5 (4, 5))) #[.int .u8 119, .int .u8 104, .int .u8 97, .int .u8 116, .int .u8 32, .int .u8 100, .int .u8 111, .int .u8 32, .int .u8 121, .int .u8 97, .int .u8 32, .int .u8 119, .int .u8 97, .int .u8 110, .int .u8 116, .int .u8 32, .int .u8 102, .int .u8 111, .int .u8 114, .int .u8 32, .int .u8 110, .int .u8 111, .int .u8 116, .int .u8 104, .int .u8 105, .int .u8 110, .int .u8 103, .int .u8 63] 28 28; rw [hz1] at this; exact this)
              have Rc2 := Rc1.kept Cd1 (fun _ _ => id)
              have Kd := Lib.hid ((K16.out.trans Cc1 (fun _ _ h => h)).trans Cd1 (fun _ _ h => h))
              clear Cc1 Cd1 K15 Rc1 hz1 HK1
              go_wp2_with fail
              ((with_reducible refine (keyed_arr _ _ [74, 101, 102, 101] [119, 104, 97, 116, 32, 100, 111, 32, 121, 97, 32, 119, 97, 110, 116, 32, 102, 111, 114, 32, 110, 111, 116, 104, 105, 110, 103, 63] _ (hL.kept (C7.trans Kd.out (fun _ _ h => h)) id id) Rc2 Rd1 (by decide) (by decide)).mono ?_); rintro e w17 ⟨rfl, D17⟩)
              have K17 := Lib.hid (Kd.out.trans D17 (fun _ _ h => h))
              clear D17 Rc2 Rd1 Kd K16
              go_wp2_with fail
              ((with_reducible refine (hex_arr (kdg [74, 101, 102, 101] [119, 104, 97, 116, 32, 100, 111, 32, 121, 97, 32, 119, 97, 110, 116, 32, 102, 111, 114, 32, 110, 111, 116, 104, 105, 110, 103, 63]) w17 (kdg_length _ _)).mono ?_); rintro e w18 ⟨rfl, Ew18⟩)
              rw [hex_k2]
              have K18 := Lib.hid (K17.out.trans Ew18 (fun _ _ h => h))
              clear Ew18
              have Rf1 : Rd (w18.alloc (.cells #[.int .u8 84, .int .u8 101, .int .u8 115, .int .u8 116, .int .u8 32, .int .u8 85, .int .u8 115, .int .u8 105, .int .u8 110, .int .u8 103, .int .u8 32, .int .u8 76, .int .u8 97, .int .u8 114, .int .u8 103, .int .u8 101, .int .u8 114, .int .u8 32, .int .u8 84, .int .u8 104, .int .u8 97, .int .u8 110, .int .u8 32, .int .u8 66, .int .u8 108, .int .u8 111, .int .u8 99, .int .u8 107, .int .u8 45, .int .u8 83, .int .u8 105, .int .u8 122, .int .u8 101, .int .u8 32, .int .u8 75, .int .u8 101, .int .u8 121, .int .u8 32, .int .u8 45, .int .u8 32, .int .u8 72, .int .u8 97, .int .u8 115, .int .u8 104, .int .u8 32, .int .u8 75, .int .u8 101, .int .u8 121, .int .u8 32, .int .u8 70, .int .u8 105, .int .u8 114, .int .u8 115, .int .u8 116] 5 (54, 55))) (.slice (some ⟨w18.heap.size, 0, none⟩) 54 54) [84, 101, 115, 116, 32, 85, 115, 105, 110, 103, 32, 76, 97, 114, 103, 101, 114, 32, 84, 104, 97, 110, 32, 66, 108, 111, 99, 107, 45, 83, 105, 122, 101, 32, 75, 101, 121, 32, 45, 32, 72, 97, 115, 104, 32, 75, 101, 121, 32, 70, 105, 114, 115, 116] := rd_54 w18
              have Cf1 : Chg (fun _ => False) w18 (w18.alloc (.cells #[.int .u8 84, .int .u8 101, .int .u8 115, .int .u8 116, .int .u8 32, .int .u8 85, .int .u8 115, .int .u8 105, .int .u8 110, .int .u8 103, .int .u8 32, .int .u8 76, .int .u8 97, .int .u8 114, .int .u8 103, .int .u8 101, .int .u8 114, .int .u8 32, .int .u8 84, .int .u8 104, .int .u8 97, .int .u8 110, .int .u8 32, .int .u8 66, .int .u8 108, .int .u8 111, .int .u8 99, .int .u8 107, .int .u8 45, .int .u8 83, .int .u8 105, .int .u8 122, .int .u8 101, .int .u8 32, .int .u8 75, .int .u8 101, .int .u8 121, .int .u8 32, .int .u8 45, .int .u8 32, .int .u8 72, .int .u8 97, .int .u8 115, .int .u8 104, .int .u8 32, .int .u8 75, .int .u8 101, .int .u8 121, .int .u8 32, .int .u8 70, .int .u8 105, .int .u8 114, .int .u8 115, .int .u8 116] 5 (54, 55))) := (Chg.refl _ w18).alloc _
              have hk3 : hexB (kdg (List.replicate N3 170) [84, 101, 115, 116, 32, 85, 115, 105, 110, 103, 32, 76, 97, 114, 103, 101, 114, 32, 84, 104, 97, 110, 32, 66, 108, 111, 99, 107, 45, 83, 105, 122, 101, 32, 75, 101, 121, 32, 45, 32, 72, 97, 115, 104, 32, 75, 101, 121, 32, 70, 105, 114, 115, 116]) = [54, 48, 101, 52, 51, 49, 53, 57, 49, 101, 101, 48, 98, 54, 55, 102, 48, 100, 56, 97, 50, 54, 97, 97, 99, 98, 102, 53, 98, 55, 55, 102, 56, 101, 48, 98, 99, 54, 50, 49, 51, 55, 50, 56, 99, 53, 49, 52, 48, 53, 52, 54, 48, 52, 48, 102, 48, 101, 101, 51, 55, 102, 53, 52] := (by rw [HN3.out]; exact hex_k3)
              have Kf := Lib.hid (K18.out.trans Cf1 (fun _ _ h => h))
              have HK3 := Lib.hid hk3
              clear Cf1 K17 K18 hk3
              go_wp2_with fail
              ((with_reducible refine (keyed_arr _ _ (List.replicate N3 170) [84, 101, 115, 116, 32, 85, 115, 105, 110, 103, 32, 76, 97, 114, 103, 101, 114, 32, 84, 104, 97, 110, 32, 66, 108, 111, 99, 107, 45, 83, 105, 122, 101, 32, 75, 101, 121, 32, 45, 32, 72, 97, 115, 104, 32, 75, 101, 121, 32, 70, 105, 114, 115, 116] _ (hL.kept (C7.trans Kf.out (fun _ _ h => h)) id id) (F7.kept Kf.out (fun _ _ => id)) Rf1 (by rw [List.length_replicate]; omega) (by decide)).mono ?_); rintro e w19 ⟨rfl, D19⟩)
              have K19 := Lib.hid (Kf.out.trans D19 (fun _ _ h => h))
              clear D19 Rf1 Kf
              go_wp2_with fail
              ((with_reducible refine (hex_arr (kdg (List.replicate N3 170) [84, 101, 115, 116, 32, 85, 115, 105, 110, 103, 32, 76, 97, 114, 103, 101, 114, 32, 84, 104, 97, 110, 32, 66, 108, 111, 99, 107, 45, 83, 105, 122, 101, 32, 75, 101, 121, 32, 45, 32, 72, 97, 115, 104, 32, 75, 101, 121, 32, 70, 105, 114, 115, 116]) w19 (kdg_length _ _)).mono ?_); rintro e w20 ⟨rfl, Ew20⟩)
              rw [HK3.out]
              have K20 := Lib.hid (K19.out.trans Ew20 (fun _ _ h => h))
              clear Ew20
              go_wp2_with fail
              go_ret
              exact ⟨rfl, C7.trans K20.out (fun _ _ h => h)⟩
end Go.Proofs.YtafgeppdchnceaaDoor
