import Derived.Test.YtafgeppdchnceaaDoorHashS
set_option linter.unusedVariables false
namespace Go.Proofs.YtafgeppdchnceaaDoor
open Go Go.RowKit Go.Sat

/-- The sixteen digits. -/
def digitsL : List UInt8 := [48, 49, 50, 51, 52, 53, 54, 55, 56, 57, 97, 98, 99, 100, 101, 102]
def hexD (n : Nat) : UInt8 := digitsL.getD n 48
def hexB : List UInt8 → List UInt8
  | [] => []
  | b :: l => hexD (b.toNat / 16) :: hexD (b.toNat % 16) :: hexB l
@[simp] theorem hexB_length (l : List UInt8) : (hexB l).length = 2 * l.length := by
  induction l with
  | nil => rfl
  | cons b l ih => simp [hexB, ih]; omega
theorem hexB_append (l r : List UInt8) : hexB (l ++ r) = hexB l ++ hexB r := by
  induction l with
  | nil => rfl
  | cons b l ih => simp [hexB, ih]
theorem hexB_take (l : List UInt8) (k : Nat) (h : k < l.length) : hexB (l.take (k + 1)) = hexB (l.take k) ++ [hexD (l[k].toNat / 16), hexD (l[k].toNat % 16)] := by
  rw [List.take_succ_eq_append_getElem h, hexB_append]; rfl

theorem dig_get (n : Nat) (h : n < (⟨#[48, 49, 50, 51, 52, 53, 54, 55, 56, 57, 97, 98, 99, 100, 101, 102]⟩ : ByteArray).size) : (⟨#[48, 49, 50, 51, 52, 53, 54, 55, 56, 57, 97, 98, 99, 100, 101, 102]⟩ : ByteArray)[n] = hexD n := by
  have h' : n < 16 := h
  exact (by decide : ∀ i : Fin 16, (⟨#[48, 49, 50, 51, 52, 53, 54, 55, 56, 57, 97, 98, 99, 100, 101, 102]⟩ : ByteArray)[i.val]'(i.isLt) = hexD i.val) ⟨n, h'⟩
theorem idInfo {l : List UInt8} (h : l.length = 32) : (Tryd.prog.info? 34).map (·.size) = some (bcells l).toArray.size := by
  have : (Tryd.prog.info? 34).map (·.size) = some 32 := by kernel_rfl
  simpa [h] using this

set_option maxRecDepth 100000 in
set_option maxHeartbeats 1600000 in
theorem hex_any (l : List UInt8) (w : World) (hl : l.length = 32) :
    Calls Tryd.prog 22 #[arrV l] w fun e w' => e = .returned (.string (strB (hexB l))) ∧ Chg (fun _ => False) w w' := by
  unfold arrV
  go_enter Tryd.func22, Tryd.ntmps22
  go_wp2_with (first
    | ((with_reducible show wpList _ _ _ (⟨some 3, .alloc _, _, _, _, _⟩ :: _) _ _); refine wpl_alloc_row rfl 77 rfl Tryd.zeroValue77 ?_; intro w1 B1 hc1 hs1)
    | ((with_reducible show wpList _ _ _ (⟨some 6, .load _ _, _, _, _, _⟩ :: _) _ _); refine wpl_load_row rfl 34 (.tmp 1) rfl rfl ((Blk.new w _ _).kept hc1 id) Tryd.underlying34 (idInfo hl) ?_)
    | fail)
  simp only [World.size_alloc] at B1 hs1
  have C1 : Chg (fun _ => False) w w1 := ((Chg.refl _ w).alloc _).trans hc1 fun _ _ h => h
  clear hc1
  have B1' : Blk w1 (w.heap.size + 1) 77 (bcells (List.replicate 64 0)).toArray := B1
  clear B1
  go_loopw [7] (fun i wr => ∃ k : Nat, k ≤ 32 ∧ i = .int .i64 k ∧ Blk wr (w.heap.size + 1) 77 (bcells (hexB (l.take k) ++ List.replicate (64 - 2 * k) 0)).toArray ∧ Chg (fun j => j = w.heap.size + 1) w1 wr) (fun i _ => 32 - (intOf i).toNat)
  case atStart => exact ⟨0, Nat.zero_le _, rfl, by simpa [hexB] using B1', Chg.refl _ _⟩
  case round =>
    obtain ⟨k, hk, rfl, B, hc⟩ := hrel
    by_cases hlt : k < 32
    · have hkl : k < l.length := by omega
      have hx := fun w => run_index_arr (P := Tryd.prog) (w := w) Tryd.underlying34 Tryd.underlying5 Tryd.sizeOf5 .i64 hl hkl
      have hb := l[k].toNat_lt
      generalize hbe : l[k] = b at hx hb
      have HB := Lib.hid hbe
      clear hbe
      go_wp2_with fail
      refine wp_region_text mixed (by kernel_rfl) ?_
      have hA : (hexB (l.take k)).length = 2 * k := by simp; omega
      have c0 : wr.cell? ⟨w.heap.size + 1, 2 * k, none⟩ = some (.int .u8 0) := by
        rw [B.cell]; simp only [List.getElem?_toArray, bcells_get]
        rw [List.getElem?_append_right (by omega), hA, List.getElem?_replicate, if_pos (by omega)]; rfl
      have c1 : wr.cell? ⟨w.heap.size + 1, 2 * k + 1, none⟩ = some (.int .u8 0) := by
        rw [B.cell]; simp only [List.getElem?_toArray, bcells_get]
        rw [List.getElem?_append_right (by omega), hA, List.getElem?_replicate, if_pos (by omega)]; rfl
      have f0 := B.free (2 * k)
      have f1 := B.free (2 * k + 1)
      go_wp2_with fail
      refine TQ.normal (by kernel_rfl) ?_
      go_wp2_with fail
      go_roundw
      case rel =>
        refine ⟨k + 1, by omega, by go_num, ?_, ?_⟩
        · have e1 := ((B.set (2 * k) (.int .u8 ((hexD (b.toNat / 16)).toNat : Int))).set (2 * k + 1) (.int .u8 ((hexD (b.toNat % 16)).toNat : Int))).drew
          rw [show List.replicate (64 - 2 * k) (0 : UInt8) = 0 :: 0 :: List.replicate (64 - 2 * (k + 1)) 0 from by rw [← List.replicate_succ, ← List.replicate_succ]; congr 1; omega, bset1 hA,
            show hexB (l.take k) ++ hexD (b.toNat / 16) :: 0 :: List.replicate (64 - 2 * (k + 1)) 0 = (hexB (l.take k) ++ [hexD (b.toNat / 16)]) ++ 0 :: List.replicate (64 - 2 * (k + 1)) 0 from by simp, bset1 (by simp [hA])] at e1
          rw [hexB_take l k hkl, HB.out]
          simpa [dig_get] using e1
        · exact ((hc.drew).setCell (.inr rfl) _).setCell (.inr rfl) _
      case measure => simp [intOf]; omega
    · obtain rfl : k = 32 := by omega
      have hrd : Rd wr (.slice (some ⟨w.heap.size + 1, 0, none⟩) 64 64) (hexB l) := by
        have e : hexB (l.take 32) ++ List.replicate (64 - 2 * 32) 0 = hexB l := by rw [List.take_of_length_le (by omega)]; simp
        rw [e] at B
        have := B.rd (by simp [hl]; unfold maxLen; omega)
        simpa [hl] using this
      go_wp2_with ((with_reducible show wpList _ _ _ (⟨some 26, _, _, _, _, _⟩ :: _) _ _); refine wpl_str (o := ⟨some 26, _, _, _, _, _⟩) rfl 22 9 (.tmp 25) rfl Tryd.underlying22 Tryd.underlying5 Tryd.underlying9 (hrd) rfl ?_)
      go_ret
      exact ⟨rfl, C1.trans hc fun q hq h => by omega⟩
end Go.Proofs.YtafgeppdchnceaaDoor
