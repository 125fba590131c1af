import Derived.Test.YtafgeppdchnceaaDoorDKeyed
set_option linter.unusedVariables false
namespace Go.Proofs.YtafgeppdchnceaaDoor
open Go Go.RowKit Go.Sat
theorem wrap_small (n : Int) (h0 : -1000000 ≤ n) (h1 : n ≤ 1000000) : IntKind.i64.wrap n = n := by
  simp [IntKind.wrap, IntKind.signed, IntKind.bits]; omega
theorem digit_num : ∀ n : Fin 16, (if (n.val : Int) < 10 then (48 : Int) + n.val else 97 + n.val - 10) = ((hexD n.val).toNat : Int) := by decide +kernel
set_option maxRecDepth 100000 in
theorem digit_any (n : Nat) (hn : n < 16) (w : World) : Calls Tryd.prog 41 #[.int .i64 (n : Int)] w fun e w' => e = .returned (.int .u8 ((hexD n).toNat : Int)) ∧ w = w' := by
  have h := digit_num ⟨n, hn⟩
  simp only at h
  go_enter Tryd.func41, Tryd.ntmps41
  by_cases h1 : (n : Int) < 10
  · rw [if_pos h1] at h
    go_wp2_with fail
    go_ret
    refine ⟨?_, rfl⟩
    rw [← h]; simp; try omega
  · rw [if_neg h1] at h
    go_wp2_with fail
    go_ret
    refine ⟨?_, rfl⟩
    rw [← h]; simp; try omega

set_option maxRecDepth 100000 in
set_option maxHeartbeats 1600000 in
theorem rhex_any (l : List UInt8) (w : World) (hl : l.length = 32) :
    Calls Tryd.prog 23 #[.agg (bcells l).toArray] w fun e w' => e = .returned (.string (strB (hexB l))) ∧ Chg (fun _ => False) w w' := by
  go_enter Tryd.func23, Tryd.ntmps23
  go_wp2_with fail
  have B1 := Blk.new w 34 (bcells l).toArray
  have C1 : Chg (fun _ => False) w (w.alloc (.cells (bcells l).toArray 34)) := (Chg.refl _ w).alloc _
  generalize hw1 : w.alloc (.cells (bcells l).toArray 34) = w1 at *
  clear hw1
  go_loopw [3, 4] (fun v i wr => ∃ k : Nat, k ≤ 32 ∧ i = .int .i64 k ∧ Own wr 5 1 v (2 * k) (bcells (hexB (l.take k))) ∧ Blk wr w.heap.size 34 (bcells l).toArray ∧ Chg (fun _ => False) w wr ∧ ∀ j, v.ownBlock = some j → w.heap.size < j) (fun _ i _ => 32 - (intOf i).toNat)
  case atStart => exact ⟨0, Nat.zero_le _, rfl, World.ownsRow_nil _ _ _ _, B1, C1, fun j hj => by simp [Value.ownBlock] at hj⟩
  case round =>
    obtain ⟨k, hk, rfl, ho, B, hc, hb⟩ := hrel
    obtain ⟨ao, cap, rfl, hcap⟩ := ho.form
    by_cases hlt : k < 32
    · have hkl : k < l.length := by omega
      have hnext := hexB_take l k hkl
      have c0 : wr.cell? ⟨w.heap.size, k, none⟩ = some (.int .u8 (l[k].toNat : Int)) := by
        rw [B.cell, List.getElem?_toArray, bcells_get, List.getElem?_eq_getElem hkl]; rfl
      have hbt := l[k].toNat_lt
      generalize l[k] = b at hnext c0 hbt
      have HN := Lib.hid hnext
      have q1 : IntKind.i64.wrap ((IntKind.i64.wrap (b.toNat : Int)).tdiv 16) = ((b.toNat / 16 : Nat) : Int) := by
        rw [wrap_small (b.toNat : Int) (by omega) (by omega), Int.tdiv_eq_ediv_of_nonneg (by omega), wrap_small _ (by omega) (by omega)]; omega
      have q2 : (IntKind.i64.wrap (b.toNat : Int)).tmod 16 = ((b.toNat % 16 : Nat) : Int) := by
        rw [wrap_small (b.toNat : Int) (by omega) (by omega), Int.tmod_eq_emod_of_nonneg (by omega)]; omega
      have H1 := Lib.hid q1
      have H2 := Lib.hid q2
      clear hnext q1 q2
      go_wp2_with fail
      have hKeep : ∀ X : World, Chg (fun j => w.heap.size < j) wr X → X.cell? ⟨w.heap.size, k, none⟩ = some (.int .u8 (b.toNat : Int)) ∧ Chg (fun j => w.heap.size < j) wr X := fun X h => ⟨by rw [h.cell (World.block_lt_of_cell? wr _ c0) (by simp)]; exact c0, h⟩
      have hz := hKeep _ ((Chg.refl (fun j => w.heap.size < j) wr).drew)
      clear c0
      go_region_held3 (fun X => X.cell? ⟨w.heap.size, k, none⟩ = some (.int .u8 (b.toNat : Int)) ∧ Chg (fun j => w.heap.size < j) wr X)
        (first | assumption | exact hKeep _ (by assumption) | exact hKeep _ (((Chg.refl (fun j => w.heap.size < j) wr).alloc _).drew))
        (first
          | (go_at_call 41; rw [H1.out]; refine (digit_any (b.toNat / 16) (by omega) _).mono ?_; rintro e w' ⟨rfl, rfl⟩)
          | (go_at_call 41; rw [H2.out]; refine (digit_any (b.toNat % 16) (by omega) _).mono ?_; rintro e w' ⟨rfl, rfl⟩)
          | (refine op_append_if (by rfl) tyBytes ((ho.alloc _).drew) (Sl.drew (Sl.built wr #[.int .u8 ((hexD (b.toNat / 16)).toNat : Int), .int .u8 ((hexD (b.toNat % 16)).toNat : Int)] _ 1 2 rfl (by simp [Value.oneCell']) (by unfold maxLen; omega))) rfl rfl (by unfold maxLen; omega) (by omega) ?_; intro ao4 cap4 w4 hown4 hgr4 hblk4; have hck := Chg.grown (((Chg.refl (fun j => w.heap.size < j) wr).alloc _).drew) hgr4 (fun j hj => .inr (hb j hj)))
          | fail)
      go_wp2_with fail
      have hBl := B.lt
      refine ⟨⟨k + 1, by omega, rfl, hown4.cast (by omega) (by rw [HN.out]; simp [bcells]), B.kept hck (by simp), hc.trans hck (fun q hq h => by omega), fun j hj => ?_⟩, by simp [intOf]; omega⟩
      rcases hblk4 with h | h
      · rw [h] at hj; exact hb j hj
      · rw [h] at hj; simp at hj; omega
    · obtain rfl : k = 32 := by omega
      rw [List.take_of_length_le (by omega)] at ho
      have hrd : Rd wr (.slice ao (2 * 32) cap) (hexB l) := Own.rd (ho.cast (by simp [hl]) rfl)
      go_wp2_with ((with_reducible show wpList _ _ _ (⟨some 25, _, _, _, _, _⟩ :: _) _ _); refine wpl_str (o := ⟨some 25, _, _, _, _, _⟩) rfl 22 9 (.tmp 24) rfl Tryd.underlying22 Tryd.underlying5 Tryd.underlying9 (hrd) rfl ?_)
      go_ret
      exact ⟨rfl, hc⟩

end Go.Proofs.YtafgeppdchnceaaDoor
