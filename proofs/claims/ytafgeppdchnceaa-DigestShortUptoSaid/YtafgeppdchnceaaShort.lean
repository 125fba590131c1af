import Derived.Test.YtafgeppdchnceaaHexLaw
set_option linter.unusedVariables false
namespace Go.Proofs.Ytafgeppdchnceaa
open Go Go.RowKit Go.Sat

theorem infoU8 : (Try.prog.info? 5).map (fun i => (i.zero, i.size, i.bytes)) = some (some (.int .u8 0), 1, 1) := by kernel_rfl
theorem tyBytes : SliceTy Try.prog 25 5 1 1 (.int .u8 0) := by
  obtain ⟨i0, hi0, hz0, hz1, hz2⟩ := info_parts infoU8
  exact ⟨Try.underlying25, ⟨i0, hi0, hz0, hz1, hz2⟩, rfl, by decide⟩

theorem op_append_if {P : Program} {d : Option Tmp} {s x : Operand} {t ty : TypeId} {pos : String} {after : Array Edge} {guard : Option (Nat × Bool)} {ys : Nat → Option Bool} {X : Prop} {a : Act} {K : Act → World → Prop} {Q : Exit → Act → World → Prop} {w : World}
    (hwant : Region.wanted ⟨d, .call { callee := .builtin .append, args := #[s, x], argTypes := #[t, t] }, ty, pos, after, guard⟩ ys = true) {e : TypeId} {sz bytes : Nat} {z : Value} (hty : SliceTy P t e sz bytes z)
    {v y : Value} {n m : Nat} {xs news : List Value}
    (hown : Own w e sz v n xs) (hx : Sl w sz y m news) (hs : a.eval s = v) (hy : a.eval x = y) (h63 : n + m ≤ maxLen) (hb : (n + m) * bytes ≤ 140737488355328)
    (h : ∀ ao cap w', Own w' e sz (.slice ao (n + m) cap) (n + m) (xs ++ news) → w.grownBy w' v.ownBlock →
      ((Value.slice ao (n + m) cap).ownBlock = v.ownBlock ∨ (Value.slice ao (n + m) cap).ownBlock = some w.heap.size) → K (a.put d (.slice ao (n + m) cap)) w') :
    if Region.wanted ⟨d, .call { callee := .builtin .append, args := #[s, x], argTypes := #[t, t] }, ty, pos, after, guard⟩ ys = true then Oper.wp P ⟨d, .call { callee := .builtin .append, args := #[s, x], argTypes := #[t, t] }, ty, pos, after, guard⟩ a w K Q else X := by
  rw [if_pos hwant]
  exact op_append s x t rfl hty hown hx hs hy h63 hb h
theorem wrap_small (n : Int) (h0 : -1000000 ≤ n) (h1 : n ≤ 1000000) : IntKind.i64.wrap n = n := by
  simp [IntKind.wrap, IntKind.signed, IntKind.bits]; omega
theorem digit_num : ∀ n : Fin 16, (if (n.val : Int) < 10 then (48 : Int) + n.val else 97 + n.val - 10) = ((hexD n.val).toNat : Int) := by decide +kernel
set_option maxRecDepth 100000 in
theorem digit_any (n : Nat) (hn : n < 16) (w : World) : Calls Try.prog 20 #[.int .i64 (n : Int)] w fun e w' => e = .returned (.int .u8 ((hexD n).toNat : Int)) ∧ w = w' := by
  have h := digit_num ⟨n, hn⟩
  simp only at h
  go_enter Try.func20, Try.ntmps20
  by_cases h1 : (n : Int) < 10
  · rw [if_pos h1] at h
    go_wp2_with fail
    go_ret
    refine ⟨?_, rfl⟩
    rw [← h]; simp; try omega
  · rw [if_neg h1] at h
    go_wp2_with fail
    go_ret
    refine ⟨?_, rfl⟩
    rw [← h]; simp; try omega

set_option maxRecDepth 100000 in
set_option maxHeartbeats 1600000 in
theorem rhex_any (l : List UInt8) (w : World) (hl : l.length = 32) :
    Calls Try.prog 17 #[.agg (bcells l).toArray] w fun e w' => e = .returned (.string (strB (hexB l))) ∧ Chg (fun _ => False) w w' := by
  go_enter Try.func17, Try.ntmps17
  go_wp2_with fail
  have B1 := Blk.new w 24 (bcells l).toArray
  have C1 : Chg (fun _ => False) w (w.alloc (.cells (bcells l).toArray 24)) := (Chg.refl _ w).alloc _
  generalize hw1 : w.alloc (.cells (bcells l).toArray 24) = w1 at *
  clear hw1
  go_loopw [3, 4] (fun v i wr => ∃ k : Nat, k ≤ 32 ∧ i = .int .i64 k ∧ Own wr 5 1 v (2 * k) (bcells (hexB (l.take k))) ∧ Blk wr w.heap.size 24 (bcells l).toArray ∧ Chg (fun _ => False) w wr ∧ ∀ j, v.ownBlock = some j → w.heap.size < j) (fun _ i _ => 32 - (intOf i).toNat)
  case atStart => exact ⟨0, Nat.zero_le _, rfl, World.ownsRow_nil _ _ _ _, B1, C1, fun j hj => by simp [Value.ownBlock] at hj⟩
  case round =>
    obtain ⟨k, hk, rfl, ho, B, hc, hb⟩ := hrel
    obtain ⟨ao, cap, rfl, hcap⟩ := ho.form
    by_cases hlt : k < 32
    · have hkl : k < l.length := by omega
      have hnext := hexB_take l k hkl
      have c0 : wr.cell? ⟨w.heap.size, k, none⟩ = some (.int .u8 (l[k].toNat : Int)) := by
        rw [B.cell, List.getElem?_toArray, bcells_get, List.getElem?_eq_getElem hkl]; rfl
      have hbt := l[k].toNat_lt
      generalize l[k] = b at hnext c0 hbt
      have HN := Lib.hid hnext
      have q1 : IntKind.i64.wrap ((IntKind.i64.wrap (b.toNat : Int)).tdiv 16) = ((b.toNat / 16 : Nat) : Int) := by
        rw [wrap_small (b.toNat : Int) (by omega) (by omega), Int.tdiv_eq_ediv_of_nonneg (by omega), wrap_small _ (by omega) (by omega)]; omega
      have q2 : (IntKind.i64.wrap (b.toNat : Int)).tmod 16 = ((b.toNat % 16 : Nat) : Int) := by
        rw [wrap_small (b.toNat : Int) (by omega) (by omega), Int.tmod_eq_emod_of_nonneg (by omega)]; omega
      have H1 := Lib.hid q1
      have H2 := Lib.hid q2
      clear hnext q1 q2
      go_wp2_with fail
      have hKeep : ∀ X : World, Chg (fun j => w.heap.size < j) wr X → X.cell? ⟨w.heap.size, k, none⟩ = some (.int .u8 (b.toNat : Int)) ∧ Chg (fun j => w.heap.size < j) wr X := fun X h => ⟨by rw [h.cell (World.block_lt_of_cell? wr _ c0) (by simp)]; exact c0, h⟩
      have hz := hKeep _ ((Chg.refl (fun j => w.heap.size < j) wr).drew)
      clear c0
      go_region_held3 (fun X => X.cell? ⟨w.heap.size, k, none⟩ = some (.int .u8 (b.toNat : Int)) ∧ Chg (fun j => w.heap.size < j) wr X)
        (first | assumption | exact hKeep _ (by assumption) | exact hKeep _ (((Chg.refl (fun j => w.heap.size < j) wr).alloc _).drew))
        (first
          | (go_at_call 20; rw [H1.out]; refine (digit_any (b.toNat / 16) (by omega) _).mono ?_; rintro e w' ⟨rfl, rfl⟩)
          | (go_at_call 20; rw [H2.out]; refine (digit_any (b.toNat % 16) (by omega) _).mono ?_; rintro e w' ⟨rfl, rfl⟩)
          | (refine op_append_if (by rfl) tyBytes ((ho.alloc _).drew) (Sl.drew (Sl.built wr #[.int .u8 ((hexD (b.toNat / 16)).toNat : Int), .int .u8 ((hexD (b.toNat % 16)).toNat : Int)] _ 1 2 rfl (by simp [Value.oneCell']) (by unfold maxLen; omega))) rfl rfl (by unfold maxLen; omega) (by omega) ?_; intro ao4 cap4 w4 hown4 hgr4 hblk4; have hck := Chg.grown (((Chg.refl (fun j => w.heap.size < j) wr).alloc _).drew) hgr4 (fun j hj => .inr (hb j hj)))
          | fail)
      go_wp2_with fail
      have hBl := B.lt
      refine ⟨⟨k + 1, by omega, rfl, hown4.cast (by omega) (by rw [HN.out]; simp [bcells]), B.kept hck (by simp), hc.trans hck (fun q hq h => by omega), fun j hj => ?_⟩, by simp [intOf]; omega⟩
      rcases hblk4 with h | h
      · rw [h] at hj; exact hb j hj
      · rw [h] at hj; simp at hj; omega
    · obtain rfl : k = 32 := by omega
      rw [List.take_of_length_le (by omega)] at ho
      have hrd : Rd wr (.slice ao (2 * 32) cap) (hexB l) := Own.rd (ho.cast (by simp [hl]) rfl)
      go_wp2_with ((with_reducible show wpList _ _ _ (⟨some 25, _, _, _, _, _⟩ :: _) _ _); refine wpl_str (o := ⟨some 25, _, _, _, _, _⟩) rfl 25 9 (.tmp 24) rfl Try.underlying25 Try.underlying5 Try.underlying9 (hrd) rfl ?_)
      go_ret
      exact ⟨rfl, hc⟩

theorem strB_toList (l : List UInt8) : (strB l).toList = l := by rw [ByteArray.toList_eq]; rfl
theorem strB_extract (l : List UInt8) (a b : Nat) : (strB l).extract a b = strB ((l.drop a).take (b - a)) := ByteArray.extract_mk l a b
/-- A beginning of a list of bytes. -/
def preB (l p : List UInt8) : Bool := decide (p.length ≤ l.length) && (l.take p.length == p)
set_option maxRecDepth 100000 in
theorem begins_any (l p : List UInt8) (w : World) (hl : l.length ≤ 1000000000) (hp : p.length ≤ 1000000000) :
    Calls Try.prog 8 #[.string (strB l), .string (strB p)] w fun e w' => e = .returned (.bool (preB l p)) ∧ w = w' := by
  go_enter Try.func8, Try.ntmps8
  by_cases h : p.length ≤ l.length
  · go_wp2_with fail
    go_ret
    exact ⟨by simp [preB, h, strB_extract, strB_toList], rfl⟩
  · go_wp2_with fail
    go_ret
    exact ⟨by simp [preB]; omega, rfl⟩

set_option maxRecDepth 100000 in
theorem rbegins_any (l p : List UInt8) (w : World) (hl : l.length = 32) (hp : p.length ≤ 1000000000) :
    Calls Try.prog 18 #[.agg (bcells l).toArray, .string (strB p)] w fun e w' => e = .returned (.bool (preB (hexB l) p)) ∧ Chg (fun _ => False) w w' := by
  have hh : (hexB l).length = 64 := by simp [hl]
  go_enter Try.func18, Try.ntmps18
  by_cases h : p.length ≤ 64
  · go_wp2_with (first
      | ((with_reducible show wpList _ _ _ (⟨some 6, .load _ _, _, _, _, _⟩ :: _) _ _); refine wpl_load_row rfl 24 (.tmp 2) rfl rfl (Blk.new w _ _) Try.underlying24 (idInfo hl) ?_)
      | (go_at_call 17; refine (rhex_any l _ hl).mono ?_; rintro e w1 ⟨rfl, hc1⟩)
      | fail)
    go_ret
    exact ⟨by simp [preB, hh, h, strB_extract, strB_toList], ((Chg.refl _ w).alloc _).trans hc1 fun _ _ h => h⟩
  · go_wp2_with (first
      | ((with_reducible show wpList _ _ _ (⟨some 6, .load _ _, _, _, _, _⟩ :: _) _ _); refine wpl_load_row rfl 24 (.tmp 2) rfl rfl (Blk.new w _ _) Try.underlying24 (idInfo hl) ?_)
      | (go_at_call 17; refine (rhex_any l _ hl).mono ?_; rintro e w1 ⟨rfl, hc1⟩)
      | fail)
    go_ret
    exact ⟨by simp [preB, hh]; omega, ((Chg.refl _ w).alloc _).trans hc1 fun _ _ h => h⟩
end Go.Proofs.Ytafgeppdchnceaa
