import Derived.Test.YtnfmeaifbankjaaRefs0
import Derived.Test.YtnfmeaifbankjaaArr
set_option linter.unusedVariables false
namespace Go.Sat
open Go
/-- Byte k of the mark of list m. -/
def markB (m k : Nat) : UInt8 := if k % 2 = 0 then UInt8.ofNat (1 + m % 251) else UInt8.ofNat (1 + (7 * m + m / 251) % 251)
def marks (m n : Nat) : List UInt8 := (List.range n).map (markB m)
theorem marks_len (m n : Nat) : (marks m n).length = n := by simp [marks]
theorem marks_succ (m n : Nat) : marks m (n + 1) = marks m n ++ [markB m n] := by simp [marks, List.range_succ]
end Go.Sat
namespace Go.Proofs.Ytnfmeaifbankjaa
open Go Go.RowKit Go.Sat
theorem at_any (m k : Nat) (w : World) (hm : m ≤ 1000000) (hk : k ≤ 1000000000000) :
    Calls Try.prog 53 #[.int .i64 (m : Int), .int .i64 (k : Int)] w fun e w' => e = .returned (.int .u8 ((markB m k).toNat : Int)) ∧ w = w' := by
  by_cases h : k % 2 = 0
  · have hv : markB m k = UInt8.ofNat (1 + m % 251) := by unfold markB; rw [if_pos h]
    have hvn : ((markB m k).toNat : Int) = 1 + (m : Int) % 251 := by rw [hv]; simp; omega
    have HV := Lib.hid hvn
    clear hv hvn
    have hd : ((k : Int) % 2 == 0) = true := by simp; omega
    clear h
    go_enter Try.func53, Try.ntmps53
    go_wp2_with fail
    go_ret
    rw [HV.out]
    exact ⟨rfl, rfl⟩
  · have hv : markB m k = UInt8.ofNat (1 + (7 * m + m / 251) % 251) := by unfold markB; rw [if_neg h]
    have hvn : ((markB m k).toNat : Int) = 1 + (7 * (m : Int) + (m : Int) / 251) % 251 := by rw [hv]; simp; omega
    have HV := Lib.hid hvn
    clear hv hvn
    have hd : ((k : Int) % 2 == 0) = false := beq_eq_false_iff_ne.2 (by omega)
    clear h
    go_enter Try.func53, Try.ntmps53
    go_wp2_with fail
    go_ret
    rw [HV.out]
    exact ⟨rfl, rfl⟩
theorem infoBB' : (Try.prog.info? 22).map (fun i => (i.zero, i.size, i.bytes)) = some (some (.slice none 0 0), 1, 24) := by kernel_rfl
theorem tyBB' : SliceTy Try.prog 40 22 1 24 (.slice none 0 0) := by
  obtain ⟨i0, hi0, hz0, hz1, hz2⟩ := info_parts infoBB'
  exact ⟨Try.underlying40, ⟨i0, hi0, hz0, hz1, hz2⟩, rfl, by decide⟩
theorem infoII' : (Try.prog.info? 3).map (fun i => (i.zero, i.size, i.bytes)) = some (some (.int .i64 0), 1, 8) := by kernel_rfl
theorem tyII' : SliceTy Try.prog 58 3 1 8 (.int .i64 0) := by
  obtain ⟨i0, hi0, hz0, hz1, hz2⟩ := info_parts infoII'
  exact ⟨Try.underlying58, ⟨i0, hi0, hz0, hz1, hz2⟩, rfl, by decide⟩
/-- A Book's cells: the lists of bytes, their marks' numbers, so many have been grown; the other lists are empty; the turn, the turn when all had been grown, the bytes used. -/
def bookC (bs bo : Value) (ba tn dn us : Int) : Array Value :=
  #[bs, bo, .int .i64 ba, .slice none 0 0, .slice none 0 0, .int .i64 0, .slice none 0 0, .slice none 0 0, .int .i64 0, .slice none 0 0, .slice none 0 0, .int .i64 0, .slice none 0 0, .slice none 0 0, .int .i64 0, .slice none 0 0, .slice none 0 0, .int .i64 0, .slice none 0 0, .slice none 0 0, .int .i64 0, .slice none 0 0, .slice none 0 0, .int .i64 0, .slice none 0 0, .slice none 0 0, .int .i64 0, .slice none 0 0, .slice none 0 0, .int .i64 0, .slice none 0 0, .slice none 0 0, .int .i64 0, .int .i64 tn, .int .i64 dn, .int .i64 us]
set_option maxRecDepth 100000 in
theorem tight_any (bk : Nat) (T : TypeId) (bs bo : Value) (ba tn dn us n : Int) (w : World) (hB : Blk w bk T (bookC bs bo ba tn dn us)) (hu : 0 ≤ us ∧ us ≤ 16777216) (hn : 0 ≤ n ∧ n ≤ 1000000000) :
    Calls Try.prog 54 #[.pointer (some ⟨bk, 0, none⟩), .int .i64 n] w fun e w' => Chg (fun k => k = bk) w w' ∧
      ((16777216 < us + n ∧ e = .returned (.bool true) ∧ Blk w' bk T (bookC bs bo ba tn dn us)) ∨ (us + n ≤ 16777216 ∧ e = .returned (.bool false) ∧ Blk w' bk T (bookC bs bo ba tn dn (us + n)))) := by
  have c35 : w.cell? ⟨bk, 35, none⟩ = some (.int .i64 us) := by rw [hB.cell]; rfl
  have f35 := hB.free 35
  have hset := hB.set 35 (.int .i64 (us + n))
  have HB := Lib.hid hB
  have HS := Lib.hid hset
  clear hB hset
  by_cases h : 16777216 < us + n
  · have hd : decide (16777216 < us + n) = true := decide_eq_true h
    go_enter Try.func54, Try.ntmps54
    go_wp2_with fail
    go_ret
    exact ⟨Chg.refl _ _, .inl ⟨h, rfl, HB.out⟩⟩
  · have hd : decide (16777216 < us + n) = false := decide_eq_false h
    go_enter Try.func54, Try.ntmps54
    go_wp2_with fail
    go_ret
    refine ⟨?_, Or.inr ⟨rfl, HS.out⟩⟩
    exact Chg.setCell (Chg.refl (fun k => k = bk) w) (.inr (show (⟨bk, 35, none⟩ : Addr).block = bk from rfl)) _
/-- A Book that has only lists of bytes: es, with the numbers ms. -/
structure Bk (w : World) (bk : Nat) (T : TypeId) (bs bo : Value) (nb : Nat) (es ms : List Value) (ba tn dn us : Int) : Prop where
  blk : Blk w bk T (bookC bs bo ba tn dn us)
  own1 : Own w 22 1 bs nb es
  own2 : Own w 3 1 bo nb ms
  ne1 : bs.ownBlock ≠ some bk
  ne2 : bo.ownBlock ≠ some bk
  ne12 : ∀ k, bs.ownBlock = some k → bo.ownBlock ≠ some k
theorem Bk.kept {S : Nat → Prop} {w w' : World} {bk : Nat} {T : TypeId} {bs bo : Value} {nb : Nat} {es ms : List Value} {ba tn dn us : Int} (h : Bk w bk T bs bo nb es ms ba tn dn us) (c : Chg S w w') (h0 : ¬ S bk) (h1 : ∀ k, bs.ownBlock = some k → ¬ S k) (h2 : ∀ k, bo.ownBlock = some k → ¬ S k) :
    Bk w' bk T bs bo nb es ms ba tn dn us :=
  ⟨h.blk.kept c h0, h.own1.kept c h1, h.own2.kept c h2, h.ne1, h.ne2, h.ne12⟩
theorem marks_set (M i : Nat) (l : List UInt8) (hi : i < l.length) : (bcells (marks M i ++ l.drop i)).set i (.int .u8 ((markB M i).toNat : Int)) = bcells (marks M (i + 1) ++ l.drop (i + 1)) := by
  have h1 : (marks M i ++ l.drop i).set i (markB M i) = marks M (i + 1) ++ l.drop (i + 1) := by
    rw [List.set_append, marks_len, if_neg (by omega), Nat.sub_self, List.drop_eq_getElem_cons hi, List.set_cons_zero, marks_succ]
    simp
  rw [← h1]
  unfold bcells
  rw [List.map_set]
end Go.Proofs.Ytnfmeaifbankjaa
