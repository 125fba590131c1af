import Derived.Test.YtnfmeaifbankjaaBook
set_option linter.unusedVariables false
namespace Go.Proofs.Ytnfmeaifbankjaa
open Go Go.RowKit Go.Sat
set_option maxRecDepth 100000 in
theorem growRows_any (bk : Nat) (T : TypeId) (bs bo : Value) (ba tn dn us : Int) (w : World) (hB : Blk w bk T (bookC bs bo ba tn dn us)) :
    Calls Try.prog 61 #[.pointer (some ⟨bk, 0, none⟩)] w fun e w' => e = .returned (.tuple #[]) ∧ Blk w' bk T (bookC bs bo ba tn dn us) ∧ Chg (fun k => k = bk) w w' := by
  have c0 : w.cell? ⟨bk, 3, none⟩ = some (.slice none 0 0) := by rw [hB.cell]; rfl
  have c2 : w.cell? ⟨bk, 5, none⟩ = some (.int .i64 0) := by rw [hB.cell]; rfl
  have f2 := hB.free 5
  have hset : Blk (w.setCell ⟨bk, 5, none⟩ (.int .i64 0)) bk T (bookC bs bo ba tn dn us) := hB.set 5 (.int .i64 0)
  have HS := Lib.hid hset
  clear hB hset
  go_enter Try.func61, Try.ntmps61
  go_wp2_with fail
  go_loopw [3] (fun s3 wr => s3 = .int .i64 0 ∧ wr = w) (fun _ _ => 0)
  case atStart => exact ⟨rfl, rfl⟩
  case round =>
    obtain ⟨rfl, rfl⟩ := hrel
    go_wp2_with fail
    refine bodyPost_end (results_none rfl _ _ _) rfl ?_
    exact ⟨rfl, HS.out, Chg.setCell (Chg.refl (fun k => k = bk) _) (.inr (show (⟨bk, 5, none⟩ : Addr).block = bk from rfl)) _⟩
set_option maxRecDepth 100000 in
theorem growIds_any (bk : Nat) (T : TypeId) (bs bo : Value) (ba tn dn us : Int) (w : World) (hB : Blk w bk T (bookC bs bo ba tn dn us)) :
    Calls Try.prog 62 #[.pointer (some ⟨bk, 0, none⟩)] w fun e w' => e = .returned (.tuple #[]) ∧ Blk w' bk T (bookC bs bo ba tn dn us) ∧ Chg (fun k => k = bk) w w' := by
  have c0 : w.cell? ⟨bk, 6, none⟩ = some (.slice none 0 0) := by rw [hB.cell]; rfl
  have c2 : w.cell? ⟨bk, 8, none⟩ = some (.int .i64 0) := by rw [hB.cell]; rfl
  have f2 := hB.free 8
  have hset : Blk (w.setCell ⟨bk, 8, none⟩ (.int .i64 0)) bk T (bookC bs bo ba tn dn us) := hB.set 8 (.int .i64 0)
  have HS := Lib.hid hset
  clear hB hset
  go_enter Try.func62, Try.ntmps62
  go_wp2_with fail
  go_loopw [3] (fun s3 wr => s3 = .int .i64 0 ∧ wr = w) (fun _ _ => 0)
  case atStart => exact ⟨rfl, rfl⟩
  case round =>
    obtain ⟨rfl, rfl⟩ := hrel
    go_wp2_with fail
    refine bodyPost_end (results_none rfl _ _ _) rfl ?_
    exact ⟨rfl, HS.out, Chg.setCell (Chg.refl (fun k => k = bk) _) (.inr (show (⟨bk, 8, none⟩ : Addr).block = bk from rfl)) _⟩
set_option maxRecDepth 100000 in
theorem growTexts_any (bk : Nat) (T : TypeId) (bs bo : Value) (ba tn dn us : Int) (w : World) (hB : Blk w bk T (bookC bs bo ba tn dn us)) :
    Calls Try.prog 63 #[.pointer (some ⟨bk, 0, none⟩)] w fun e w' => e = .returned (.tuple #[]) ∧ Blk w' bk T (bookC bs bo ba tn dn us) ∧ Chg (fun k => k = bk) w w' := by
  have c0 : w.cell? ⟨bk, 9, none⟩ = some (.slice none 0 0) := by rw [hB.cell]; rfl
  have c2 : w.cell? ⟨bk, 11, none⟩ = some (.int .i64 0) := by rw [hB.cell]; rfl
  have f2 := hB.free 11
  have hset : Blk (w.setCell ⟨bk, 11, none⟩ (.int .i64 0)) bk T (bookC bs bo ba tn dn us) := hB.set 11 (.int .i64 0)
  have HS := Lib.hid hset
  clear hB hset
  go_enter Try.func63, Try.ntmps63
  go_wp2_with fail
  go_loopw [3] (fun s3 wr => s3 = .int .i64 0 ∧ wr = w) (fun _ _ => 0)
  case atStart => exact ⟨rfl, rfl⟩
  case round =>
    obtain ⟨rfl, rfl⟩ := hrel
    go_wp2_with fail
    refine bodyPost_end (results_none rfl _ _ _) rfl ?_
    exact ⟨rfl, HS.out, Chg.setCell (Chg.refl (fun k => k = bk) _) (.inr (show (⟨bk, 11, none⟩ : Addr).block = bk from rfl)) _⟩
set_option maxRecDepth 100000 in
theorem growRefs_any (bk : Nat) (T : TypeId) (bs bo : Value) (ba tn dn us : Int) (w : World) (hB : Blk w bk T (bookC bs bo ba tn dn us)) :
    Calls Try.prog 64 #[.pointer (some ⟨bk, 0, none⟩)] w fun e w' => e = .returned (.tuple #[]) ∧ Blk w' bk T (bookC bs bo ba tn dn us) ∧ Chg (fun k => k = bk) w w' := by
  have c0 : w.cell? ⟨bk, 12, none⟩ = some (.slice none 0 0) := by rw [hB.cell]; rfl
  have c2 : w.cell? ⟨bk, 14, none⟩ = some (.int .i64 0) := by rw [hB.cell]; rfl
  have f2 := hB.free 14
  have hset : Blk (w.setCell ⟨bk, 14, none⟩ (.int .i64 0)) bk T (bookC bs bo ba tn dn us) := hB.set 14 (.int .i64 0)
  have HS := Lib.hid hset
  clear hB hset
  go_enter Try.func64, Try.ntmps64
  go_wp2_with fail
  go_loopw [3] (fun s3 wr => s3 = .int .i64 0 ∧ wr = w) (fun _ _ => 0)
  case atStart => exact ⟨rfl, rfl⟩
  case round =>
    obtain ⟨rfl, rfl⟩ := hrel
    go_wp2_with fail
    refine bodyPost_end (results_none rfl _ _ _) rfl ?_
    exact ⟨rfl, HS.out, Chg.setCell (Chg.refl (fun k => k = bk) _) (.inr (show (⟨bk, 14, none⟩ : Addr).block = bk from rfl)) _⟩
set_option maxRecDepth 100000 in
theorem growStamps_any (bk : Nat) (T : TypeId) (bs bo : Value) (ba tn dn us : Int) (w : World) (hB : Blk w bk T (bookC bs bo ba tn dn us)) :
    Calls Try.prog 65 #[.pointer (some ⟨bk, 0, none⟩)] w fun e w' => e = .returned (.tuple #[]) ∧ Blk w' bk T (bookC bs bo ba tn dn us) ∧ Chg (fun k => k = bk) w w' := by
  have c0 : w.cell? ⟨bk, 15, none⟩ = some (.slice none 0 0) := by rw [hB.cell]; rfl
  have c2 : w.cell? ⟨bk, 17, none⟩ = some (.int .i64 0) := by rw [hB.cell]; rfl
  have f2 := hB.free 17
  have hset : Blk (w.setCell ⟨bk, 17, none⟩ (.int .i64 0)) bk T (bookC bs bo ba tn dn us) := hB.set 17 (.int .i64 0)
  have HS := Lib.hid hset
  clear hB hset
  go_enter Try.func65, Try.ntmps65
  go_wp2_with fail
  go_loopw [3] (fun s3 wr => s3 = .int .i64 0 ∧ wr = w) (fun _ _ => 0)
  case atStart => exact ⟨rfl, rfl⟩
  case round =>
    obtain ⟨rfl, rfl⟩ := hrel
    go_wp2_with fail
    refine bodyPost_end (results_none rfl _ _ _) rfl ?_
    exact ⟨rfl, HS.out, Chg.setCell (Chg.refl (fun k => k = bk) _) (.inr (show (⟨bk, 17, none⟩ : Addr).block = bk from rfl)) _⟩
set_option maxRecDepth 100000 in
theorem growMoves_any (bk : Nat) (T : TypeId) (bs bo : Value) (ba tn dn us : Int) (w : World) (hB : Blk w bk T (bookC bs bo ba tn dn us)) :
    Calls Try.prog 66 #[.pointer (some ⟨bk, 0, none⟩)] w fun e w' => e = .returned (.tuple #[]) ∧ Blk w' bk T (bookC bs bo ba tn dn us) ∧ Chg (fun k => k = bk) w w' := by
  have c0 : w.cell? ⟨bk, 18, none⟩ = some (.slice none 0 0) := by rw [hB.cell]; rfl
  have c2 : w.cell? ⟨bk, 20, none⟩ = some (.int .i64 0) := by rw [hB.cell]; rfl
  have f2 := hB.free 20
  have hset : Blk (w.setCell ⟨bk, 20, none⟩ (.int .i64 0)) bk T (bookC bs bo ba tn dn us) := hB.set 20 (.int .i64 0)
  have HS := Lib.hid hset
  clear hB hset
  go_enter Try.func66, Try.ntmps66
  go_wp2_with fail
  go_loopw [3] (fun s3 wr => s3 = .int .i64 0 ∧ wr = w) (fun _ _ => 0)
  case atStart => exact ⟨rfl, rfl⟩
  case round =>
    obtain ⟨rfl, rfl⟩ := hrel
    go_wp2_with fail
    refine bodyPost_end (results_none rfl _ _ _) rfl ?_
    exact ⟨rfl, HS.out, Chg.setCell (Chg.refl (fun k => k = bk) _) (.inr (show (⟨bk, 20, none⟩ : Addr).block = bk from rfl)) _⟩
set_option maxRecDepth 100000 in
theorem growLinks_any (bk : Nat) (T : TypeId) (bs bo : Value) (ba tn dn us : Int) (w : World) (hB : Blk w bk T (bookC bs bo ba tn dn us)) :
    Calls Try.prog 67 #[.pointer (some ⟨bk, 0, none⟩)] w fun e w' => e = .returned (.tuple #[]) ∧ Blk w' bk T (bookC bs bo ba tn dn us) ∧ Chg (fun k => k = bk) w w' := by
  have c0 : w.cell? ⟨bk, 21, none⟩ = some (.slice none 0 0) := by rw [hB.cell]; rfl
  have c2 : w.cell? ⟨bk, 23, none⟩ = some (.int .i64 0) := by rw [hB.cell]; rfl
  have f2 := hB.free 23
  have hset : Blk (w.setCell ⟨bk, 23, none⟩ (.int .i64 0)) bk T (bookC bs bo ba tn dn us) := hB.set 23 (.int .i64 0)
  have HS := Lib.hid hset
  clear hB hset
  go_enter Try.func67, Try.ntmps67
  go_wp2_with fail
  go_loopw [3] (fun s3 wr => s3 = .int .i64 0 ∧ wr = w) (fun _ _ => 0)
  case atStart => exact ⟨rfl, rfl⟩
  case round =>
    obtain ⟨rfl, rfl⟩ := hrel
    go_wp2_with fail
    refine bodyPost_end (results_none rfl _ _ _) rfl ?_
    exact ⟨rfl, HS.out, Chg.setCell (Chg.refl (fun k => k = bk) _) (.inr (show (⟨bk, 23, none⟩ : Addr).block = bk from rfl)) _⟩
set_option maxRecDepth 100000 in
theorem growFiles_any (bk : Nat) (T : TypeId) (bs bo : Value) (ba tn dn us : Int) (w : World) (hB : Blk w bk T (bookC bs bo ba tn dn us)) :
    Calls Try.prog 68 #[.pointer (some ⟨bk, 0, none⟩)] w fun e w' => e = .returned (.tuple #[]) ∧ Blk w' bk T (bookC bs bo ba tn dn us) ∧ Chg (fun k => k = bk) w w' := by
  have c0 : w.cell? ⟨bk, 24, none⟩ = some (.slice none 0 0) := by rw [hB.cell]; rfl
  have c2 : w.cell? ⟨bk, 26, none⟩ = some (.int .i64 0) := by rw [hB.cell]; rfl
  have f2 := hB.free 26
  have hset : Blk (w.setCell ⟨bk, 26, none⟩ (.int .i64 0)) bk T (bookC bs bo ba tn dn us) := hB.set 26 (.int .i64 0)
  have HS := Lib.hid hset
  clear hB hset
  go_enter Try.func68, Try.ntmps68
  go_wp2_with fail
  go_loopw [3] (fun s3 wr => s3 = .int .i64 0 ∧ wr = w) (fun _ _ => 0)
  case atStart => exact ⟨rfl, rfl⟩
  case round =>
    obtain ⟨rfl, rfl⟩ := hrel
    go_wp2_with fail
    refine bodyPost_end (results_none rfl _ _ _) rfl ?_
    exact ⟨rfl, HS.out, Chg.setCell (Chg.refl (fun k => k = bk) _) (.inr (show (⟨bk, 26, none⟩ : Addr).block = bk from rfl)) _⟩
set_option maxRecDepth 100000 in
theorem growEntries_any (bk : Nat) (T : TypeId) (bs bo : Value) (ba tn dn us : Int) (w : World) (hB : Blk w bk T (bookC bs bo ba tn dn us)) :
    Calls Try.prog 69 #[.pointer (some ⟨bk, 0, none⟩)] w fun e w' => e = .returned (.tuple #[]) ∧ Blk w' bk T (bookC bs bo ba tn dn us) ∧ Chg (fun k => k = bk) w w' := by
  have c0 : w.cell? ⟨bk, 27, none⟩ = some (.slice none 0 0) := by rw [hB.cell]; rfl
  have c2 : w.cell? ⟨bk, 29, none⟩ = some (.int .i64 0) := by rw [hB.cell]; rfl
  have f2 := hB.free 29
  have hset : Blk (w.setCell ⟨bk, 29, none⟩ (.int .i64 0)) bk T (bookC bs bo ba tn dn us) := hB.set 29 (.int .i64 0)
  have HS := Lib.hid hset
  clear hB hset
  go_enter Try.func69, Try.ntmps69
  go_wp2_with fail
  go_loopw [3] (fun s3 wr => s3 = .int .i64 0 ∧ wr = w) (fun _ _ => 0)
  case atStart => exact ⟨rfl, rfl⟩
  case round =>
    obtain ⟨rfl, rfl⟩ := hrel
    go_wp2_with fail
    refine bodyPost_end (results_none rfl _ _ _) rfl ?_
    exact ⟨rfl, HS.out, Chg.setCell (Chg.refl (fun k => k = bk) _) (.inr (show (⟨bk, 29, none⟩ : Addr).block = bk from rfl)) _⟩
set_option maxRecDepth 100000 in
theorem growNotes_any (bk : Nat) (T : TypeId) (bs bo : Value) (ba tn dn us : Int) (w : World) (hB : Blk w bk T (bookC bs bo ba tn dn us)) :
    Calls Try.prog 70 #[.pointer (some ⟨bk, 0, none⟩)] w fun e w' => e = .returned (.tuple #[]) ∧ Blk w' bk T (bookC bs bo ba tn dn us) ∧ Chg (fun k => k = bk) w w' := by
  have c0 : w.cell? ⟨bk, 30, none⟩ = some (.slice none 0 0) := by rw [hB.cell]; rfl
  have c2 : w.cell? ⟨bk, 32, none⟩ = some (.int .i64 0) := by rw [hB.cell]; rfl
  have f2 := hB.free 32
  have hset : Blk (w.setCell ⟨bk, 32, none⟩ (.int .i64 0)) bk T (bookC bs bo ba tn dn us) := hB.set 32 (.int .i64 0)
  have HS := Lib.hid hset
  clear hB hset
  go_enter Try.func70, Try.ntmps70
  go_wp2_with fail
  go_loopw [3] (fun s3 wr => s3 = .int .i64 0 ∧ wr = w) (fun _ _ => 0)
  case atStart => exact ⟨rfl, rfl⟩
  case round =>
    obtain ⟨rfl, rfl⟩ := hrel
    go_wp2_with fail
    refine bodyPost_end (results_none rfl _ _ _) rfl ?_
    exact ⟨rfl, HS.out, Chg.setCell (Chg.refl (fun k => k = bk) _) (.inr (show (⟨bk, 32, none⟩ : Addr).block = bk from rfl)) _⟩
set_option maxRecDepth 100000 in
theorem kept_any (bk : Nat) (T : TypeId) (bs bo : Value) (ba tn dn us : Int) (w : World) (hB : Blk w bk T (bookC bs bo ba tn dn us)) :
    Calls Try.prog 57 #[.pointer (some ⟨bk, 0, none⟩)] w fun e w' => e = .returned (.bool true) ∧ w = w' := by
  have c6 : w.cell? ⟨bk, 6, none⟩ = some (.slice none 0 0) := by rw [hB.cell]; rfl
  have c9 : w.cell? ⟨bk, 9, none⟩ = some (.slice none 0 0) := by rw [hB.cell]; rfl
  have c12 : w.cell? ⟨bk, 12, none⟩ = some (.slice none 0 0) := by rw [hB.cell]; rfl
  have c15 : w.cell? ⟨bk, 15, none⟩ = some (.slice none 0 0) := by rw [hB.cell]; rfl
  clear hB
  go_enter Try.func57, Try.ntmps57
  go_wp2_with fail
  go_loopw [3] (fun s3 wr => s3 = .int .i64 0 ∧ wr = w) (fun _ _ => 0)
  case atStart => exact ⟨rfl, rfl⟩
  case round =>
    obtain ⟨rfl, hwr⟩ := hrel
    have hwr2 := hwr.symm
    clear hwr
    subst hwr2
    go_wp2_with fail
    go_loopw [5] (fun s5 wr => s5 = .int .i64 0 ∧ wr = w) (fun _ _ => 0)
    case atStart => exact ⟨rfl, rfl⟩
    case round =>
      obtain ⟨rfl, hwr⟩ := hrel
      have hwr2 := hwr.symm
      clear hwr
      subst hwr2
      go_wp2_with fail
      go_loopw [7] (fun s7 wr => s7 = .int .i64 0 ∧ wr = w) (fun _ _ => 0)
      case atStart => exact ⟨rfl, rfl⟩
      case round =>
        obtain ⟨rfl, hwr⟩ := hrel
        have hwr2 := hwr.symm
        clear hwr
        subst hwr2
        go_wp2_with fail
        go_loopw [9] (fun s9 wr => s9 = .int .i64 0 ∧ wr = w) (fun _ _ => 0)
        case atStart => exact ⟨rfl, rfl⟩
        case round =>
          obtain ⟨rfl, hwr⟩ := hrel
          have hwr2 := hwr.symm
          clear hwr
          subst hwr2
          go_wp2_with fail
          go_ret
          exact ⟨rfl, rfl⟩
set_option maxRecDepth 100000 in
theorem told_any (bk : Nat) (T : TypeId) (bs bo : Value) (ba tn dn us : Int) (w : World) (hB : Blk w bk T (bookC bs bo ba tn dn us)) :
    Calls Try.prog 58 #[.pointer (some ⟨bk, 0, none⟩)] w fun e w' => e = .returned (.bool true) ∧ w = w' := by
  have c18 : w.cell? ⟨bk, 18, none⟩ = some (.slice none 0 0) := by rw [hB.cell]; rfl
  have c21 : w.cell? ⟨bk, 21, none⟩ = some (.slice none 0 0) := by rw [hB.cell]; rfl
  have c24 : w.cell? ⟨bk, 24, none⟩ = some (.slice none 0 0) := by rw [hB.cell]; rfl
  have c27 : w.cell? ⟨bk, 27, none⟩ = some (.slice none 0 0) := by rw [hB.cell]; rfl
  clear hB
  go_enter Try.func58, Try.ntmps58
  go_wp2_with fail
  go_loopw [3] (fun s3 wr => s3 = .int .i64 0 ∧ wr = w) (fun _ _ => 0)
  case atStart => exact ⟨rfl, rfl⟩
  case round =>
    obtain ⟨rfl, hwr⟩ := hrel
    have hwr2 := hwr.symm
    clear hwr
    subst hwr2
    go_wp2_with fail
    go_loopw [5] (fun s5 wr => s5 = .int .i64 0 ∧ wr = w) (fun _ _ => 0)
    case atStart => exact ⟨rfl, rfl⟩
    case round =>
      obtain ⟨rfl, hwr⟩ := hrel
      have hwr2 := hwr.symm
      clear hwr
      subst hwr2
      go_wp2_with fail
      go_loopw [7] (fun s7 wr => s7 = .int .i64 0 ∧ wr = w) (fun _ _ => 0)
      case atStart => exact ⟨rfl, rfl⟩
      case round =>
        obtain ⟨rfl, hwr⟩ := hrel
        have hwr2 := hwr.symm
        clear hwr
        subst hwr2
        go_wp2_with fail
        go_loopw [9] (fun s9 wr => s9 = .int .i64 0 ∧ wr = w) (fun _ _ => 0)
        case atStart => exact ⟨rfl, rfl⟩
        case round =>
          obtain ⟨rfl, hwr⟩ := hrel
          have hwr2 := hwr.symm
          clear hwr
          subst hwr2
          go_wp2_with fail
          go_ret
          exact ⟨rfl, rfl⟩
set_option maxRecDepth 100000 in
theorem held_any (bk : Nat) (T : TypeId) (bs bo : Value) (ba tn dn us : Int) (w : World) (hB : Blk w bk T (bookC bs bo ba tn dn us)) :
    Calls Try.prog 59 #[.pointer (some ⟨bk, 0, none⟩)] w fun e w' => e = .returned (.bool true) ∧ w = w' := by
  have c30 : w.cell? ⟨bk, 30, none⟩ = some (.slice none 0 0) := by rw [hB.cell]; rfl
  clear hB
  go_enter Try.func59, Try.ntmps59
  go_wp2_with fail
  go_loopw [3] (fun s3 wr => s3 = .int .i64 0 ∧ wr = w) (fun _ _ => 0)
  case atStart => exact ⟨rfl, rfl⟩
  case round =>
    obtain ⟨rfl, hwr⟩ := hrel
    have hwr2 := hwr.symm
    clear hwr
    subst hwr2
    go_wp2_with fail
    go_ret
    exact ⟨rfl, rfl⟩
end Go.Proofs.Ytnfmeaifbankjaa
