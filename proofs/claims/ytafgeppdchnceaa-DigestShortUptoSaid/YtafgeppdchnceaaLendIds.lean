import Derived.Test.YtafgeppdchnceaaRShort
set_option linter.unusedVariables false
namespace Go.Proofs.Ytafgeppdchnceaa
open Go Go.RowKit Go.Sat

theorem infoId : (Try.prog.info? 24).map (fun i => (i.zero, i.size, i.bytes)) = some (some (.agg (bcells (List.replicate 32 0)).toArray), 32, 32) := by kernel_rfl
theorem tyIds : SliceTy Try.prog 22 24 32 32 (.agg (bcells (List.replicate 32 0)).toArray) := by
  obtain ⟨i0, hi0, hz0, hz1, hz2⟩ := info_parts infoId
  exact ⟨Try.underlying22, ⟨i0, hi0, hz0, hz1, hz2⟩, rfl, by decide⟩
def mark (n : UInt8) : List UInt8 := n :: List.replicate 31 0

/-- What LendIDs hands out: the ids, with two marks behind them. -/
structure LentIds (w : World) (g cap : Nat) (ls : List (List UInt8)) : Prop where
  own : Own w 24 32 (.slice (some ⟨g, 0, none⟩) (ls.length + 2) cap) (ls.length + 2) ((ls ++ [mark 165, mark 90]).flatMap bcells)

set_option maxRecDepth 100000 in
set_option maxHeartbeats 1600000 in
theorem lendIds_any (v : Value) (ls : List (List UInt8)) (w : World) (hv : Ids w v ls) (hn : ls.length ≤ 1000000000) :
    Calls Try.prog 5 #[v] w fun e w' => ∃ g cap, e = .returned (.slice (some ⟨g, 0, none⟩) ls.length cap) ∧ LentIds w' g cap ls ∧ Chg (fun _ => False) w w' ∧ w.heap.size ≤ g := by
  obtain ⟨ao, c, rfl, hcap⟩ := hv.form
  go_enter Try.func5, Try.ntmps5
  go_wp2_with (first
    | ((with_reducible show wpList _ _ _ (⟨some 6, _, _, _, _, _⟩ :: _) _ _); refine wpl_append (o := ⟨some 6, _, _, _, _, _⟩) rfl (.tmp 4) (.tmp 5) 22 rfl tyIds (World.ownsRow_nil _ 0 _ 32) hv.sl rfl rfl (by unfold maxLen; omega) (by omega) ?_; intro ao1 cap1 w1 hown1 hgr1 hblk1; simp only [Nat.zero_add, List.nil_append] at hown1 hblk1)
    | ((with_reducible show wpList _ _ _ (⟨some 11, _, _, _, _, _⟩ :: _) _ _); refine Shut.out ?_)
    | fail)
  show wpList _ _ _ _ _ _
  have hone : ∀ u ∈ (bcells (mark 165 ++ mark 90)).toArray.toList, u.oneCell' = true := fun u hu => bcells_one (mark 165 ++ mark 90) u hu
  refine wpl_append (o := ⟨some 11, _, _, _, _, _⟩) rfl (.tmp 7) (.tmp 10) 22 rfl tyIds (hown1.alloc _) (Sl.built w1 (bcells (mark 165 ++ mark 90)).toArray 24 32 2 rfl hone (by unfold maxLen; omega)) rfl rfl (by unfold maxLen; omega) (by omega) ?_
  intro ao3 cap3 w3 hown3 hgr3 hblk3
  obtain ⟨g, rfl, hg3⟩ := hown3.addr (by omega)
  have hcap3 := hown3.cap
  go_wp2_with fail
  go_ret
  refine ⟨g, cap3, rfl, ⟨hown3.cast rfl (by simp [bcells])⟩, ?_, ?_⟩
  · exact Chg.grown (((Chg.refl _ w).grown hgr1 (fun k hk => by simp [Value.ownBlock] at hk)).alloc _) hgr3 fun k hk => by
      rcases hblk1 with h | h
      · rw [h] at hk; simp [Value.ownBlock] at hk
      · rw [h] at hk; simp at hk; exact .inl (by omega)
  · have hs := hgr1.size
    rcases hblk3 with h | h
    · have h2 : (Value.slice (some (⟨g, 0, none⟩ : Addr)) (ls.length + 2) cap3).ownBlock = some g := rfl
      rw [h] at h2
      rcases hblk1 with h3 | h3
      · rw [h3] at h2; simp [Value.ownBlock] at h2
      · rw [h3] at h2; simp at h2; omega
    · simp [Value.ownBlock] at h; omega
end Go.Proofs.Ytafgeppdchnceaa
