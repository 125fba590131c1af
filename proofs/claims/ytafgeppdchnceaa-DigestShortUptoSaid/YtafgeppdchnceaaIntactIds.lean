import Derived.Test.YtafgeppdchnceaaLendIds
set_option linter.unusedVariables false
namespace Go.Proofs.Ytafgeppdchnceaa
open Go Go.RowKit Go.Sat

theorem LentIds.ids {w : World} {g cap : Nat} {ls : List (List UInt8)} (h : LentIds w g cap ls) (hls : ∀ x ∈ ls, x.length = 32) : Ids w (.slice (some ⟨g, 0, none⟩) (ls.length + 2) cap) (ls ++ [mark 165, mark 90]) := by
  refine ⟨fun x hx => ?_, ?_⟩
  · simp only [List.mem_append, List.mem_cons, List.not_mem_nil, or_false] at hx
    rcases hx with hx | rfl | rfl
    · exact hls x hx
    · rfl
    · rfl
  · have h1 := h.own.sl (fun u hu => by obtain ⟨x, _, hx⟩ := List.mem_flatMap.1 hu; exact bcells_one x u hx)
    simpa using h1
theorem LentIds.kept {S : Nat → Prop} {w w' : World} {g cap : Nat} {ls : List (List UInt8)} (h : LentIds w g cap ls) (hc : Chg S w w') (hn : ¬ S g) : LentIds w' g cap ls :=
  ⟨h.own.kept hc (fun k hk => by simp [Value.ownBlock] at hk; subst hk; exact hn)⟩

set_option maxRecDepth 100000 in
set_option maxHeartbeats 1600000 in
theorem intactIds_any (v : Value) (g cap : Nat) (ls : List (List UInt8)) (w : World) (hm : LentIds w g cap ls) (hv : Ids w v ls) (hn : ls.length ≤ 1000000000) :
    Calls Try.prog 7 #[.slice (some ⟨g, 0, none⟩) ls.length cap, v] w fun e w' => e = .returned (.bool true) ∧ Chg (fun _ => False) w w' := by
  have hM := hm.ids hv.all
  have hcap := hm.own.cap
  obtain ⟨ao, c, rfl, hc⟩ := hv.form
  go_enter Try.func7, Try.ntmps7
  go_wp2_with fail
  go_loopw [5] (fun i wr => ∃ k : Nat, k ≤ ls.length ∧ i = .int .i64 k ∧ Chg (fun _ => False) w wr) (fun i _ => ls.length - (intOf i).toNat)
  case atStart => exact ⟨0, Nat.zero_le _, rfl, Chg.refl _ _⟩
  case round =>
    obtain ⟨k, hk, rfl, C⟩ := hrel
    have M := hM.kept C (fun _ _ => id)
    have V := hv.kept C (fun _ _ => id)
    by_cases hlt : k < ls.length
    · obtain ⟨b, off, hao, _⟩ := V.addr (by omega)
      subst hao
      have hr := V.range hlt
      have hx := V.all _ (List.getElem_mem hlt)
      have hr2 := M.range (i := k) (by simp; omega)
      rw [List.getElem_append_left hlt, Nat.zero_add] at hr2
      have heq := eql_id hx hx
      generalize ls[k] = x at hr hx hr2 heq
      have hself : (x == x) = true := by simp
      rw [hself] at heq
      clear M V
      go_wp2_with fail
      refine wp_region_but (fun o => o.dst == some 21) mixed (by kernel_rfl) ?_
      go_wp2_with (first
        | ((with_reducible show wpList _ _ _ (⟨some 16, .load _ _, _, _, _, _⟩ :: _) _ _); refine wpl_load_mid rfl 24 (.tmp 15) rfl rfl (cs := bcells x) hr2 Try.underlying24 (idInfoL hx) ?_)
        | ((with_reducible show wpList _ _ _ (⟨some 20, .load _ _, _, _, _, _⟩ :: _) _ _); refine wpl_load_mid rfl 24 (.tmp 19) rfl rfl (cs := bcells x) hr Try.underlying24 (idInfoL hx) ?_)
        | fail)
      refine TQ.normal (by kernel_rfl) ?_
      go_wp2_with fail
      exact ⟨⟨k + 1, by omega, rfl, C.drew⟩, by simp [intOf]; omega⟩
    · obtain rfl : k = ls.length := by omega
      have hr1 := M.range (i := ls.length) (by simp)
      have hr2 := M.range (i := ls.length + 1) (by simp)
      rw [List.getElem_append_right (by omega), Nat.zero_add] at hr1 hr2
      have e1 : [mark 165, mark 90][ls.length - ls.length]'(by simp) = mark 165 := by simp
      have e2 : [mark 165, mark 90][ls.length + 1 - ls.length]'(by simp) = mark 90 := by simp
      rw [e1] at hr1
      rw [e2] at hr2
      have q1 : ∀ w, (Op.equalIn 10000 24 (.agg (bcells (mark 165)).toArray) (.agg #[.int .u8 165, .int .u8 0, .int .u8 0, .int .u8 0, .int .u8 0, .int .u8 0, .int .u8 0, .int .u8 0, .int .u8 0, .int .u8 0, .int .u8 0, .int .u8 0, .int .u8 0, .int .u8 0, .int .u8 0, .int .u8 0, .int .u8 0, .int .u8 0, .int .u8 0, .int .u8 0, .int .u8 0, .int .u8 0, .int .u8 0, .int .u8 0, .int .u8 0, .int .u8 0, .int .u8 0, .int .u8 0, .int .u8 0, .int .u8 0, .int .u8 0, .int .u8 0])).run Try.prog w = .ok true w := fun w => eql_id (l := mark 165) (r := mark 165) rfl rfl w
      have q2 : ∀ w, (Op.equalIn 10000 24 (.agg (bcells (mark 90)).toArray) (.agg #[.int .u8 90, .int .u8 0, .int .u8 0, .int .u8 0, .int .u8 0, .int .u8 0, .int .u8 0, .int .u8 0, .int .u8 0, .int .u8 0, .int .u8 0, .int .u8 0, .int .u8 0, .int .u8 0, .int .u8 0, .int .u8 0, .int .u8 0, .int .u8 0, .int .u8 0, .int .u8 0, .int .u8 0, .int .u8 0, .int .u8 0, .int .u8 0, .int .u8 0, .int .u8 0, .int .u8 0, .int .u8 0, .int .u8 0, .int .u8 0, .int .u8 0, .int .u8 0])).run Try.prog w = .ok true w := fun w => eql_id (l := mark 90) (r := mark 90) rfl rfl w
      go_wp2_with (first
        | ((with_reducible show wpList _ _ _ (⟨some 31, .load _ _, _, _, _, _⟩ :: _) _ _); refine wpl_load_mid rfl 24 (.tmp 30) rfl rfl (cs := bcells (mark 165)) hr1 Try.underlying24 (idInfoL rfl) ?_)
        | ((with_reducible show wpList _ _ _ (⟨some 40, .load _ _, _, _, _, _⟩ :: _) _ _); refine Shut.out ?_)
        | fail)
      show wpList _ _ _ _ _ _
      refine wpl_load_mid rfl 24 (.tmp 39) rfl rfl (cs := bcells (mark 90)) hr2 Try.underlying24 (idInfoL rfl) ?_
      go_wp2_with fail
      go_ret
      exact ⟨rfl, C⟩
end Go.Proofs.Ytafgeppdchnceaa
