import Derived.Test.YtafgeppdchnceaaIntactIds
set_option linter.unusedVariables false
namespace Go.Sat
open Go Go.RowKit

/-- One cell of a slice of the call's own is written, whatever an element's size. -/
theorem Own.setC {w : World} {e : TypeId} {sz g n c : Nat} {xs : List Value} (h : Own w e sz (.slice (some ⟨g, 0, none⟩) n c) n xs) {i : Nat} (hi : i < n * sz) (u : Value) :
    Own (w.setCell ⟨g, i, none⟩ u) e sz (.slice (some ⟨g, 0, none⟩) n c) n (xs.set i u) ∧ w.frozen? ⟨g, i, none⟩ = false ∧ w.cell? ⟨g, i, none⟩ = xs[i]? := by
  rcases h.2 with ⟨h0, _⟩ | ⟨g', c', cur, h0, hb, hg, hnc, hcm, hcs, htake⟩
  · cases h0
  · cases h0
    have hlen := h.1
    refine ⟨⟨by simpa using hlen, .inr ⟨g, c, cur.setIfInBounds i u, rfl, hb, ?_, hnc, hcm, by simpa using hcs, ?_⟩⟩, frozen_of_row w g i cur e hg, ?_⟩
    · rw [setCell_eq_setRow w g i cur e (0, 0) u hg]; exact setRow_heap w g cur _ e (0, 0) hg
    · rw [Array.toList_setIfInBounds, ← htake, List.take_set]
    · rw [cell_of_row w g i cur e (0, 0) hg, ← htake, List.getElem?_take, if_pos hi]
      simp
theorem Own.setCs {e : TypeId} {sz g n c : Nat} : ∀ (cs old A B : List Value) (w : World), old.length = cs.length → Own w e sz (.slice (some ⟨g, 0, none⟩) n c) n (A ++ old ++ B) →
    Own (w.setCells g A.length cs) e sz (.slice (some ⟨g, 0, none⟩) n c) n (A ++ cs ++ B)
  | [], [], A, B, w, _, h => h
  | u :: cs, o :: old, A, B, w, hl, h => by
    have hlen := h.1
    have h1 := (h.setC (i := A.length) (by simp at hlen; omega) u).1
    have e1 : (A ++ o :: old ++ B).set A.length u = (A ++ [u]) ++ old ++ B := by
      rw [List.append_assoc, List.set_append_right _ _ (Nat.le_refl _)]; simp
    rw [e1] at h1
    have h2 := Own.setCs cs old (A ++ [u]) B _ (by simpa using hl) h1
    simpa [World.setCells] using h2
  | [], _ :: _, _, _, _, h, _ => by simp at h
  | _ :: _, [], _, _, _, h, _ => by simp at h
theorem setCells_chg (g : Nat) : ∀ (cs : List Value) (o : Nat) (w : World), Chg (fun k => k = g) w (w.setCells g o cs)
  | [], _, w => Chg.refl _ w
  | u :: cs, o, w => (setCell_chg w ⟨g, o, none⟩ u).trans (setCells_chg g cs (o + 1) _) fun _ _ h => h
theorem Own.there {w : World} {e : TypeId} {sz g n c : Nat} {xs : List Value} (h : Own w e sz (.slice (some ⟨g, 0, none⟩) n c) n xs) {o m : Nat} (ho : o + m ≤ n * sz) : w.there g o m := fun j hj => by
  have h1 := h.setC (i := o + j) (by omega) (.bool true)
  have hlen := h.1
  refine ⟨?_, h1.2.1⟩
  rw [h1.2.2, List.getElem?_eq_getElem (by omega)]; rfl
end Go.Sat
