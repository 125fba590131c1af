import Derived.Test.YtnfmeaifbankjaaCodeMany
import Derived.Test.YtnfmeaifbankjaaArgs
set_option linter.unusedVariables false
namespace Go.Proofs.Ytnfmeaifbankjaa
open Go Go.RowKit Go.Sat Go.ChangeShapes Go.WideShapes Go.Deep
section
variable {H : Type} {enc : TypeId × Value → H} {w : World} {base : Nat} {spare : Nat → Bool} {held : Bool}

set_option maxRecDepth 100000 in
/-- A slice of slices of bytes, opened, with its bulk. -/
theorem open_rows {fuel : Nat} {cs : List Value} {x : DataW H × List MemPlace} (h : DataW.trod enc Try.prog w base spare held fuel 40 cs = some x) :
    ∃ v bs, cs = [v] ∧ RdRows w v bs ∧ bulkRows bs ≤ Rows.uptoBulk x.1 := by
  rcases open_slice Try.underlying40 h with ⟨rfl, rfl⟩ | ⟨a, len, cap, m, n, D, Pl, rfl, hb, hl, hm, hmm, rfl, hx⟩
  · exact ⟨_, [], rfl, ⟨fun o ho => (by cases ho), .inl ⟨rfl, none, 0, rfl⟩⟩, by simp [bulkRows]⟩
  have k : Try.prog.cellsOf 22 = 1 := by kernel_rfl
  rw [k] at hx
  have hlm : len ≤ m := by rw [hmm]; split <;> omega
  have each : ∀ i, i < len → ∃ r : Value × List UInt8, w.cells? base (a.add (i * 1)) 1 = some [r.1] ∧ (Rd w r.1 r.2 ∧ ∀ k, rdb r.1 = some k → k < w.heap.size) ∧ r.2.length + 1 ≤ Rows.uptoBulk (D i) := fun i hi => by
    obtain ⟨cs', h1, h2⟩ := hx i (by omega)
    obtain ⟨v, l, rfl, hr, hk, hbulk⟩ := open_rd h2
    exact ⟨(v, l), h1, ⟨hr, hk⟩, hbulk⟩
  obtain ⟨f, hf⟩ := choose_lt each
  refine ⟨.slice (some a) len cap, (List.range len).map f, rfl, ⟨fun o ho => ?_, ?_⟩, ?_⟩
  · obtain ⟨i, hi, rfl⟩ := List.mem_map.1 ho
    exact (hf i (List.mem_range.1 hi)).2.1
  · by_cases h0 : len = 0
    · subst h0
      exact .inl ⟨rfl, _, _, rfl⟩
    · obtain ⟨b, off, rfl, hbs, hc⟩ := cells_plain (fun i hi => (hf i hi).1) (by omega) (by omega)
      refine .inr ⟨b, off, cap, by simp, hbs, fun i hi => ?_⟩
      have hi' : i < len := by simpa using hi
      have := (hc i hi').2 0 (f i).1 rfl
      simpa using this
  · simp only [Rows.uptoBulk, bulkAll_map, bulkRows, List.map_map]
    have key : ∀ l : List Nat, (∀ i ∈ l, i < len) → (l.map ((fun o : Value × List UInt8 => o.2.length + 1) ∘ f)).sum ≤ (l.map fun i => Rows.uptoBulk (D i)).sum := by
      intro l
      induction l with
      | nil => simp
      | cons i l ih =>
        intro hi
        have h1 := (hf i (hi i List.mem_cons_self)).2.2
        have h2 := ih fun j hj => hi j (List.mem_cons_of_mem _ hj)
        simp only [List.map_cons, List.sum_cons, Function.comp_apply] at h2 ⊢
        omega
    have := key (List.range len) fun i hi => List.mem_range.1 hi
    omega
end
end Go.Proofs.Ytnfmeaifbankjaa
