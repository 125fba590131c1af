import Derived.Test.YtafgeppdchnceaaArgsD
import Derived.Test.YtafgeppdchnceaaPlaced
set_option linter.unusedVariables false
namespace Go.Proofs.Ytafgeppdchnceaa
open Go Go.RowKit Go.Sat Go.ChangeShapes Go.WideShapes Go.Deep
section
variable {H : Type} {enc : TypeId × Value → H} {w : World} {base : Nat} {spare : Nat → Bool} {held : Bool}

theorem bulkAll_map {α : Type} (f : α → DataW H) : ∀ l : List α, Rows.uptoBulkAll (l.map f) = (l.map fun a => Rows.uptoBulk (f a)).sum
  | [] => by simp [Rows.uptoBulkAll]
  | a :: l => by simp [Rows.uptoBulkAll, bulkAll_map f l]
theorem bulk_pos (d : DataW H) : 1 ≤ Rows.uptoBulk d := by
  cases d with
  | lit v => cases v <;> simp [Rows.uptoBulk]
  | nil => simp [Rows.uptoBulk]
  | ptr d => simp [Rows.uptoBulk]
  | slice a b => simp [Rows.uptoBulk]
  | agg a => simp [Rows.uptoBulk]
  | iface n d => simp [Rows.uptoBulk]
  | map e => simp [Rows.uptoBulk]
  | held h => simp [Rows.uptoBulk]
theorem bulk_many {α : Type} (f : α → DataW H) : ∀ l : List α, l.length ≤ (l.map fun a => Rows.uptoBulk (f a)).sum
  | [] => by simp
  | a :: l => by
    have := bulk_many f l
    have := bulk_pos (f a)
    simp; omega

set_option maxRecDepth 100000 in
/-- A slice of ids, opened, with its bulk. -/
theorem open_ids {fuel : Nat} {cs : List Value} {x : DataW H × List MemPlace} (h : DataW.trod enc Try.prog w base spare held fuel 22 cs = some x) :
    ∃ v ls, cs = [v] ∧ Ids w v ls ∧ ls.length ≤ Rows.uptoBulk x.1 := by
  rcases open_slice Try.underlying22 h with ⟨rfl, rfl⟩ | ⟨a, len, cap, m, n, D, Pl, rfl, hb, hl, hm, hmm, rfl, hx⟩
  · exact ⟨_, [], rfl, ⟨fun o ho => (by cases ho), ⟨rfl, fun u hu => (by cases hu), .inl ⟨rfl, none, 0, rfl, Nat.zero_le _, fun _ => rfl⟩⟩⟩, by simp⟩
  have k : Try.prog.cellsOf 24 = 32 := by kernel_rfl
  rw [k] at hx
  have hlm : len ≤ m := by rw [hmm]; split <;> omega
  have each : ∀ i, i < len → ∃ l : List UInt8, w.cells? base (a.add (i * 32)) 32 = some (bcells l) ∧ l.length = 32 := fun i hi => by
    obtain ⟨cs', h1, h2⟩ := hx i (by omega)
    obtain ⟨l, rfl, hl⟩ := open_arr Try.underlying24 Try.underlying5 (by kernel_rfl) k h2
    exact ⟨l, h1, hl⟩
  obtain ⟨f, hf⟩ := choose_lt each
  have hall : ∀ x ∈ (List.range len).map f, x.length = 32 := fun x hx => by
    obtain ⟨i, hi, rfl⟩ := List.mem_map.1 hx
    exact (hf i (List.mem_range.1 hi)).2
  refine ⟨.slice (some a) len cap, (List.range len).map f, rfl, ⟨hall, ?_⟩, ?_⟩
  · refine ⟨flat_len _ hall, fun u hu => by obtain ⟨x, _, hx⟩ := List.mem_flatMap.1 hu; exact bcells_one x u hx, ?_⟩
    have hlen : ((List.range len).map f).length = len := by simp
    rw [hlen]
    by_cases h0 : len = 0
    · subst h0
      exact .inl ⟨rfl, some a, cap, rfl, hm, fun h => by cases h⟩
    · obtain ⟨b, off, rfl, hbs, hc⟩ := cells_plain (fun i hi => (hf i hi).1) (by omega) (by omega)
      refine .inr ⟨b, off, cap, rfl, hl, hm, fun j u hu => ?_⟩
      have hj : j < len * 32 := by
        have := (List.getElem?_eq_some_iff.1 hu).1
        rw [flat_len _ hall, hlen] at this
        exact this
      have hi : j / 32 < len := by omega
      have e : j / 32 * 32 + j % 32 = j := by omega
      have hg := flat_get _ hall (j / 32) (j % 32) (by rw [hlen]; exact hi) (by omega)
      rw [e, hu] at hg
      have := (hc (j / 32) hi).2 (j % 32) u (by rw [hg]; simp)
      rw [Nat.add_assoc, e] at this
      exact this
  · simp only [Rows.uptoBulk, bulkAll_map]
    have := bulk_many D (List.range len)
    simp at this ⊢
    omega
end
end Go.Proofs.Ytafgeppdchnceaa
