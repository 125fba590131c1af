import Derived.Test.YtnfmeaifbankjaaOps
import Derived.Test.YtnfmeaifbankjaaOpen
import Derived.Test.YtnfmeaifbankjaaRows
import Derived.WalkKit
import Derived.ProofKit
import Derived.OpenShut
import Derived.JoinedCond
set_option linter.unusedVariables false
namespace Go.Proofs.Ytnfmeaifbankjaa
open Go Go.RowKit Go.Sat Go.ChangeShapes Go.WideShapes Go.Deep
section
variable {H : Type} {enc : TypeId × Value → H} {w : World} {base : Nat} {spare : Nat → Bool} {held : Bool}

theorem laidOut : laidOutB Try.prog = true := by kernel_rfl
theorem ownNone : ownKnob Try.prog.godebug = none := by kernel_rfl
theorem bulkAll_map {α : Type} (f : α → DataW H) : ∀ l : List α, Rows.uptoBulkAll (l.map f) = (l.map fun a => Rows.uptoBulk (f a)).sum
  | [] => by simp [Rows.uptoBulkAll]
  | a :: l => by simp [Rows.uptoBulkAll, bulkAll_map f l]
theorem bulk_pos (d : DataW H) : 1 ≤ Rows.uptoBulk d := by
  cases d with
  | lit v => cases v <;> simp [Rows.uptoBulk]
  | nil => simp [Rows.uptoBulk]
  | ptr d => simp [Rows.uptoBulk]
  | slice a b => simp [Rows.uptoBulk]
  | agg a => simp [Rows.uptoBulk]
  | iface n d => simp [Rows.uptoBulk]
  | map e => simp [Rows.uptoBulk]
  | held h => simp [Rows.uptoBulk]
theorem sum_ones {α : Type} : ∀ l : List α, (l.map fun _ => 1).sum = l.length
  | [] => rfl
  | a :: l => by simp [sum_ones l]; omega
theorem bulk_bytes (l : List UInt8) (s : List (DataW H)) : l.length + 1 ≤ Rows.uptoBulk (DataW.slice (l.map fun b => .lit (.int .u8 (b.toNat : Int))) s) := by
  have h := bulkAll_map (H := H) (fun b : UInt8 => DataW.lit (.int .u8 (b.toNat : Int))) l
  simp only [Rows.uptoBulk] at h ⊢
  rw [sum_ones] at h
  omega
/-- A slice of bytes, opened, with its bulk. -/
theorem open_rd {fuel : Nat} {cs : List Value} {x : DataW H × List MemPlace} (h : DataW.trod enc Try.prog w base spare held fuel 22 cs = some x) :
    ∃ v l, cs = [v] ∧ Rd w v l ∧ (∀ k, rdb v = some k → k < w.heap.size) ∧ l.length + 1 ≤ Rows.uptoBulk x.1 := by
  obtain ⟨v, l, rfl, hr, hk, hd⟩ := open_bytes Try.underlying22 Try.underlying5 (by kernel_rfl) h
  refine ⟨v, l, rfl, hr, hk, ?_⟩
  rcases hd with ⟨hd, rfl⟩ | ⟨s, hd⟩
  · rw [hd]; simp [Rows.uptoBulk]
  · rw [hd]; exact bulk_bytes l s

set_option maxRecDepth 100000 in
theorem open_op {fuel : Nat} {cs : List Value} {x : DataW H × List MemPlace} (h : DataW.trod enc Try.prog w base spare held fuel 32 cs = some x) :
    ∃ o : OpV, cs = o.cells ∧ o.Ok w ∧ o.b.length + 1 ≤ Rows.uptoBulk x.1 := by
  obtain ⟨xs, n, rfl, rfl, hl, hlen, hf⟩ := DataW.trod_struct Try.underlying32 h
  have k1 : Try.prog.cellsOf 3 = 1 := by kernel_rfl
  have k2 : Try.prog.cellsOf 30 = 1 := by kernel_rfl
  have k3 : Try.prog.cellsOf 22 = 1 := by kernel_rfl
  have hl5 : cs.length = 5 := hl.trans (by kernel_rfl)
  match cs, hl5, xs, hlen with
  | [c0, c1, c2, c3, c4], _, [x0, x1, x2, x3, x4], _ =>
    have g0 := hf 0 _ rfl
    have g1 := hf 1 _ rfl
    have g2 := hf 2 _ rfl
    have g3 := hf 3 _ rfl
    have g4 := hf 4 _ rfl
    simp [k1, k2, k3] at g0 g1 g2 g3 g4
    obtain ⟨a0, e0, _, b0⟩ := DataW.trod_int Try.underlying3 g0
    obtain ⟨a1, e1, _, b1⟩ := DataW.trod_int Try.underlying3 g1
    obtain ⟨a2, e2, _, b2⟩ := DataW.trod_int Try.underlying3 g2
    obtain ⟨a3, e3, _, b3⟩ := DataW.trod_int Try.underlying30 g3
    obtain ⟨v, l, e4, hr, hk, hd⟩ := open_rd g4
    simp only [List.cons.injEq, and_true] at e0 e1 e2 e3 e4
    subst e0 e1 e2 e3 e4
    refine ⟨⟨a0, a1, a2, a3, c4, l⟩, rfl, ⟨lit_bounds_i64 b0, lit_bounds_i64 b1, lit_bounds_i64 b2, lit_bounds_u64 b3, hr, hk⟩, ?_⟩
    simp [Rows.uptoBulk, Rows.uptoBulkAll]
    omega

instance : Inhabited OpV := ⟨⟨0, 0, 0, 0, .slice none 0 0, []⟩⟩

set_option maxRecDepth 100000 in
theorem open_ops {fuel : Nat} {cs : List Value} {x : DataW H × List MemPlace} (h : DataW.trod enc Try.prog w base spare held fuel 24 cs = some x) :
    ∃ v ops, cs = [v] ∧ RdOps w v ops ∧ bulkOps ops ≤ Rows.uptoBulk x.1 := by
  rcases open_slice Try.underlying24 h with ⟨rfl, rfl⟩ | ⟨a, len, cap, m, n, D, Pl, rfl, hb, hl, hm, hmm, rfl, hx⟩
  · exact ⟨_, [], rfl, ⟨fun o ho => (by cases ho), .inl ⟨rfl, none, 0, rfl⟩⟩, by simp [bulkOps]⟩
  have k : Try.prog.cellsOf 32 = 5 := by kernel_rfl
  rw [k] at hx
  have hlm : len ≤ m := by rw [hmm]; split <;> omega
  have each : ∀ i, i < len → ∃ o : OpV, w.cells? base (a.add (i * 5)) 5 = some o.cells ∧ o.Ok w ∧ o.b.length + 1 ≤ Rows.uptoBulk (D i) := fun i hi => by
    obtain ⟨cs', h1, h2⟩ := hx i (by omega)
    obtain ⟨o, rfl, ho, hbulk⟩ := open_op h2
    exact ⟨o, h1, ho, hbulk⟩
  obtain ⟨f, hf⟩ := choose_lt each
  refine ⟨.slice (some a) len cap, (List.range len).map f, rfl, ⟨fun o ho => ?_, ?_⟩, ?_⟩
  · obtain ⟨i, hi, rfl⟩ := List.mem_map.1 ho
    exact (hf i (List.mem_range.1 hi)).2.1
  · by_cases h0 : len = 0
    · subst h0
      exact .inl ⟨rfl, _, _, rfl⟩
    · obtain ⟨b, off, rfl, hbs, hc⟩ := cells_plain (fun i hi => (hf i hi).1) (by omega) (by omega)
      refine .inr ⟨b, off, cap, by simp, hbs, fun i hi j u hu => ?_⟩
      have hi' : i < len := by simpa using hi
      exact (hc i hi').2 j u (by simpa using hu)
  · simp only [Rows.uptoBulk, bulkAll_map, bulkOps, List.map_map]
    have key : ∀ l : List Nat, (∀ i ∈ l, i < len) → (l.map ((fun o : OpV => o.b.length + 1) ∘ f)).sum ≤ (l.map fun i => Rows.uptoBulk (D i)).sum := by
      intro l
      induction l with
      | nil => simp
      | cons i l ih =>
        intro hi
        have h1 := (hf i (hi i List.mem_cons_self)).2.2
        have h2 := ih fun j hj => hi j (List.mem_cons_of_mem _ hj)
        simp only [List.map_cons, List.sum_cons, Function.comp_apply] at h2 ⊢
        omega
    have := key (List.range len) fun i hi => List.mem_range.1 hi
    omega
end
end Go.Proofs.Ytnfmeaifbankjaa
