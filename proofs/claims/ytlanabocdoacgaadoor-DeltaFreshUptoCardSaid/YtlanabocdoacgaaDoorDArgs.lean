import Derived.Test.YtlanabocdoacgaaDoorDPairs
import Derived.Test.YtlanabocdoacgaaDoorOpen
import Derived.Test.YtlanabocdoacgaaDoorRows
import Derived.Test.YtlanabocdoacgaaDoorCards
import Derived.Test.YtlanabocdoacgaaDoorTie
import Derived.WalkKit
import Derived.ProofKit
import Derived.OpenShut
import Derived.JoinedCond
import Derived.Deep.DeepHandedRow
import Derived.Lib.LaidTab
set_option linter.unusedVariables false
namespace Go.Proofs.YtlanabocdoacgaaDoor
open Go Go.RowKit Go.Sat Go.ChangeShapes Go.WideShapes Go.ChangeAt Go.Deep
section
variable {H : Type} {enc : TypeId × Value → H} {w : World} {base : Nat} {spare : Nat → Bool} {held : Bool}
theorem laidOut : laidOutB Tryd.prog = true := by kernel_rfl
theorem ownNone : ownKnob Tryd.prog.godebug = none := by kernel_rfl
theorem bulkAll_map {α : Type} (f : α → DataW H) : ∀ l : List α, Rows.uptoBulkAll (l.map f) = (l.map fun a => Rows.uptoBulk (f a)).sum
  | [] => by simp [Rows.uptoBulkAll]
  | a :: l => by simp [Rows.uptoBulkAll, bulkAll_map f l]
theorem sum_ones {α : Type} : ∀ l : List α, (l.map fun _ => 1).sum = l.length
  | [] => rfl
  | a :: l => by simp [sum_ones l]; omega
theorem bulk_bytes (l : List UInt8) (s : List (DataW H)) : l.length + 1 ≤ Rows.uptoBulk (DataW.slice (l.map fun b => .lit (.int .u8 (b.toNat : Int))) s) := by
  have h := bulkAll_map (H := H) (fun b : UInt8 => DataW.lit (.int .u8 (b.toNat : Int))) l
  simp only [Rows.uptoBulk] at h ⊢
  rw [sum_ones] at h
  omega
/-- A slice of bytes, opened, with its bulk. -/
theorem open_rd {fuel : Nat} {cs : List Value} {x : DataW H × List MemPlace} (h : DataW.trod enc Tryd.prog w base spare held fuel 24 cs = some x) :
    ∃ v l, cs = [v] ∧ Rd w v l ∧ (∀ k, rdb v = some k → k < w.heap.size) ∧ l.length + 1 ≤ Rows.uptoBulk x.1 := by
  obtain ⟨v, l, rfl, hr, hk, hd⟩ := open_bytes Tryd.underlying24 Tryd.underlying5 (by kernel_rfl) h
  refine ⟨v, l, rfl, hr, hk, ?_⟩
  rcases hd with ⟨hd, rfl⟩ | ⟨s, hd⟩
  · rw [hd]; simp [Rows.uptoBulk]
  · rw [hd]; exact bulk_bytes l s
set_option maxRecDepth 100000 in
theorem open_pair {fuel : Nat} {cs : List Value} {x : DataW H × List MemPlace} (h : DataW.trod enc Tryd.prog w base spare held fuel 27 cs = some x) :
    ∃ o : PairV, cs = o.cells ∧ o.Ok w ∧ o.b.length + o.d.length + 1 ≤ Rows.uptoBulk x.1 := by
  obtain ⟨xs, n, rfl, rfl, hl, hlen, hf⟩ := DataW.trod_struct Tryd.underlying27 h
  have k1 : Tryd.prog.cellsOf 24 = 1 := by kernel_rfl
  have hl5 : cs.length = 2 := hl.trans (by kernel_rfl)
  match cs, hl5, xs, hlen with
  | [c0, c1], _, [x0, x1], _ =>
    have g0 := hf 0 _ rfl
    have g1 := hf 1 _ rfl
    simp [k1] at g0 g1
    obtain ⟨v0, l0, e0, r0, _, d0⟩ := open_rd g0
    obtain ⟨v1, l1, e1, r1, _, d1⟩ := open_rd g1
    simp only [List.cons.injEq, and_true] at e0 e1
    subst e0 e1
    refine ⟨⟨c0, c1, l0, l1⟩, rfl, ⟨r0, r1⟩, ?_⟩
    simp [Rows.uptoBulk, Rows.uptoBulkAll]
    omega
instance : Inhabited PairV := ⟨⟨.slice none 0 0, .slice none 0 0, [], []⟩⟩
set_option maxRecDepth 100000 in
theorem open_pairs {fuel : Nat} {cs : List Value} {x : DataW H × List MemPlace} (h : DataW.trod enc Tryd.prog w base spare held fuel 22 cs = some x) :
    ∃ v ps, cs = [v] ∧ RdPairs w v ps ∧ bulkPairs ps ≤ Rows.uptoBulk x.1 := by
  rcases open_slice Tryd.underlying22 h with ⟨rfl, rfl⟩ | ⟨a, len, cap, m, n, D, Pl, rfl, hb, hl, hm, hmm, rfl, hx⟩
  · exact ⟨_, [], rfl, ⟨fun o ho => (by cases ho), .inl ⟨rfl, none, 0, rfl⟩⟩, by simp [bulkPairs]⟩
  have k : Tryd.prog.cellsOf 27 = 2 := by kernel_rfl
  rw [k] at hx
  have hlm : len ≤ m := by rw [hmm]; split <;> omega
  have each : ∀ i, i < len → ∃ o : PairV, w.cells? base (a.add (i * 2)) 2 = some o.cells ∧ o.Ok w ∧ o.b.length + o.d.length + 1 ≤ Rows.uptoBulk (D i) := fun i hi => by
    obtain ⟨cs', h1, h2⟩ := hx i (by omega)
    obtain ⟨o, rfl, ho, hbulk⟩ := open_pair h2
    exact ⟨o, h1, ho, hbulk⟩
  obtain ⟨f, hf⟩ := choose_lt each
  refine ⟨.slice (some a) len cap, (List.range len).map f, rfl, ⟨fun o ho => ?_, ?_⟩, ?_⟩
  · obtain ⟨i, hi, rfl⟩ := List.mem_map.1 ho
    exact (hf i (List.mem_range.1 hi)).2.1
  · by_cases h0 : len = 0
    · subst h0
      exact .inl ⟨rfl, _, _, rfl⟩
    · obtain ⟨b, off, rfl, hbs, hc⟩ := cells_plain (fun i hi => (hf i hi).1) (by omega) (by omega)
      refine .inr ⟨b, off, cap, by simp, hbs, fun i hi j u hu => ?_⟩
      have hi' : i < len := by simpa using hi
      exact (hc i hi').2 j u (by simpa using hu)
  · simp only [Rows.uptoBulk, bulkAll_map, bulkPairs, List.map_map]
    have key : ∀ l : List Nat, (∀ i ∈ l, i < len) → (l.map ((fun o : PairV => o.b.length + o.d.length + 1) ∘ f)).sum ≤ (l.map fun i => Rows.uptoBulk (D i)).sum := by
      intro l
      induction l with
      | nil => simp
      | cons i l ih =>
        intro hi
        have h1 := (hf i (hi i List.mem_cons_self)).2.2
        have h2 := ih fun j hj => hi j (List.mem_cons_of_mem _ hj)
        simp only [List.map_cons, List.sum_cons, Function.comp_apply] at h2 ⊢
        omega
    have := key (List.range len) fun i hi => List.mem_range.1 hi
    omega
end
theorem gErr : Tryd.prog.globalNamed "satchel/code.errnos" = some 0 := by kernel_rfl
theorem gErrType : (Tryd.prog.globals[0]?).map (·.type) = some 103 := by kernel_rfl
theorem cellsErrs : Tryd.prog.cellsOf 103 = 5 := by kernel_rfl
theorem cellsErr : Tryd.prog.cellsOf 28 = 1 := by kernel_rfl
/-- What the row's list gives: the table of errors. -/
theorem errnos_of {W : World} (h : laidMetH Tryd.prog [("satchel/code.errnos", Rows.laid_satchel_code_errnos)] W) : Errnos W := by
  have ht : Lib.TabIs Tryd.prog W "satchel/code.errnos" .i64 [0, 10, 11, 12, 14] := Lib.tabIs_of_head (rest := []) gErr gErrType Tryd.underlying103 Tryd.underlying28 cellsErr cellsErrs h
  intro i hi
  have := ht.cell gErr i (by simpa using hi)
  rw [this]
  match i, hi with
  | 0, _ => rfl
  | 1, _ => rfl
  | 2, _ => rfl
  | 3, _ => rfl
  | 4, _ => rfl
/-- A world for the witness: the settled one, the table (block 0) holding what its initialiser lays. -/
noncomputable def laidWorld (os : Os) : World :=
  { World.holding Tryd.prog os ⟨#[], #[], []⟩ with heap := (World.holding Tryd.prog os ⟨#[], #[], []⟩).heap.modify 0 fun
      | .cells _ t frozen => .cells #[.int .i64 0, .int .i64 10, .int .i64 11, .int .i64 12, .int .i64 14] t frozen
      | o => o }
theorem laid_met (os : Os) (args : Array Value) : laidMet Tryd.prog [("satchel/code.errnos", Rows.laid_satchel_code_errnos)] ((laidWorld os).forCall (fun _ _ => 0) ⟨#[], args, []⟩).memory :=
  laidMet_of_run' 8 (by kernel_rfl) (by kernel_rfl)
end Go.Proofs.YtlanabocdoacgaaDoor
