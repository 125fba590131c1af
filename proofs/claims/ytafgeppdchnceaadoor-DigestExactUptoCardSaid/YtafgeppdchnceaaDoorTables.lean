import Derived.Test.YtafgeppdchnceaaDoorKeyed
import Derived.Test.YtafgeppdchnceaaDoorOpen
import Derived.Test.YtafgeppdchnceaaDoorCards
import Derived.Test.YtafgeppdchnceaaDoorTie
import Derived.Deep.DeepHandedRow
import Derived.Lib.LaidTab
import Derived.JoinedCond
import Derived.ProofKit
set_option linter.unusedVariables false
namespace Go.Sat
open Go Go.RowKit Go.ChangeShapes Go.WideShapes Go.Deep Go.Lib
theorem LaidVars_tail {P : Program} {W : World} {x : String × DataW Unit} {r : List (String × DataW Unit)} {ps : List MemPlace} (h : DataW.LaidVars P W (x :: r) ps) : ∃ q, DataW.LaidVars P W r q := by
  obtain ⟨n, d⟩ := x
  obtain ⟨_, _, _, _, _, q, _, _, _, _, h, _⟩ := h
  exact ⟨q, h⟩
theorem tab_of_vars {P : Program} {W : World} {name : String} {k : IntKind} {zs : List Int} {rest : List (String × DataW Unit)} {g : Nat} {t e : TypeId} {n : Nat} {ps : List MemPlace}
    (hg : P.globalNamed name = some g) (hty : (P.globals[g]?).map (·.type) = some t) (ht : P.underlying t = some (.array n e)) (he : P.underlying e = some (.int k)) (hce : P.cellsOf e = 1) (hct : P.cellsOf t = n)
    (h : DataW.LaidVars P W ((name, tabData k zs) :: rest) ps) : TabIs P W name k zs := by
  obtain ⟨g', t', cs, fuel, p, q, hg', ht', hvar, hd, _, _⟩ := h
  obtain rfl := Option.some.inj (hg.symm.trans hg')
  obtain rfl := Option.some.inj (hty.symm.trans ht')
  unfold TabIs
  rw [hvar, ← cells_of_tab ht he hce hct hd]
theorem getD_cast (l : List Nat) (i : Nat) : (l.map fun (n : Nat) => (n : Int)).getD i 0 = ((l.getD i 0 : Nat) : Int) := by
  simp only [List.getD, List.getElem?_map]
  cases l[i]? <;> rfl
section
variable {H : Type} {enc : TypeId × Value → H} {P : Program} {w : World} {base : Nat} {spare : Nat → Bool} {held : Bool}
/-- A slice of numbers, opened. -/
theorem open_nums {t e : TypeId} {fuel : Nat} {cs : List Value} {x : DataW H × List MemPlace} (ht : P.underlying t = some (.slice e)) (he : P.underlying e = some (.int .i64)) (hc : P.cellsOf e = 1)
    (h : DataW.trod enc P w base spare held fuel t cs = some x) :
    ∃ v l, cs = [v] ∧ Sl w 1 v l.length (l.map (Value.int .i64)) ∧ (∀ k, rdb v = some k → k < w.heap.size) ∧
      ((x.1 = .nil ∧ l = []) ∨ ∃ d s, x.1 = .slice d s ∧ d.length = l.length) := by
  rcases open_slice1 ht hc h with ⟨rfl, rfl⟩ | ⟨a, len, cap, m, n, V, D, Pl, rfl, hb, hl, hm, hmm, rfl, hx⟩
  · exact ⟨_, [], rfl, ⟨rfl, by simp, .inl ⟨rfl, none, 0, rfl, Nat.zero_le _, fun _ => rfl⟩⟩, fun k hk => by simp [rdb] at hk, .inl ⟨rfl, rfl⟩⟩
  have hlm : len ≤ m := by rw [hmm]; split <;> omega
  have each : ∀ i, i < len → ∃ b : Int, V i = .int .i64 b := fun i hi => by
    obtain ⟨_, h2⟩ := hx i (by omega)
    obtain ⟨q, h3, h4, h5⟩ := DataW.trod_int he h2
    simp only [List.cons.injEq, and_true] at h3
    exact ⟨q, h3⟩
  obtain ⟨f, hf⟩ := choose_lt each
  have hlen : ((List.range len).map f).length = len := by simp
  refine ⟨.slice (some a) len cap, (List.range len).map f, rfl, ?_, fun k hk => ?_, .inr ⟨_, _, rfl, by simp⟩⟩
  · refine ⟨by simp, by intro u hu; simp only [List.mem_map] at hu; obtain ⟨b, _, rfl⟩ := hu; rfl, ?_⟩
    rw [hlen]
    by_cases h0 : len = 0
    · subst h0
      exact .inl ⟨rfl, some a, cap, rfl, hm, fun h => by cases h⟩
    · obtain ⟨b, off, spot⟩ := a
      have hc0 := (hx 0 (by omega)).1
      have hspot : spot = none := by simpa [Addr.add] using World.cell?_spot hc0
      subst hspot
      refine .inr ⟨b, off, cap, rfl, hl, hm, fun j u hu => ?_⟩
      have hj : j < len := by
        have := (List.getElem?_eq_some_iff.1 hu).1
        simpa using this
      have := (hx j (by omega)).1
      rw [addr_add] at this
      rw [this, hf j hj]
      simp [List.getElem?_range hj] at hu
      rw [hu]
  · simp only [rdb] at hk
    split at hk
    · cases hk
    · cases hk
      have hc0 := (hx 0 (by omega)).1
      exact World.block_lt_of_cell? w _ hc0
/-- What a slice of bytes weighs. -/
theorem weigh_bytes {t e : TypeId} {d : DataW H} {l : List UInt8} (ht : P.underlying t = some (.slice e)) (hb : P.bytesOf e = 1) (hd : (d = .nil ∧ l = []) ∨ ∃ s, d = .slice (l.map fun b => .lit (.int .u8 (b.toNat : Int))) s) (h : (d.weights P t).all (· ≤ reachBytes) = true) : l.length ≤ 140737488351232 := by
  rcases hd with ⟨_, rfl⟩ | ⟨s, rfl⟩
  · simp
  · simp only [DataW.weights, ht, hb, List.all_cons, Bool.and_eq_true, decide_eq_true_eq, List.length_map] at h
    have := h.1
    unfold reachBytes at this
    omega
theorem weigh_nums {t e : TypeId} {d : DataW H} {l : List Int} (ht : P.underlying t = some (.slice e)) (hb : P.bytesOf e = 8) (hd : (d = .nil ∧ l = []) ∨ ∃ x s, d = .slice x s ∧ x.length = l.length) (h : (d.weights P t).all (· ≤ reachBytes) = true) : l.length ≤ 140737488351232 := by
  rcases hd with ⟨_, rfl⟩ | ⟨x, s, rfl, hx⟩
  · simp
  · simp only [DataW.weights, ht, hb, List.all_cons, Bool.and_eq_true, decide_eq_true_eq] at h
    have := h.1
    unfold reachBytes at this
    omega
end
end Go.Sat
namespace Go.Proofs.YtafgeppdchnceaaDoor
open Go Go.RowKit Go.Sat Go.ChangeShapes Go.WideShapes Go.ChangeAt Go.Deep
theorem laidOut : laidOutB Tryd.prog = true := by kernel_rfl
theorem ownNone : ownKnob Tryd.prog.godebug = none := by kernel_rfl
theorem gBegin : Tryd.prog.globalNamed "satchel/digest.begin" = some 0 := by kernel_rfl
theorem gBeginT : (Tryd.prog.globals[0]?).map (·.type) = some 76 := by kernel_rfl
theorem gRounds : Tryd.prog.globalNamed "satchel/digest.rounds" = some 2 := by kernel_rfl
theorem gRoundsT : (Tryd.prog.globals[2]?).map (·.type) = some 96 := by kernel_rfl
theorem cellsU32 : Tryd.prog.cellsOf 75 = 1 := by kernel_rfl
theorem cells8 : Tryd.prog.cellsOf 76 = 8 := by kernel_rfl
theorem cells64 : Tryd.prog.cellsOf 96 = 64 := by kernel_rfl
theorem laid_of {W : World} {rest : List (String × DataW Unit)} {ps : List MemPlace} (h : DataW.LaidVars Tryd.prog W (("satchel/digest.begin", Rows.laid_satchel_digest_begin) :: ("satchel/digest.rounds", Rows.laid_satchel_digest_rounds) :: rest) ps) : Laid W := by
  have tb : Lib.TabIs Tryd.prog W "satchel/digest.begin" .u32 (Sha.h0.list.map fun (n : Nat) => (n : Int)) := tab_of_vars gBegin gBeginT Tryd.underlying76 Tryd.underlying75 cellsU32 cells8 h
  obtain ⟨q, h'⟩ := LaidVars_tail h
  have tr : Lib.TabIs Tryd.prog W "satchel/digest.rounds" .u32 (Sha.k0.map fun (n : Nat) => (n : Int)) := tab_of_vars gRounds gRoundsT Tryd.underlying96 Tryd.underlying75 cellsU32 cells64 h'
  refine ⟨fun j v hv => ?_, fun t ht => ?_, Sha.k0_lt⟩
  · have hj : j < 8 := by have := (List.getElem?_eq_some_iff.1 hv).1; simpa [wcells, Sha.V8.list] using this
    have := tb.cell gBegin j (by simpa [Sha.V8.list] using hj)
    rw [Nat.zero_add, this, ← hv, getD_cast]
    simp only [wcells, List.getElem?_map]
    rw [List.getElem?_eq_getElem (by simpa [Sha.V8.list] using hj)]
    simp [List.getD, show j < Sha.h0.list.length by simpa [Sha.V8.list] using hj]
  · have := tr.cell gRounds t (by simpa [Sha.k0] using ht)
    rw [this, getD_cast]
theorem laid2 {W : World} (h : laidMetH Tryd.prog [("satchel/digest.begin", Rows.laid_satchel_digest_begin), ("satchel/digest.rounds", Rows.laid_satchel_digest_rounds)] W) : Laid W := by
  have h' : laidMet Tryd.prog [("satchel/digest.begin", Rows.laid_satchel_digest_begin), ("satchel/digest.rounds", Rows.laid_satchel_digest_rounds)] W := h
  obtain ⟨ps, hv, _⟩ := h'
  exact laid_of hv
/-- A world for the witness: the settled one, the tables holding what their initialisers lay. -/
def tab32 (l : List Nat) : Array Value := (l.map fun (n : Nat) => Value.int .u32 (n : Int)).toArray
def tab64 (l : List Nat) : Array Value := (l.map fun (n : Nat) => Value.int .u64 (n : Int)).toArray
def putTab (cs : Array Value) : Obj → Obj
  | .cells _ t frozen => .cells cs t frozen
  | o => o
noncomputable def laidWorld (os : Os) : World :=
  { World.holding Tryd.prog os ⟨#[], #[], []⟩ with heap := ((((World.holding Tryd.prog os ⟨#[], #[], []⟩).heap.modify 0 (putTab (tab32 Sha.h0.list))).modify 1 (putTab (tab64 Sha.h0.list))).modify 2 (putTab (tab32 Sha.k0))).modify 3 (putTab (tab64 Sha.k0)) }
def wText : Array Value := #[.agg #[.slice none 0 0, .slice none 0 0, .slice none 0 0]]
theorem laid_met2 (os : Os) (args : Array Value) : laidMet Tryd.prog [("satchel/digest.begin", Rows.laid_satchel_digest_begin), ("satchel/digest.rounds", Rows.laid_satchel_digest_rounds)] ((laidWorld os).forCall (fun _ _ => 0) ⟨#[], args, []⟩).memory :=
  laidMet_of_run' 8 (by kernel_rfl) (by kernel_rfl)
end Go.Proofs.YtafgeppdchnceaaDoor
