import Derived.Test.YtnfmeaifbankjaaBase
import Derived.Deep.Slices
import Derived.ChangeSame
import Derived.Carry
import Derived.OpenShut
set_option linter.unusedVariables false
namespace Go.Sat
open Go Go.RowKit Go.ChangeShapes Go.WideShapes Go.Deep
section
variable {H : Type} {enc : TypeId × Value → H} {P : Program} {w : World} {base : Nat} {spare : Nat → Bool} {held : Bool}

theorem lit_bounds_i64 {n : Int} (h : (Lit.int .i64 n).wf = true) : -9223372036854775808 ≤ n ∧ n ≤ 9223372036854775807 := by
  simpa [Lit.wf, IntKind.min, IntKind.max, IntKind.signed, IntKind.bits] using h
theorem lit_bounds_u64 {n : Int} (h : (Lit.int .u64 n).wf = true) : 0 ≤ n ∧ n ≤ 18446744073709551615 := by
  simpa [Lit.wf, IntKind.min, IntKind.max, IntKind.signed, IntKind.bits] using h
theorem lit_bounds_u8 {n : Int} (h : (Lit.int .u8 n).wf = true) : 0 ≤ n ∧ n ≤ 255 := by
  simpa [Lit.wf, IntKind.min, IntKind.max, IntKind.signed, IntKind.bits] using h

/-- A slice of bytes, opened. -/
theorem open_bytes {t e : TypeId} {fuel : Nat} {cs : List Value} {x : DataW H × List MemPlace} (ht : P.underlying t = some (.slice e)) (he : P.underlying e = some (.int .u8)) (hc : P.cellsOf e = 1)
    (h : DataW.trod enc P w base spare held fuel t cs = some x) :
    ∃ v l, cs = [v] ∧ Rd w v l ∧ (∀ k, rdb v = some k → k < w.heap.size) ∧
      ((x.1 = .nil ∧ l = []) ∨ ∃ s, x.1 = .slice (l.map fun b => .lit (.int .u8 (b.toNat : Int))) s) := by
  rcases open_slice1 ht hc h with ⟨rfl, rfl⟩ | ⟨a, len, cap, m, n, V, D, Pl, rfl, hb, hl, hm, hmm, rfl, hx⟩
  · exact ⟨_, [], rfl, Rd.nil w, fun k hk => by simp [rdb] at hk, .inl ⟨rfl, rfl⟩⟩
  have hlm : len ≤ m := by rw [hmm]; split <;> omega
  have each : ∀ i, i < len → ∃ b : UInt8, V i = .int .u8 (b.toNat : Int) ∧ D i = .lit (.int .u8 (b.toNat : Int)) := fun i hi => by
    obtain ⟨_, h2⟩ := hx i (by omega)
    obtain ⟨q, h3, h4, h5⟩ := DataW.trod_int he h2
    have hq := lit_bounds_u8 h5
    refine ⟨UInt8.ofNat q.toNat, ?_, ?_⟩
    · simp only [List.cons.injEq, and_true] at h3
      rw [h3]; congr 1; simp; omega
    · simp only [Prod.mk.injEq] at h4
      rw [h4.1]; congr 2; simp; omega
  obtain ⟨f, hf⟩ := choose_lt each
  have hlen : ((List.range len).map f).length = len := by simp
  refine ⟨.slice (some a) len cap, (List.range len).map f, rfl, ?_, fun k hk => ?_, .inr ⟨(List.range (m - len)).map fun j => D (len + j), ?_⟩⟩
  · refine ⟨by simp, bcells_one _, ?_⟩
    rw [hlen]
    by_cases h0 : len = 0
    · subst h0
      exact .inl ⟨rfl, some a, cap, rfl, hm, fun h => by cases h⟩
    · obtain ⟨b, off, spot⟩ := a
      have hc0 := (hx 0 (by omega)).1
      have hspot : spot = none := by simpa [Addr.add] using World.cell?_spot hc0
      subst hspot
      refine .inr ⟨b, off, cap, rfl, hl, hm, fun j u hu => ?_⟩
      rw [bcells_get] at hu
      have hj : j < len := by
        rcases Nat.lt_or_ge j len with h | h
        · exact h
        · rw [List.getElem?_eq_none (by simpa using h)] at hu; cases hu
      have := (hx j (by omega)).1
      rw [addr_add] at this
      rw [this, (hf j hj).1]
      simp [List.getElem?_range hj] at hu
      rw [hu]
  · simp only [rdb] at hk
    split at hk
    · cases hk
    · cases hk
      have hc0 := (hx 0 (by omega)).1
      exact World.block_lt_of_cell? w _ hc0
  · show DataW.slice _ _ = _
    congr 1
    rw [List.map_map]
    exact List.map_congr_left fun i hi => (hf i (List.mem_range.1 hi)).2
/-- An array of bytes, opened. -/
theorem open_arr {t e : TypeId} {n fuel : Nat} {cs : List Value} {x : DataW H × List MemPlace} (ht : P.underlying t = some (.array n e)) (he : P.underlying e = some (.int .u8)) (hc : P.cellsOf e = 1) (hct : P.cellsOf t = n)
    (h : DataW.trod enc P w base spare held fuel t cs = some x) : ∃ l, cs = bcells l ∧ l.length = n := by
  obtain ⟨xs, m, rfl, _, hl, hlen, hf⟩ := DataW.trod_array ht h
  rw [hct] at hl
  have each : ∀ i, i < n → ∃ b : UInt8, cs[i]? = some (.int .u8 (b.toNat : Int)) := fun i hi => by
    have h1 := hf i hi
    rw [hc, Nat.mul_one, List.getElem?_eq_getElem (by omega)] at h1
    have h2 : (cs.drop i).take 1 = [cs[i]'(by omega)] := by rw [List.drop_eq_getElem_cons (by omega)]; rfl
    rw [h2] at h1
    obtain ⟨q, h3, _, h5⟩ := DataW.trod_int he h1
    have hq := lit_bounds_u8 h5
    refine ⟨UInt8.ofNat q.toNat, ?_⟩
    rw [List.getElem?_eq_getElem (by omega)]
    simp only [List.cons.injEq, and_true] at h3
    rw [h3]; congr 2; simp; omega
  obtain ⟨f, hf2⟩ := choose_lt each
  refine ⟨(List.range n).map f, List.ext_getElem? fun i => ?_, by simp⟩
  rw [bcells_get]
  by_cases hi : i < n
  · rw [hf2 i hi]; simp [List.getElem?_range hi]
  · rw [List.getElem?_eq_none (by omega), List.getElem?_eq_none (by simp; omega)]; rfl
/-- A slice of structs: their cells, plainly addressed. -/
theorem cells_plain {a : Addr} {len n : Nat} {cs : Nat → List Value} (h : ∀ i, i < len → w.cells? base (a.add (i * n)) n = some (cs i)) (hl : 0 < len) (hn : 0 < n) :
    ∃ b off, a = ⟨b, off, none⟩ ∧ b < w.heap.size ∧ ∀ i, i < len → (cs i).length = n ∧ ∀ j u, (cs i)[j]? = some u → w.cell? ⟨b, off + i * n + j, none⟩ = some u := by
  obtain ⟨b, off, spot⟩ := a
  have hs : spot = none ∧ b < w.heap.size := by
    obtain ⟨_, hlen, hcell⟩ := World.cells?_some (h 0 hl)
    have h0 := hcell 0 hn
    rw [List.getElem?_eq_getElem (by omega)] at h0
    have h1 := World.cell?_spot h0
    have h2 := World.block_lt_of_cell? w _ h0
    simp [Addr.add] at h1 h2
    exact ⟨h1, h2⟩
  obtain ⟨rfl, hb⟩ := hs
  refine ⟨b, off, rfl, hb, fun i hi => ?_⟩
  obtain ⟨_, hlen, hcell⟩ := World.cells?_some (h i hi)
  refine ⟨hlen, fun j u hu => ?_⟩
  have hj := hcell j (by rw [← hlen]; exact (List.getElem?_eq_some_iff.1 hu).1)
  rw [addr_add, addr_add] at hj
  rw [hj, hu]
end
end Go.Sat
