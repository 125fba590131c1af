import Derived.Test.YtnfmeaifbankjaaBase
import Derived.BigFrame
import Derived.Laws.Rows
import Derived.Laws.Tables
import Derived.Laws.StructEq
import Derived.Stop.BytesEq
import Derived.Deep.MidRow
set_option linter.unusedVariables false
namespace Go.Sat
open Go Go.RowKit

/-! ### Arrays by value -/
/-- The block g is these cells. -/
def Blk (w : World) (g : Nat) (T : TypeId) (cs : Array Value) : Prop := w.heap[g]? = some (.cells cs T (0, 0))
theorem Blk.lt {w : World} {g : Nat} {T : TypeId} {cs : Array Value} (h : Blk w g T cs) : g < w.heap.size := (Array.getElem?_eq_some_iff.1 h).1
theorem Blk.kept {S : Nat → Prop} {w w' : World} {g : Nat} {T : TypeId} {cs : Array Value} (h : Blk w g T cs) (hc : Chg S w w') (hn : ¬ S g) : Blk w' g T cs := hc.keep h hn
theorem Blk.new (w : World) (T : TypeId) (cs : Array Value) : Blk (w.alloc (.cells cs T)) w.heap.size T cs := heap_alloc_new w _
theorem Blk.alloc {w : World} {g : Nat} {T : TypeId} {cs : Array Value} (h : Blk w g T cs) (o : Obj) : Blk (w.alloc o) g T cs := h.kept ((Chg.refl (fun _ => False) w).alloc o) id
theorem Blk.drew {w : World} {g : Nat} {T : TypeId} {cs : Array Value} (h : Blk w g T cs) : Blk w.drew g T cs := h
theorem Blk.cell {w : World} {g : Nat} {T : TypeId} {cs : Array Value} (h : Blk w g T cs) (j : Nat) : w.cell? ⟨g, j, none⟩ = cs[j]? := cell_of_row w g j cs T (0, 0) h
theorem Blk.free {w : World} {g : Nat} {T : TypeId} {cs : Array Value} (h : Blk w g T cs) (j : Nat) : w.frozen? ⟨g, j, none⟩ = false := frozen_of_row w g j cs T h
theorem Blk.set {w : World} {g : Nat} {T : TypeId} {cs : Array Value} (h : Blk w g T cs) (j : Nat) (u : Value) : Blk (w.setCell ⟨g, j, none⟩ u) g T (cs.setIfInBounds j u) := by
  unfold Blk
  rw [setCell_eq_setRow w g j cs T (0, 0) u h]; exact setRow_heap w g cs _ T (0, 0) h
/-- The whole of it as a slice that reads. -/
theorem Blk.rd {w : World} {g : Nat} {T : TypeId} {l : List UInt8} (h : Blk w g T (bcells l).toArray) (hl : l.length ≤ maxLen) : Rd w (.slice (some ⟨g, 0, none⟩) l.length l.length) l :=
  ⟨by simp, bcells_one _, .inr ⟨g, 0, l.length, rfl, Nat.le_refl _, hl, fun j u hu => by rw [Nat.zero_add, h.cell]; simpa using hu⟩⟩

theorem wpl_load_row {P : Program} {ops : Array Oper} {rest : List Oper} {o : Oper} {a : Act} {Q : Exit → Act → World → Prop} {w : World} (hw : Region.wanted o (yielded ops a.tmps) = true) (ty : TypeId) (x : Operand)
    (ho : o.op = .load ty x) {g : Nat} (hx : a.eval x = .pointer (some ⟨g, 0, none⟩)) {T : TypeId} {cs : Array Value} (hb : Blk w g T cs) {n : Nat} {e : TypeId} (hu : P.underlying ty = some (.array n e))
    (hi : (P.info? ty).map (·.size) = some cs.size) (h : wpList P ops Q rest (a.put o.dst (.agg cs)) w) : wpList P ops Q (o :: rest) a w := by
  refine BigFrame.wpList_want hw fun K hK => ?_
  unfold Oper.wp execOp
  simp only [ho, hx, Instr.loadAt, Instr.sureAddr, Sem.run_bind, Sem.run_pure, Result.andThen_ok, run_loadVar_row w g T ty cs (0, 0) _ hb hu rfl hi]
  exact hK _ _ h
theorem wpl_load_mid {P : Program} {ops : Array Oper} {rest : List Oper} {o : Oper} {a : Act} {Q : Exit → Act → World → Prop} {w : World} (hw : Region.wanted o (yielded ops a.tmps) = true) (ty : TypeId) (x : Operand)
    (ho : o.op = .load ty x) {g off : Nat} (hx : a.eval x = .pointer (some ⟨g, off, none⟩)) {cs : List Value} (hc : w.rangeAt g off cs) {n : Nat} {e : TypeId} (hu : P.underlying ty = some (.array n e))
    (hi : (P.info? ty).map (·.size) = some cs.length) (h : wpList P ops Q rest (a.put o.dst (.agg cs.toArray)) w) : wpList P ops Q (o :: rest) a w :=
  BigFrame.wpList_want hw fun K hK => wp_load_mid ty x ho g off hx cs _ hc hu rfl hi (hK _ _ h)
theorem Blk.range {w : World} {g : Nat} {T : TypeId} {us cs vs : List Value} (h : Blk w g T (us ++ cs ++ vs).toArray) {off : Nat} (ho : us.length = off) : w.rangeAt g off cs := fun j v hv => by
  have hj : j < cs.length := (List.getElem?_eq_some_iff.1 hv).1
  rw [h.cell, List.getElem?_toArray, List.append_assoc, List.getElem?_append_right (by omega), List.getElem?_append_left (by omega), show off + j - us.length = j from by omega]; exact hv
theorem wpl_store_row {P : Program} {ops : Array Oper} {rest : List Oper} {o : Oper} {a : Act} {Q : Exit → Act → World → Prop} {w : World} (hw : Region.wanted o (yielded ops a.tmps) = true) (ty : TypeId) (x y : Operand)
    (ho : o.op = .store ty x y) {g : Nat} (hx : a.eval x = .pointer (some ⟨g, 0, none⟩)) {T : TypeId} {cs cs' : Array Value} (hy : a.eval y = .agg cs') (hb : Blk w g T cs)
    (hi : (P.info? ty).map (·.size) = some cs'.size) (hs : cs.size = cs'.size) (h1 : cs'.all (·.oneCell') = true)
    (h : ∀ w', Blk w' g T cs' → Chg (fun k => k = g) w w' → wpList P ops Q rest (a.put o.dst undef) w') : wpList P ops Q (o :: rest) a w := by
  refine BigFrame.wpList_want hw fun K hK => ?_
  unfold Oper.wp execOp
  simp only [ho, hx, hy, Instr.storeAt, Instr.sureAddr, Sem.run_bind, Sem.run_pure, Result.andThen_ok, run_storeVar_row w g T ty cs cs' hb hi hs h1]
  exact hK _ _ (h _ (setRow_heap w g cs cs' T (0, 0) hb) (setRow_chg w g cs'))

theorem wpl_alloc_row {P : Program} {ops : Array Oper} {rest : List Oper} {o : Oper} {a : Act} {Q : Exit → Act → World → Prop} {w : World} (hw : Region.wanted o (yielded ops a.tmps) = true) (ty : TypeId)
    (ho : o.op = .alloc ty) {cs : Array Value} (hz : ∀ w, (zeroValue ty).run P w = .ok (.agg cs) w)
    (h : ∀ w', Blk w' w.heap.size ty cs → Chg (fun _ => False) w w' → w'.heap.size = w.heap.size + 1 → wpList P ops Q rest (a.put o.dst (.pointer (some ⟨w.heap.size, 0, none⟩))) w') : wpList P ops Q (o :: rest) a w := by
  refine BigFrame.wpList_want hw fun K hK => ?_
  unfold Oper.wp execOp
  have := hK _ _ (h _ (Blk.new w ty cs) ((Chg.refl _ w).alloc _) (by simp))
  simpa [ho, hz, Value.cells, Instr.alloc, Sem.run_bind, newVar, newRow, Oper.upon] using this

/-- Two results, the first of them an array in memory. -/
theorem results_row_tmp {P : Program} {fn : Func} {c u : Tmp} {ty : TypeId} (h : fn.results = #[.cell c ty, .tmp u]) {tmps : Array Value} {w : World} {g : Nat} (hc : tmps.getD c undef = .pointer (some ⟨g, 0, none⟩)) {T : TypeId} {cs : Array Value}
    (hb : Blk w g T cs) {n : Nat} {e : TypeId} (hu : P.underlying ty = some (.array n e)) (hi : (P.info? ty).map (·.size) = some cs.size) :
    (results fn tmps).run P w = .ok (.tuple #[.agg cs, tmps.getD u undef]) w := by
  have hc' : tmps[c]?.getD undef = .pointer (some ⟨g, 0, none⟩) := by simpa using hc
  simp [results, h, hc', asAddr, run_loadVar_row w g T ty cs (0, 0) _ hb hu rfl hi]

@[simp] theorem strB_get (l : List UInt8) (k : Nat) (h : k < (strB l).size) : (strB l)[k] = l[k]'(by simpa using h) := by
  simp [strB, ByteArray.getElem_eq_getElem_data]

/-- APPEND, as an operation by itself (in a region that draws its order). -/
theorem op_append {P : Program} {o : Oper} {a : Act} {K : Act → World → Prop} {Q : Exit → Act → World → Prop} {w : World} (s x : Operand) (t : TypeId)
    (ho : o.op = .call { callee := .builtin .append, args := #[s, x], argTypes := #[t, t] }) {e : TypeId} {sz bytes : Nat} {z : Value} (hty : SliceTy P t e sz bytes z)
    {v y : Value} {n m : Nat} {xs news : List Value}
    (hown : Own w e sz v n xs) (hx : Sl w sz y m news) (hs : a.eval s = v) (hy : a.eval x = y) (h63 : n + m ≤ maxLen) (hb : (n + m) * bytes ≤ 140737488355328)
    (h : ∀ ao cap w', Own w' e sz (.slice ao (n + m) cap) (n + m) (xs ++ news) → w.grownBy w' v.ownBlock →
      ((Value.slice ao (n + m) cap).ownBlock = v.ownBlock ∨ (Value.slice ao (n + m) cap).ownBlock = some w.heap.size) → K (a.put o.dst (.slice ao (n + m) cap)) w') : o.wp P a w K Q := by
  obtain ⟨ao, cap, w', hr, h2, h3, h4⟩ := run_append_sl (ty := o.type) hty hown hx h63 hb
  unfold Oper.wp execOp
  simp only [ho, resolve, invoke, builtin, Sem.run_bind, Sem.run_pure, Result.andThen_ok, List.map_toArray, List.map_cons, List.map_nil, hs, hy, hr]
  exact h ao cap w' h2 h3 h4

/-- An array of bytes, by value. -/
def arrV (l : List UInt8) : Value := .agg (bcells l).toArray
theorem arr_one (l : List UInt8) : (bcells l).toArray.all (·.oneCell') = true := Array.all_eq_true_iff_forall_mem.2 fun u hu => bcells_one l u (by simpa using hu)
theorem eql_arr {P : Program} {w : World} {t e : TypeId} {n : Nat} (ht : P.underlying t = some (.array n e)) (he : P.underlying e = some (.int .u8)) (hsz : ∀ w, (sizeOf e).run P w = .ok 1 w) {l r : List UInt8} (hl : l.length = n) (hr : r.length = n) :
    (Op.equalIn 10000 t (.agg (bcells l).toArray) (.agg (bcells r).toArray)).run P w = .ok (l == r) w :=
  run_equalIn_bytes w 9998 t e n ht he hsz l r hl hr
theorem bset1 {A R : List UInt8} {k : Nat} (hA : A.length = k) (z x : UInt8) : (bcells (A ++ z :: R)).toArray.setIfInBounds k (.int .u8 (x.toNat : Int)) = (bcells (A ++ x :: R)).toArray := by
  subst hA
  simp only [List.setIfInBounds_toArray, bcells, List.map_append, List.map_cons]
  rw [List.set_append_right _ _ (by simp)]
  simp
theorem run_index_arr {P : Program} {w : World} {t e : TypeId} {n : Nat} (ht : P.underlying t = some (.array n e)) (he : P.underlying e = some (.int .u8)) (hsz : ∀ w, (sizeOf e).run P w = .ok 1 w) (k : IntKind) {l : List UInt8} (hl : l.length = n)
    {i : Nat} (hi : i < l.length) : (Instr.index t (.agg (bcells l).toArray) (.int k i)).run P w = .ok (.int .u8 (l[i].toNat : Int)) w := by
  have h1 : i < n := by omega
  have h2 : (bcells l)[i]? = some (.int .u8 (l[i].toNat : Int)) := by rw [bcells_get, List.getElem?_eq_getElem hi]; rfl
  have h3 : (part e (bcells l).toArray (i * 1)).run P w = .ok (.int .u8 (l[i].toNat : Int)) w := by
    simp [part, isAgg, run_underlying he, h2]
  simp [Instr.index, run_underlying ht, asIntOf, hsz, h1]
  simpa using h3
theorem run_index_strB {P : Program} {w : World} {t : TypeId} (ht : P.underlying t = some .string) (k : IntKind) (l : List UInt8) {i : Nat} (hi : i < l.length) {n : Int} (hn : n = i) :
    (Instr.index t (.string (strB l)) (.int k n)).run P w = .ok (.int .u8 (l[i].toNat : Int)) w := by
  subst hn
  rw [run_index_string w t (strB l) k i ht, dif_pos ⟨by omega, by simpa using hi⟩]
  simp
end Go.Sat
