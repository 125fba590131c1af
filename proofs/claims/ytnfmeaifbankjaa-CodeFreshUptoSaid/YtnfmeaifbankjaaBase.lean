import Derived.WalkKit
import Derived.WalkSpells
import Derived.WalkLawsBesides
import Derived.Lib.Hide
import Derived.Deep.RegionHeld3
import Derived.Deep.AppendLies
import Derived.Deep.AppendSrc
import Derived.Laws.BytesArg
namespace Go.Sat
open Go Go.RowKit

/-- w' holds what w held but for the blocks of S; no block has gone. -/
structure Chg (S : Nat → Prop) (w w' : World) : Prop where
  os : w'.os = w.os
  tape : w'.tape = w.tape
  output : w'.output = w.output
  size : w.heap.size ≤ w'.heap.size
  block : ∀ k, k < w.heap.size → ¬ S k → w'.heap[k]? = w.heap[k]?

namespace Chg
variable {S T : Nat → Prop} {a b c w : World}
theorem refl (S : Nat → Prop) (w : World) : Chg S w w := ⟨rfl, rfl, rfl, Nat.le_refl _, fun _ _ _ => rfl⟩
theorem trans (h : Chg S a b) (k : Chg T b c) (hT : ∀ x, x < a.heap.size → T x → S x) : Chg S a c :=
  ⟨k.os.trans h.os, k.tape.trans h.tape, k.output.trans h.output, Nat.le_trans h.size k.size,
    fun i hi hn => (k.block i (Nat.lt_of_lt_of_le hi h.size) (fun ht => hn (hT i hi ht))).trans (h.block i hi hn)⟩
theorem mono (h : Chg S a b) (hT : ∀ x, x < a.heap.size → S x → T x) : Chg T a b :=
  ⟨h.os, h.tape, h.output, h.size, fun i hi hn => h.block i hi (fun hs => hn (hT i hi hs))⟩
theorem drew (h : Chg S a w) : Chg S a w.drew := ⟨h.os, h.tape, h.output, h.size, h.block⟩
theorem drewN (h : Chg S a w) (n : Nat) : Chg S a (w.drewN n) := ⟨h.os, h.tape, h.output, h.size, h.block⟩
theorem alloc (h : Chg S a w) (o : Obj) : Chg S a (w.alloc o) :=
  h.trans (T := S) ⟨rfl, rfl, rfl, by simp, fun k hk _ => Below.heap_alloc _ _ _ hk⟩ (fun _ _ h => h)
theorem setCell (h : Chg S a w) {p : Addr} (hp : a.heap.size ≤ p.block ∨ S p.block) (u : Value) : Chg S a (w.setCell p u) :=
  h.trans (T := fun k => k = p.block) ⟨rfl, rfl, rfl, by simp, fun k _ hn => Below.heap_setCell _ _ _ _ hn⟩
    (fun x hx e => by subst e; rcases hp with hp | hp; · omega
                      · exact hp)
theorem grown {w' : World} {row : Option Nat} (h : Chg S a w) (hg : w.grownBy w' row) (hr : ∀ k, row = some k → a.heap.size ≤ k ∨ S k) : Chg S a w' :=
  h.trans (T := fun k => some k = row) ⟨hg.os, hg.tape, hg.output, hg.size, fun k hk hn => hg.block k hk hn⟩
    (fun x hx e => by rcases hr x e.symm with hp | hp; · omega
                      · exact hp)
theorem below (h : Chg (fun _ => False) a b) : Below a.heap.size a b := ⟨h.os, h.tape, h.output, h.size, fun k hk => h.block k hk id⟩
theorem cell (h : Chg S a b) {p : Addr} (hp : p.block < a.heap.size) (hn : ¬ S p.block) : b.cell? p = a.cell? p := World.cell?_of_block (w := a) (h.block p.block hp hn)
theorem frozen (h : Chg S a b) {p : Addr} (hp : p.block < a.heap.size) (hn : ¬ S p.block) : b.frozen? p = a.frozen? p := World.frozen?_of_block (w := a) (h.block p.block hp hn)
theorem keep (h : Chg S a b) {k : Nat} {o : Obj} (hk : a.heap[k]? = some o) (hn : ¬ S k) : b.heap[k]? = some o :=
  (h.block k (Array.getElem?_eq_some_iff.1 hk).1 hn).trans hk
end Chg

/-! ### Slices -/
/-- The block of a slice's array, of a pointer's pointee. -/
def blockOf : Value → Option Nat
  | .slice (some a) _ _ => some a.block
  | .pointer (some a) => some a.block
  | _ => none

/-- The cells of bytes. -/
def bcells (l : List UInt8) : List Value := l.map fun b => .int .u8 (b.toNat : Int)
@[simp] theorem bcells_length (l : List UInt8) : (bcells l).length = l.length := by simp [bcells]
@[simp] theorem bcells_append (l r : List UInt8) : bcells (l ++ r) = bcells l ++ bcells r := by simp [bcells]
theorem bcells_one (l : List UInt8) : ∀ u ∈ bcells l, u.oneCell' = true := by
  intro u hu; simp only [bcells, List.mem_map] at hu; obtain ⟨b, _, rfl⟩ := hu; rfl
theorem bcells_get (l : List UInt8) (j : Nat) : (bcells l)[j]? = l[j]?.map fun b => .int .u8 (b.toNat : Int) := by simp [bcells]
theorem bcells_take (l : List UInt8) (n : Nat) : bcells (l.take n) = (bcells l).take n := by simp [bcells]
theorem bcells_drop (l : List UInt8) (n : Nat) : bcells (l.drop n) = (bcells l).drop n := by simp [bcells]

theorem addr_add (b off j : Nat) : (⟨b, off, none⟩ : Addr).add j = ⟨b, off + j, none⟩ := by unfold Addr.add; split <;> simp_all
/-- The block that a slice reads; none if it reads nothing. -/
def rdb : Value → Option Nat
  | .slice (some a) n _ => if n = 0 then none else some a.block
  | _ => none
theorem rdb_own {x : Value} {k : Nat} (h : rdb x = some k) : x.ownBlock = some k := by
  unfold rdb at h
  split at h
  · split at h
    · cases h
    · exact h
  · cases h
/-- A slice that reads: m elements of sz cells each, the cells xs. -/
structure Sl (w : World) (sz : Nat) (x : Value) (m : Nat) (xs : List Value) : Prop where
  len : xs.length = m * sz
  one : ∀ u ∈ xs, u.oneCell' = true
  val : (m = 0 ∧ ∃ ao c, x = .slice ao 0 c ∧ c ≤ maxLen ∧ (ao = none → c = 0)) ∨ ∃ b off c, x = .slice (some ⟨b, off, none⟩) m c ∧ m ≤ c ∧ c ≤ maxLen ∧ ∀ j u, xs[j]? = some u → w.cell? ⟨b, off + j, none⟩ = some u

/-- A slice of bytes that reads. -/
def Rd (w : World) (x : Value) (l : List UInt8) : Prop := Sl w 1 x l.length (bcells l)

/-- What a slice type is made of. -/
structure SliceTy (P : Program) (t e : TypeId) (sz bytes : Nat) (z : Value) : Prop where
  und : P.underlying t = some (.slice e)
  info : ∃ i, P.info? e = some i ∧ i.zero = some z ∧ i.size = sz ∧ i.bytes = bytes
  zsz : z.cells.size = sz
  pos : 0 < sz

/-- A slice of the call's own: n elements of type e, sz cells each, the cells xs. -/
def Own (w : World) (e : TypeId) (sz : Nat) (v : Value) (n : Nat) (xs : List Value) : Prop := w.ownsRow 0 e sz v n xs

theorem Own.form {w : World} {e : TypeId} {sz : Nat} {v : Value} {n : Nat} {xs : List Value} (h : Own w e sz v n xs) : ∃ ao cap, v = .slice ao n cap ∧ n ≤ cap := by
  rcases h.2 with ⟨rfl, rfl⟩ | ⟨g, cap, cur, rfl, _, _, hc, _⟩
  · exact ⟨none, 0, rfl, Nat.le_refl _⟩
  · exact ⟨_, cap, rfl, hc⟩
theorem Own.kept {S : Nat → Prop} {w w' : World} {e : TypeId} {sz : Nat} {v : Value} {n : Nat} {xs : List Value} (h : Own w e sz v n xs) (hg : Chg S w w') (hne : ∀ k, v.ownBlock = some k → ¬ S k) : Own w' e sz v n xs := by
  refine ⟨h.1, ?_⟩
  rcases h.2 with hn | ⟨g, cap, cur, rfl, hb, hgg, rest⟩
  · exact .inl hn
  · exact .inr ⟨g, cap, cur, rfl, hb, hg.keep hgg (hne g rfl), rest⟩
theorem Own.lt {w : World} {e : TypeId} {sz : Nat} {v : Value} {n : Nat} {xs : List Value} (h : Own w e sz v n xs) : ∀ k, v.ownBlock = some k → k < w.heap.size :=
  fun k hk => (World.ownsRow.lt h k hk).2
theorem Own.sl {w : World} {e : TypeId} {sz : Nat} {v : Value} {n : Nat} {xs : List Value} (h : Own w e sz v n xs) (h1 : ∀ u ∈ xs, u.oneCell' = true) : Sl w sz v n xs := by
  refine ⟨h.1, h1, ?_⟩
  rcases h.2 with hn | ⟨g, cap, cur, rfl, hb, hgg, hc, hm, _⟩
  · exact .inl ⟨hn.2, none, 0, by rw [hn.1], Nat.zero_le _, fun _ => rfl⟩
  · exact .inr ⟨g, 0, cap, rfl, hc, hm, fun j u hu => by rw [← addr_add]; exact World.ownsRow.cells h rfl j u hu⟩

theorem Sl.kept {S : Nat → Prop} {w w' : World} {sz : Nat} {x : Value} {m : Nat} {xs : List Value} (h : Sl w sz x m xs) (hg : Chg S w w') (hne : ∀ k, rdb x = some k → ¬ S k) : Sl w' sz x m xs := by
  refine ⟨h.len, h.one, ?_⟩
  rcases h.val with hn | ⟨b, off, c, rfl, hc, hm, hcell⟩
  · exact .inl hn
  · refine .inr ⟨b, off, c, rfl, hc, hm, fun j u hu => ?_⟩
    have h0 := hcell j u hu
    have hlt := World.block_lt_of_cell? w _ h0
    have hm0 : m ≠ 0 := by
      rintro rfl
      have := List.eq_nil_of_length_eq_zero (h.len.trans (by simp))
      subst this; cases hu
    rw [hg.cell hlt (hne b (by simp [rdb, hm0]))]
    exact h0
theorem Sl.src {P : Program} {w : World} {sz : Nat} {x : Value} {m : Nat} {xs : List Value} (h : Sl w sz x m xs) {tx e' : TypeId} (hk : P.underlying tx = some (.slice e')) : Src P sz tx x m xs w := by
  rcases h.val with ⟨rfl, ao, c, rfl, hm, hn⟩ | ⟨b, off, c, rfl, _, _, hcell⟩
  · obtain rfl : xs = [] := List.eq_nil_of_length_eq_zero (by simpa using h.len)
    cases ao with
    | none => obtain rfl := hn rfl; exact Src.ofNil w hk 0
    | some a => exact Src.ofSlice w hk a 0 c [] (by simp) (fun j u hu => by simp at hu) (by simp)
  · exact Src.ofSlice w hk ⟨b, off, none⟩ m c xs h.len (fun j u hu => by rw [addr_add]; exact hcell j u hu) h.one

/-- APPEND onto a slice of the call's own, from whatever slice. -/
theorem run_append_sl {P : Program} {w : World} {t ty e : TypeId} {sz bytes : Nat} {z : Value} (hty : SliceTy P t e sz bytes z) {v x : Value} {n m : Nat} {xs news : List Value}
    (hown : Own w e sz v n xs) (hx : Sl w sz x m news) (h63 : n + m ≤ maxLen) (hb : (n + m) * bytes ≤ 140737488355328) :
    ∃ ao cap w', (Builtin.append_ #[t, t] ty #[v, x]).run P w = .ok (.slice ao (n + m) cap) w' ∧ Own w' e sz (.slice ao (n + m) cap) (n + m) (xs ++ news) ∧ w.grownBy w' v.ownBlock ∧
      ((Value.slice ao (n + m) cap).ownBlock = v.ownBlock ∨ (Value.slice ao (n + m) cap).ownBlock = some w.heap.size) := by
  obtain ⟨hu, ⟨i, hi, hz, hsz, hby⟩, hzs, hpos⟩ := hty
  rcases hx.val with ⟨rfl, ao', c', rfl, _, _⟩ | ⟨b, off, c, rfl, _, _, hcell⟩
  · have : news = [] := List.eq_nil_of_length_eq_zero (by simpa using hx.len)
    subst this
    obtain ⟨ao, cap, rfl, hle⟩ := hown.form
    refine ⟨ao, cap, w, ?_, by simpa using hown, ⟨rfl, rfl, rfl, Nat.le_refl _, fun _ _ _ => rfl⟩, .inl rfl⟩
    have hsrc : Src P i.size t (.slice ao' 0 c') 0 [] w := by rw [hsz]; exact hx.src hu
    cases ao <;> simp [Builtin.append_, run_underlying hu, sizeOf, typeInfo, hi, hsrc.len, hle, hsrc.cells, storeCells]
  · obtain ⟨v', w', hr, h2, h3, _, h5⟩ := run_append_own_at (P := P) w 0 t ty e i z sz bytes hu hi hz hsz hby hzs hpos v n xs hown ⟨b, off, none⟩ m c news hx.len (fun j u hu => by rw [addr_add]; exact hcell j u hu) hx.one h63 hb (Nat.zero_le _)
    obtain ⟨ao, cap, rfl, _⟩ := Own.form (w := w') h2
    exact ⟨ao, cap, w', hr, h2, h3, h5⟩

theorem wpl_append {P : Program} {ops : Array Oper} {rest : List Oper} {o : Oper} {a : Act} {Q : Exit → Act → World → Prop} {w : World} (hgd : o.guard = none) (s x : Operand) (t : TypeId)
    (ho : o.op = .call { callee := .builtin .append, args := #[s, x], argTypes := #[t, t] }) {e : TypeId} {sz bytes : Nat} {z : Value} (hty : SliceTy P t e sz bytes z)
    {v y : Value} {n m : Nat} {xs news : List Value}
    (hown : Own w e sz v n xs) (hx : Sl w sz y m news) (hs : a.eval s = v) (hy : a.eval x = y) (h63 : n + m ≤ maxLen) (hb : (n + m) * bytes ≤ 140737488355328)
    (h : ∀ ao cap w', Own w' e sz (.slice ao (n + m) cap) (n + m) (xs ++ news) → w.grownBy w' v.ownBlock →
      ((Value.slice ao (n + m) cap).ownBlock = v.ownBlock ∨ (Value.slice ao (n + m) cap).ownBlock = some w.heap.size) → wpList P ops Q rest (a.put o.dst (.slice ao (n + m) cap)) w') : wpList P ops Q (o :: rest) a w := by
  refine wpList_plain hgd fun K hK => ?_
  obtain ⟨ao, cap, w', hr, h2, h3, h4⟩ := run_append_sl (ty := o.type) hty hown hx h63 hb
  unfold Oper.wp execOp
  simp only [ho, resolve, invoke, builtin, Sem.run_bind, Sem.run_pure, Result.andThen_ok, List.map_toArray, List.map_cons, List.map_nil, hs, hy, hr]
  exact hK _ _ (h ao cap w' h2 h3 h4)

theorem Own.alloc {w : World} {e : TypeId} {sz : Nat} {v : Value} {n : Nat} {xs : List Value} (h : Own w e sz v n xs) (o : Obj) : Own (w.alloc o) e sz v n xs := World.ownsRow.alloc h o
theorem Own.drew {w : World} {e : TypeId} {sz : Nat} {v : Value} {n : Nat} {xs : List Value} (h : Own w e sz v n xs) : Own w.drew e sz v n xs := h
theorem Sl.drew {w : World} {sz : Nat} {x : Value} {m : Nat} {xs : List Value} (h : Sl w sz x m xs) : Sl w.drew sz x m xs := ⟨h.len, h.one, h.val⟩
theorem Sl.alloc {w : World} {sz : Nat} {x : Value} {m : Nat} {xs : List Value} (h : Sl w sz x m xs) (o : Obj) : Sl (w.alloc o) sz x m xs :=
  h.kept ((Chg.refl (fun _ => False) w).alloc o) (fun _ _ => id)
/-- A slice literal's new block. -/
theorem Sl.built (w : World) (cs : Array Value) (t : TypeId) (sz n : Nat) (hn : cs.size = n * sz) (h1 : ∀ u ∈ cs.toList, u.oneCell' = true) (hm : n ≤ maxLen) :
    Sl (w.alloc (.cells cs t)) sz (.slice (some ⟨w.heap.size, 0, none⟩) n n) n cs.toList := by
  refine ⟨by simpa using hn, h1, .inr ⟨_, _, _, rfl, Nat.le_refl _, hm, fun j u hu => ?_⟩⟩
  rw [← addr_add]
  exact World.news_of_block (fr := (0, 0)) (heap_alloc_new w _) j u hu
theorem Sl.built1 (w : World) (u : Value) (t : TypeId) (h1 : u.oneCell' = true) : Sl (w.alloc (.cells #[u] t)) 1 (.slice (some ⟨w.heap.size, 0, none⟩) 1 1) 1 [u] :=
  Sl.built w #[u] t 1 1 rfl (by simpa using h1) (by unfold maxLen; omega)
theorem Chg.of_grown {S : Nat → Prop} {w w' : World} {row : Option Nat} (hg : w.grownBy w' row) (hr : ∀ k, row = some k → k < w.heap.size → S k) : Chg S w w' :=
  ⟨hg.os, hg.tape, hg.output, hg.size, fun k hk hn => hg.block k hk (fun e => hn (hr k e.symm hk))⟩

/-! ### make, copy -/
theorem madeCells_one (z : Value) (n : Nat) : (madeCells #[z] n).toList = List.replicate n z := by
  refine List.ext_getElem? fun j => ?_
  simp only [madeCells, Array.toList_map, List.getElem?_map, Array.toList_range, List.getElem?_replicate]
  by_cases h : j < n
  · rw [List.getElem?_range h]
    simp [h, Nat.mod_one]
  · rw [List.getElem?_eq_none (by simp; omega)]
    simp [h]
theorem wpl_make {P : Program} {ops : Array Oper} {rest : List Oper} {o : Oper} {a : Act} {Q : Exit → Act → World → Prop} {w : World} (hgd : o.guard = none) (l c : Operand) (t : TypeId)
    (ho : o.op = .makeSlice t l c) {e : TypeId} {bytes : Nat} {z : Value} (hty : SliceTy P t e 1 bytes z) (hz1 : z.cells = #[z]) (n : Nat) (hl : a.eval l = .int .i64 (n : Int)) (hc : a.eval c = .int .i64 (n : Int))
    (hn : n ≤ maxLen) (hb : bytes * n ≤ 281474976710656)
    (h : ∀ w', Own w' e 1 (.slice (some ⟨w.heap.size, 0, none⟩) n n) n (List.replicate n z) → Chg (fun _ => False) w w' → w.heap.size < w'.heap.size → wpList P ops Q rest (a.put o.dst (.slice (some ⟨w.heap.size, 0, none⟩) n n)) w') : wpList P ops Q (o :: rest) a w := by
  obtain ⟨hu, ⟨i, hi, hz, hsz, hby⟩, hzs, hpos⟩ := hty
  refine wpList_make_full w hgd l c t ho 0 e i z 1 hu hi hz hsz .i64 .i64 n n n hl hc rfl rfl (by rw [hby]; exact hb) hn (Nat.zero_le _) fun w' h1 h2 => h w' ?_ (Chg.of_grown h2 fun k hk => by cases hk) (World.ownsRow.lt h1 _ rfl).2
  rw [hz1, Nat.mul_one, madeCells_one] at h1
  exact h1
theorem setRow_chg (w : World) (g : Nat) (cs : Array Value) : Chg (fun k => k = g) w (w.setRow g cs) :=
  ⟨rfl, rfl, rfl, by simp, fun k _ hn => setRow_other w g k cs hn⟩
/-- COPY over the whole of a slice of the call's own. -/
theorem wpl_copy {P : Program} {ops : Array Oper} {rest : List Oper} {o : Oper} {a : Act} {Q : Exit → Act → World → Prop} {w : World} (hgd : o.guard = none) (d s : Operand) (t : TypeId)
    (ho : o.op = .call { callee := .builtin .copy, args := #[d, s], argTypes := #[t, t] }) {e : TypeId} {bytes : Nat} {z : Value} (hty : SliceTy P t e 1 bytes z)
    {v y : Value} {n : Nat} {xs news : List Value} (hown : Own w e 1 v n xs) (hx : Sl w 1 y n news) (hd : a.eval d = v) (hs : a.eval s = y)
    (h : ∀ w', Own w' e 1 v n news → Chg (fun k => v.ownBlock = some k) w w' → wpList P ops Q rest (a.put o.dst (.int .i64 n)) w') : wpList P ops Q (o :: rest) a w := by
  obtain ⟨hu, ⟨i, hi, hz, hsz, hby⟩, hzs, hpos⟩ := hty
  have hif : (P.info? e).map (·.size) = some 1 := by simp [hi, hsz]
  have hlen : news.length = n := by simpa using hx.len
  have key : ∃ w', (Builtin.copy_ #[t, t] o.type #[v, y]).run P w = .ok (.int .i64 n) w' ∧ Own w' e 1 v n news ∧ Chg (fun k => v.ownBlock = some k) w w' := by
    rcases hown.2 with ⟨rfl, rfl⟩ | ⟨g, cap, cur, rfl, hb0, hg, hnc, hcm, hcs, htake⟩
    · obtain rfl : news = [] := List.eq_nil_of_length_eq_zero hlen
      obtain rfl : xs = [] := List.eq_nil_of_length_eq_zero (by simpa using hown.1)
      refine ⟨w, ?_, hown, Chg.refl _ _⟩
      rcases hx.val with ⟨_, ao', c', rfl, _⟩ | ⟨b, off, c, rfl, _⟩ <;> (try cases ao') <;> simp [Builtin.copy_, run_underlying hu, Builtin.lenOf, Builtin.firstCells, sizeOf, typeInfo, hi, loadCells, loadCellsFrom, goInt]
    · rcases hx.val with ⟨rfl, ao', c', rfl, _⟩ | ⟨b, off, c, rfl, _, _, hcell⟩
      · obtain rfl : news = [] := List.eq_nil_of_length_eq_zero hlen
        obtain rfl : xs = [] := List.eq_nil_of_length_eq_zero (by simpa using hown.1)
        exact ⟨w, by cases ao' <;> simp [Builtin.copy_, run_underlying hu, Builtin.lenOf, Builtin.firstCells, loadCells, loadCellsFrom, sizeOf, typeInfo, hi, storeCells, goInt], hown, Chg.refl _ _⟩
      · have hr := run_copy_row (P := P) w t t o.type e g 0 n cap ⟨b, off, none⟩ n c cur e news hu hif hg (by simpa using hlen) (fun j u hu => by rw [addr_add]; exact hcell j u hu) (by rw [hlen, hcs]; omega) hx.one
        refine ⟨_, by rw [hr, hlen]; rfl, ⟨hx.len, .inr ⟨g, cap, _, rfl, hb0, setRow_heap w g cur _ e _ hg, hnc, hcm, ?_, ?_⟩⟩, (setRow_chg w g _).mono fun k _ hk => by subst hk; rfl⟩
        · simp [hlen, hcs]; omega
        · simp only [List.take_zero, List.nil_append, Nat.mul_one, Nat.zero_add]
          rw [List.take_append_of_le_length (by omega), List.take_of_length_le (by omega)]
  obtain ⟨w', hr, h1, h2⟩ := key
  refine wpList_plain hgd fun K hK => ?_
  unfold Oper.wp execOp
  simp only [ho, resolve, invoke, builtin, Sem.run_bind, Sem.run_pure, Result.andThen_ok, List.map_toArray, List.map_cons, List.map_nil, hd, hs, hr]
  exact hK _ _ (h w' h1 h2)

/-! ### Bytes: what the walk wants -/
theorem Rd.form {w : World} {x : Value} {l : List UInt8} (h : Rd w x l) : ∃ ao c, x = .slice ao l.length c ∧ l.length ≤ c := by
  rcases h.val with ⟨h0, ao, c, rfl, _⟩ | ⟨b, off, c, rfl, hc, _⟩
  · exact ⟨ao, c, by rw [h0], by omega⟩
  · exact ⟨_, c, rfl, hc⟩
theorem Rd.cell {w : World} {l : List UInt8} {b off n c : Nat} (h : Rd w (.slice (some ⟨b, off, none⟩) n c) l) {j : Nat} (hj : j < l.length) : w.cell? ⟨b, off + j, none⟩ = some (.int .u8 (l[j].toNat : Int)) := by
  rcases h.val with ⟨h0, _⟩ | ⟨b', off', c', h0, _, _, hcell⟩
  · omega
  · injection h0 with h1 h2 h3
    injection h1 with h1
    injection h1 with h4 h5
    subst h4 h5
    exact hcell j _ (by rw [bcells_get, List.getElem?_eq_getElem hj]; rfl)
/-- A slice that reads and holds something has an address. -/
theorem Rd.addr {w : World} {x : Value} {l : List UInt8} (h : Rd w x l) (hl : 0 < l.length) : ∃ b off c, x = .slice (some ⟨b, off, none⟩) l.length c ∧ l.length ≤ c ∧ b < w.heap.size := by
  rcases h.val with ⟨h0, _⟩ | ⟨b, off, c, rfl, hc, _, hcell⟩
  · omega
  · exact ⟨b, off, c, rfl, hc, World.block_lt_of_cell? w _ (hcell 0 (.int .u8 (l[0].toNat : Int)) (by rw [bcells_get, List.getElem?_eq_getElem hl]; rfl))⟩
theorem Rd.kept {S : Nat → Prop} {w w' : World} {x : Value} {l : List UInt8} (h : Rd w x l) (hg : Chg S w w') (hne : ∀ k, rdb x = some k → ¬ S k) : Rd w' x l := Sl.kept h hg hne
theorem Rd.nil (w : World) : Rd w (.slice none 0 0) [] := ⟨rfl, by simp [bcells], .inl ⟨rfl, none, 0, rfl, Nat.zero_le _, fun _ => rfl⟩⟩
theorem Own.rd {w : World} {e : TypeId} {v : Value} {l : List UInt8} (h : Own w e 1 v l.length (bcells l)) : Rd w v l := Own.sl h (bcells_one l)
/-- Of a slice that reads, the part from lo to hi. -/
theorem Rd.part {w : World} {l : List UInt8} {ao : Option Addr} {n c : Nat} (h : Rd w (.slice ao n c) l) {lo hi : Nat} (h1 : lo ≤ hi) (h2 : hi ≤ l.length) :
    Rd w (.slice (ao.map fun a => if c = lo then a else a.add lo) (hi - lo) (c - lo)) ((l.drop lo).take (hi - lo)) := by
  have hlen : ((l.drop lo).take (hi - lo)).length = hi - lo := by simp; omega
  refine ⟨by simp, bcells_one _, ?_⟩
  rw [hlen]
  rcases h.val with ⟨h3, ao', c', h0, hm, hn⟩ | ⟨b, off, c', h0, hc, hm, hcell⟩
  · cases h0
    have e1 : lo = 0 := by omega
    have e2 : hi = 0 := by omega
    subst e1 e2
    refine .inl ⟨rfl, _, _, rfl, by omega, fun h => ?_⟩
    cases ao with
    | none => have := hn rfl; omega
    | some a => simp at h
  · cases h0
    refine .inr ?_
    by_cases hcl : c = lo
    · subst hcl
      refine ⟨b, off, 0, by simp, by omega, by omega, fun j u hu => ?_⟩
      rw [bcells_get] at hu
      have : ((l.drop c).take (hi - c))[j]? = none := List.getElem?_eq_none (by rw [hlen]; omega)
      rw [this] at hu; cases hu
    · refine ⟨b, off + lo, c - lo, by simp [hcl, addr_add], by omega, by omega, fun j u hu => ?_⟩
      rw [Nat.add_assoc]
      refine hcell (lo + j) u ?_
      rw [bcells_get] at hu ⊢
      rw [List.getElem?_take] at hu
      split at hu
      · rwa [List.getElem?_drop] at hu
      · cases hu

/-- One cell of a slice of the call's own is written. -/
theorem Own.store {w : World} {e : TypeId} {g n c : Nat} {xs : List Value} (h : Own w e 1 (.slice (some ⟨g, 0, none⟩) n c) n xs) {i : Nat} (hi : i < n) (u : Value) :
    Own (w.setCell ⟨g, i, none⟩ u) e 1 (.slice (some ⟨g, 0, none⟩) n c) n (xs.set i u) ∧ w.frozen? ⟨g, i, none⟩ = false ∧ w.cell? ⟨g, i, none⟩ = xs[i]? := by
  rcases h.2 with ⟨h0, _⟩ | ⟨g', c', cur, h0, hb, hg, hnc, hcm, hcs, htake⟩
  · cases h0
  · cases h0
    have hlen := h.1
    refine ⟨⟨by simpa using hlen, .inr ⟨g, c, cur.setIfInBounds i u, rfl, hb, ?_, hnc, hcm, by simpa using hcs, ?_⟩⟩, frozen_of_row w g i cur e hg, ?_⟩
    · rw [setCell_eq_setRow w g i cur e (0, 0) u hg]; exact setRow_heap w g cur _ e (0, 0) hg
    · rw [Array.toList_setIfInBounds, ← htake, List.take_set]
    · rw [cell_of_row w g i cur e (0, 0) hg, ← htake, List.getElem?_take, if_pos (by omega)]
      simp
theorem setCell_chg (w : World) (a : Addr) (u : Value) : Chg (fun k => k = a.block) w (w.setCell a u) := (Chg.refl (fun k => k = a.block) w).setCell (.inr rfl) u

/-- A call that answers bytes in new memory. -/
def NewB (e0 : TypeId) (w : World) (l : List UInt8) (e : Ending) (w' : World) : Prop :=
  ∃ v, e = .returned v ∧ Own w' e0 1 v l.length (bcells l) ∧ Chg (fun _ => False) w w' ∧ ∀ k, v.ownBlock = some k → w.heap.size ≤ k

theorem Own.built (w : World) (cs : Array Value) (t : TypeId) (sz n : Nat) (hn : cs.size = n * sz) (hm : n ≤ maxLen) : Own (w.alloc (.cells cs t)) t sz (.slice (some ⟨w.heap.size, 0, none⟩) n n) n cs.toList :=
  ⟨by simpa using hn, .inr ⟨w.heap.size, n, cs, rfl, Nat.zero_le _, heap_alloc_new w _, Nat.le_refl _, hm, hn, by rw [List.take_of_length_le (by simp; omega)]⟩⟩
theorem Own.cast {w : World} {e : TypeId} {sz : Nat} {v : Value} {n n' : Nat} {xs xs' : List Value} (h : Own w e sz v n xs) (hn : n = n') (hx : xs = xs') : Own w e sz v n' xs' := by subst hn hx; exact h

/-- A slice of the call's own that holds something has a block of its own. -/
theorem Own.addr {w : World} {e : TypeId} {sz : Nat} {ao : Option Addr} {n m cap : Nat} {xs : List Value} (h : Own w e sz (.slice ao m cap) n xs) (hn : 0 < n) : ∃ g, ao = some ⟨g, 0, none⟩ ∧ g < w.heap.size := by
  obtain ⟨g, cap', hv, _, hlt⟩ := World.ownsRow.form h hn
  injection hv with h1
  exact ⟨g, h1, hlt⟩
theorem Own.cap {w : World} {e : TypeId} {sz : Nat} {ao : Option Addr} {n m cap : Nat} {xs : List Value} (h : Own w e sz (.slice ao m cap) n xs) : n ≤ cap := by
  obtain ⟨ao', cap', hv, hc⟩ := h.form
  injection hv with h1 h2 h3
  omega
/-! ### Strings -/
/-- The string of these bytes. -/
def strB (l : List UInt8) : ByteArray := ⟨l.toArray⟩
@[simp] theorem strB_size (l : List UInt8) : (strB l).size = l.length := by simp [strB, ByteArray.size]
theorem strB_data (l : List UInt8) : (strB l).data.toList = l := rfl
theorem strB_of (s : ByteArray) : strB s.data.toList = s := rfl
theorem strB_nums (l : List UInt8) : strOfNums (l.map fun b => (b.toNat : Int)) = strB l := by
  simp only [strOfNums, strB, List.map_map]
  congr 2
  refine (List.map_congr_left fun b _ => ?_).trans (List.map_id l)
  simp
theorem run_str {P : Program} {w : World} {src dst e : TypeId} (hs : P.underlying src = some (.slice e)) (he : P.underlying e = some (.int .u8)) (hd : P.underlying dst = some .string) {x : Value} {l : List UInt8} (hx : Rd w x l) :
    (convert src dst x).run P w = .ok (.string (strB l)) w := by
  rcases hx.val with ⟨h0, ao, c, rfl, _, hn⟩ | ⟨b, off, c, rfl, _, _, hcell⟩
  · obtain rfl : l = [] := List.eq_nil_of_length_eq_zero h0
    cases ao with
    | none => obtain rfl := hn rfl; exact run_convert_bytes_nil w src e hs he 0 0 dst hd
    | some a =>
      rw [run_convert_bytes_string w src dst e _ 0 c hs he hd]
      simp [Conv.bytesToString, loadCells, loadCellsFrom, strB]
      rfl
  · rw [← strB_nums]
    refine run_convert_bytes_arg w src e hs he b off l.length c _ (by simp) (fun i hi => ?_) dst hd
    rw [hcell i (.int .u8 (l[i].toNat : Int)) (by rw [bcells_get, List.getElem?_eq_getElem hi]; rfl)]
    simp [List.getD, hi]
theorem wpl_str {P : Program} {ops : Array Oper} {rest : List Oper} {o : Oper} {a : Act} {Q : Exit → Act → World → Prop} {w : World} (hgd : o.guard = none) (src dst : TypeId) (s : Operand)
    (ho : o.op = .convert src dst s) {e : TypeId} (hs : P.underlying src = some (.slice e)) (he : P.underlying e = some (.int .u8)) (hd : P.underlying dst = some .string) {x : Value} {l : List UInt8} (hx : Rd w x l) (hy : a.eval s = x)
    (h : wpList P ops Q rest (a.put o.dst (.string (strB l))) w) : wpList P ops Q (o :: rest) a w := by
  refine wpList_plain hgd fun K hK => ?_
  unfold Oper.wp execOp
  simp only [ho, Sem.run_bind, hy, run_str hs he hd hx, Result.andThen_ok, Sem.run_pure]
  exact hK _ _ h
end Go.Sat
