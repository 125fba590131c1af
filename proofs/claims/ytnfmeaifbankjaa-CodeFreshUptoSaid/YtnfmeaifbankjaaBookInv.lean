import Derived.Test.YtnfmeaifbankjaaBook
import Derived.Test.YtnfmeaifbankjaaBookBytes
set_option linter.unusedVariables false
namespace Go.Sat
open Go Go.RowKit
/-- APPEND of one element onto a slice of the call's own, and what becomes of its old memory: it is grown in its place, or nothing that was there is changed. -/
theorem wpl_append_kind {P : Program} {ops : Array Oper} {rest : List Oper} {o : Oper} {a : Act} {Q : Exit → Act → World → Prop} {w : World} (hgd : o.guard = none) (s x : Operand) (t : TypeId)
    (ho : o.op = .call { callee := .builtin .append, args := #[s, x], argTypes := #[t, t] }) {e : TypeId} {sz bytes : Nat} {z : Value} (hty : SliceTy P t e sz bytes z)
    {v y : Value} {n : Nat} {xs news : List Value}
    (hown : Own w e sz v n xs) (hx : Sl w sz y 1 news) (hs : a.eval s = v) (hy : a.eval x = y) (h63 : n + 1 ≤ maxLen) (hb : (n + 1) * bytes ≤ 140737488355328)
    (h : ∀ g cap w', Own w' e sz (.slice (some ⟨g, 0, none⟩) (n + 1) cap) (n + 1) (xs ++ news) → (v.ownBlock = some g ∧ w.grownBy w' (some g) ∨ g = w.heap.size ∧ w.grownBy w' none) → wpList P ops Q rest (a.put o.dst (.slice (some ⟨g, 0, none⟩) (n + 1) cap)) w') : wpList P ops Q (o :: rest) a w := by
  refine wpList_plain hgd fun K hK => ?_
  obtain ⟨hu, ⟨i, hi, hz, hsz, hby⟩, hzs, hpos⟩ := hty
  rcases hx.val with ⟨h0, _⟩ | ⟨b, off, c, rfl, _, _, hcell⟩
  · omega
  · have hnews : ∀ j u, news[j]? = some u → w.cell? ((⟨b, off, none⟩ : Addr).add j) = some u := fun j u hu => by rw [addr_add]; exact hcell j u hu
    obtain ⟨v', w', hr, h2, h3, _, h5⟩ := run_append_own_at (P := P) w 0 t o.type e i z sz bytes hu hi hz hsz hby hzs hpos v n xs hown ⟨b, off, none⟩ 1 c news hx.len hnews hx.one h63 hb (Nat.zero_le _)
    obtain ⟨g, cap, rfl, _, hlt⟩ := World.ownsRow.form h2 (by omega)
    have hk : v.ownBlock = some g ∧ w.grownBy w' (some g) ∨ g = w.heap.size ∧ w.grownBy w' none := by
      rcases h5 with h5 | h5
      · left
        have : v.ownBlock = some g := h5.symm
        exact ⟨this, this ▸ h3⟩
      · right
        have hg : g = w.heap.size := by simpa [Value.ownBlock] using h5
        refine ⟨hg, ?_⟩
        rcases hown.2 with ⟨rfl, _⟩ | ⟨g0, cap0, cur, rfl, _, hgg, hnc, hcm, hcs, htake⟩
        · exact h3
        · have hlt0 : g0 < w.heap.size := (Array.getElem?_eq_some_iff.1 hgg).1
          subst hsz
          by_cases hroom : n + 1 ≤ cap0
          · have hfit : n * i.size + news.length ≤ cur.size := by rw [hx.len, hcs, ← Nat.add_mul]; exact Nat.mul_le_mul_right _ hroom
            have hr2 := run_append_room (P := P) w t o.type e i hu hi g0 n cap0 cur hgg ⟨b, off, none⟩ 1 c news hx.len hnews hx.one hroom hfit
            rw [hr] at hr2
            injection hr2 with e1 e2
            injection e1 with e1
            injection e1 with e1
            injection e1 with e1
            omega
          · have holds : ∀ j u, xs[j]? = some u → w.cell? ((⟨g0, 0, none⟩ : Addr).add j) = some u := World.ownsRow.cells hown rfl
            have hr2 := run_append_grow (P := P) w t o.type e i z hu hi hz ⟨g0, 0, none⟩ n cap0 xs hown.1 holds ⟨b, off, none⟩ 1 c news hx.len hnews (by omega) (by simp only [maxLen] at h63; omega) (growslice_fits (by omega) (by rw [hby]; exact hb))
            rw [hr] at hr2
            injection hr2 with e1 e2
            rw [e2]
            exact ⟨rfl, rfl, rfl, by simp, fun k hk _ => Below.heap_alloc w.drew _ _ hk⟩
    unfold Oper.wp execOp
    simp only [ho, resolve, invoke, builtin, Sem.run_bind, Sem.run_pure, Result.andThen_ok, List.map_toArray, List.map_cons, List.map_nil, hs, hy, hr]
    exact hK _ _ (h g cap w' h2 hk)
end Go.Sat
namespace Go.Sat
open Go Go.RowKit
/-- An entry of a Book: a list, its mark's number, its length. -/
structure En where
  v : Value
  m : Nat
  n : Nat
theorem Rd.rdb_lt {w : World} {x : Value} {l : List UInt8} (h : Rd w x l) : ∀ b, rdb x = some b → b < w.heap.size := by
  intro b hb
  rcases h.val with ⟨h0, ao, c, rfl, _⟩ | ⟨b', off, c, rfl, hc, _, hcell⟩
  · cases ao <;> simp [rdb] at hb
  · by_cases hz : l.length = 0
    · simp [rdb, hz] at hb
    · have hl : 0 < l.length := by omega
      have hbb : b' = b := by simp only [rdb, if_neg hz, Option.some.injEq] at hb; exact hb
      subst hbb
      exact World.block_lt_of_cell? w _ (hcell 0 (.int .u8 (l[0].toNat : Int)) (by rw [bcells_get, List.getElem?_eq_getElem hl]; rfl))
/-- The entries of a Book: each holds its marks; those from lo to hi have not been grown: they are the call's own and apart from all others. -/
structure Ents (t8 : TypeId) (w : World) (xs : List En) (lo hi : Nat) (F : Nat → Prop) : Prop where
  rd : ∀ (i : Nat) (x : En), xs[i]? = some x → Rd w x.v (marks x.m x.n) ∧ (∀ b, rdb x.v = some b → F b) ∧ x.m ≤ 100000 ∧ x.n ≤ 10000100
  own : ∀ (i : Nat) (x : En), xs[i]? = some x → lo ≤ i → i < hi → Own w t8 1 x.v x.n (bcells (marks x.m x.n)) ∧ x.n ≤ 10000000 ∧ ∀ b, x.v.ownBlock = some b → F b ∧ ∀ (j : Nat) (y : En), xs[j]? = some y → j ≠ i → rdb y.v ≠ some b ∧ (lo ≤ j → j < hi → y.v.ownBlock ≠ some b)
theorem Ents.kept {S : Nat → Prop} {t8 : TypeId} {w w' : World} {xs : List En} {lo hi : Nat} {F : Nat → Prop} (h : Ents t8 w xs lo hi F) (c : Chg S w w') (hS : ∀ b, F b → ¬ S b) : Ents t8 w' xs lo hi F :=
  ⟨fun i x hx => have ⟨a, b, d⟩ := h.rd i x hx; ⟨a.kept c (fun k hk => hS k (b k hk)), b, d⟩,
    fun i x hx h1 h2 => have ⟨a, b, d⟩ := h.own i x hx h1 h2; ⟨a.kept c (fun k hk => hS k (d k hk).1), b, d⟩⟩
theorem Ents.wide {t8 : TypeId} {w : World} {xs : List En} {lo hi : Nat} {F G : Nat → Prop} (h : Ents t8 w xs lo hi F) (hG : ∀ b, b < w.heap.size → F b → G b) : Ents t8 w xs lo hi G :=
  ⟨fun i x hx => have ⟨a, b, d⟩ := h.rd i x hx; ⟨a, fun k hk => hG k (a.rdb_lt k hk) (b k hk), d⟩,
    fun i x hx h1 h2 => have ⟨a, b, d⟩ := h.own i x hx h1 h2; ⟨a, b, fun k hk => ⟨hG k (a.lt k hk) (d k hk).1, (d k hk).2⟩⟩⟩
theorem get_snoc {α : Type} {xs : List α} {y x : α} {i : Nat} (h : (xs ++ [y])[i]? = some x) : xs[i]? = some x ∨ i = xs.length ∧ x = y := by
  rcases Nat.lt_or_ge i xs.length with hi | hi
  · left; rwa [List.getElem?_append_left hi] at h
  · right
    rw [List.getElem?_append_right hi] at h
    have : i - xs.length = 0 := by
      rcases Nat.eq_zero_or_pos (i - xs.length) with e | e
      · exact e
      · rw [List.getElem?_eq_none (by simp only [List.length_cons, List.length_nil]; omega)] at h; cases h
    rw [this] at h
    simp only [List.getElem?_cons_zero, Option.some.injEq] at h
    exact ⟨by omega, h.symm⟩
theorem get_lt {α : Type} {xs : List α} {x : α} {i : Nat} (h : xs[i]? = some x) : i < xs.length := (List.getElem?_eq_some_iff.1 h).1
/-- A list of its own is laid behind those that have not been grown. -/
theorem Ents.push {t8 : TypeId} {w : World} {xs : List En} {lo : Nat} {F : Nat → Prop} (h : Ents t8 w xs lo xs.length F) (y : En) (hy : Own w t8 1 y.v y.n (bcells (marks y.m y.n))) (hm : y.m ≤ 100000) (hn : y.n ≤ 10000000)
    (hf : ∀ b, y.v.ownBlock = some b → F b ∧ ∀ (j : Nat) (x : En), xs[j]? = some x → rdb x.v ≠ some b ∧ (lo ≤ j → j < xs.length → x.v.ownBlock ≠ some b)) : Ents t8 w (xs ++ [y]) lo (xs.length + 1) F := by
  have hyr : Rd w y.v (marks y.m y.n) := Own.rd (e := t8) (by rw [marks_len]; exact hy)
  refine ⟨fun i x hx => ?_, fun i x hx h1 h2 => ?_⟩
  · rcases get_snoc hx with hx | ⟨rfl, rfl⟩
    · exact h.rd i x hx
    · exact ⟨hyr, fun b hb => (hf b (rdb_own hb)).1, hm, by omega⟩
  · rcases get_snoc hx with hx' | ⟨rfl, rfl⟩
    · clear hx
      have hi := get_lt hx'
      obtain ⟨a, b, d⟩ := h.own i x hx' h1 hi
      refine ⟨a, b, fun k hk => ⟨(d k hk).1, fun j z hz hj => ?_⟩⟩
      rcases get_snoc hz with hz | ⟨rfl, rfl⟩
      · have ⟨e1, e2⟩ := (d k hk).2 j z hz hj
        exact ⟨e1, fun u _ => e2 u (get_lt hz)⟩
      · have hne : z.v.ownBlock ≠ some k := fun e => ((hf k e).2 i x hx').2 h1 hi hk
        exact ⟨fun e => hne (rdb_own e), fun _ _ => hne⟩
    · refine ⟨hy, hn, fun k hk => ⟨(hf k hk).1, fun j z hz hj => ?_⟩⟩
      rcases get_snoc hz with hz | ⟨rfl, rfl⟩
      · have ⟨e1, e2⟩ := (hf k hk).2 j z hz
        exact ⟨e1, fun u _ => e2 u (get_lt hz)⟩
      · exact absurd rfl hj
/-- Blocks that a Book's lists may lie in. -/
def Fre (O : Nat → Prop) (bk : Nat) (bs bo : Value) (b : Nat) : Prop := O b ∧ b ≠ bk ∧ bs.ownBlock ≠ some b ∧ bo.ownBlock ≠ some b
end Go.Sat
namespace Go.Proofs.Ytnfmeaifbankjaa
open Go Go.RowKit Go.Sat
/-- A Book in memory: its blocks are all of O's. -/
structure BkI (w : World) (bk : Nat) (T : TypeId) (O : Nat → Prop) (xs : List En) (at_ lo hi tn dn : Nat) : Prop where
  ex : ∃ bs bo us, 0 ≤ us ∧ us ≤ 16777216 ∧ Bk w bk T bs bo xs.length (xs.map En.v) (xs.map fun x => .int .i64 (x.m : Int)) (at_ : Int) (tn : Int) (dn : Int) us ∧ (∀ b, b = bk ∨ bs.ownBlock = some b ∨ bo.ownBlock = some b → O b) ∧ Ents 5 w xs lo hi (Fre O bk bs bo)
theorem BkI.kept {S O : Nat → Prop} {w w' : World} {bk : Nat} {T : TypeId} {xs : List En} {at_ lo hi tn dn : Nat} (h : BkI w bk T O xs at_ lo hi tn dn) (c : Chg S w w') (hS : ∀ b, O b → ¬ S b) : BkI w' bk T O xs at_ lo hi tn dn := by
  obtain ⟨bs, bo, us, h1, h2, h3, h4, h5⟩ := h.ex
  exact ⟨bs, bo, us, h1, h2, h3.kept c (hS _ (h4 _ (.inl rfl))) (fun k hk => hS _ (h4 _ (.inr (.inl hk)))) (fun k hk => hS _ (h4 _ (.inr (.inr hk)))), h4, h5.kept c (fun b hb => hS b hb.1)⟩
theorem BkI.wide {O O' : Nat → Prop} {w : World} {bk : Nat} {T : TypeId} {xs : List En} {at_ lo hi tn dn : Nat} (h : BkI w bk T O xs at_ lo hi tn dn) (hO : ∀ b, O b → O' b) : BkI w bk T O' xs at_ lo hi tn dn := by
  obtain ⟨bs, bo, us, h1, h2, h3, h4, h5⟩ := h.ex
  exact ⟨bs, bo, us, h1, h2, h3, fun b hb => hO b (h4 b hb), h5.wide fun b _ hb => ⟨hO b hb.1, hb.2⟩⟩
theorem Moved.own {w : World} {v v' : Value} (h : Moved w v v') {b : Nat} (hb : b < w.heap.size) (hn : v.ownBlock ≠ some b) : v'.ownBlock ≠ some b := by
  rcases h with h | ⟨k, h, hk⟩
  · rw [h]; exact hn
  · rw [h]; intro e; injection e with e; omega
theorem Moved.occ {w : World} {v v' : Value} (h : Moved w v v') {b : Nat} (hb : v'.ownBlock = some b) : v.ownBlock = some b ∨ w.heap.size ≤ b := by
  rcases h with h | ⟨k, h, hk⟩
  · left; rw [← h]; exact hb
  · right; rw [h] at hb; injection hb with hb; omega
/-- Bytes: a list goes into the Book. -/
theorem bytesI_any (bk : Nat) (T : TypeId) (O : Nat → Prop) (xs : List En) (lo tn dn : Nat) (v : Value) (l : List UInt8) (w : World) (h : BkI w bk T O xs lo lo xs.length tn dn) (hv : Own w 5 1 v l.length (bcells l)) (hO : ∀ k, v.ownBlock = some k → ¬ O k)
    (htn : tn ≤ 9000) (hl : l.length ≤ 10000000) (hlo : lo ≤ xs.length) (hc : xs.length + 9 * (xs.length - lo) ≤ 10 * tn) :
    Calls Try.prog 47 #[.pointer (some ⟨bk, 0, none⟩), v] w fun e w' => e = .returned (.tuple #[]) ∧ ∃ xs', BkI w' bk T (fun b => O b ∨ v.ownBlock = some b ∨ w.heap.size ≤ b) xs' lo lo xs'.length (tn + 1) dn ∧
      Chg (fun b => O b ∨ v.ownBlock = some b) w w' ∧ lo ≤ xs'.length ∧ xs'.length + 9 * (xs'.length - lo) ≤ 10 * (tn + 1) := by
  obtain ⟨bs, bo, us, h1, h2, h3, h4, h5⟩ := h.ex
  refine (bytes_any bk T bs bo v xs.length _ _ lo dn us tn l w h3 hv (fun k hk => ⟨fun e => hO k hk (h4 k (.inl e)), fun e => hO k hk (h4 k (.inr (.inl e))), fun e => hO k hk (h4 k (.inr (.inr e)))⟩) (by omega) hl ⟨h1, h2⟩ (by omega)).mono ?_
  rintro e w' ⟨rfl, P⟩
  have hF : ∀ b, Fre O bk bs bo b → ¬ (b = bk ∨ bs.ownBlock = some b ∨ bo.ownBlock = some b ∨ v.ownBlock = some b) := by
    rintro b ⟨e1, e2, e3, e4⟩ (e | e | e | e)
    · exact e2 e
    · exact e3 e
    · exact e4 e
    · exact hO b e e1
  have E := h5.kept P.chg hF
  have hC : Chg (fun b => O b ∨ v.ownBlock = some b) w w' := P.chg.mono fun b _ hb => by
    rcases hb with e | e | e | e
    · exact .inl (h4 b (.inl e))
    · exact .inl (h4 b (.inr (.inl e)))
    · exact .inl (h4 b (.inr (.inr e)))
    · exact .inr e
  refine ⟨rfl, ?_⟩
  rcases P.bk with B | ⟨bs', bo', us', hu1, hu2, B, M1, M2⟩
  · exact ⟨xs, ⟨bs, bo, us, h1, h2, B, fun b hb => .inl (h4 b hb), E.wide fun b _ hb => ⟨.inl hb.1, hb.2⟩⟩, hC, hlo, by omega⟩
  · have hlen : (xs ++ [(⟨v, tn + 1, l.length⟩ : En)]).length = xs.length + 1 := by simp
    refine ⟨xs ++ [⟨v, tn + 1, l.length⟩], ⟨bs', bo', us', hu1, hu2, ?_, ?_, ?_⟩, hC, by omega, by omega⟩
    · simp only [List.map_append, List.map_cons, List.map_nil, hlen]
      exact B
    · rintro b (e | e | e)
      · exact .inl (h4 b (.inl e))
      · rcases M1.occ e with e | e
        · exact .inl (h4 b (.inr (.inl e)))
        · exact .inr (.inr e)
      · rcases M2.occ e with e | e
        · exact .inl (h4 b (.inr (.inr e)))
        · exact .inr (.inr e)
    · rw [hlen]
      have E2 : Ents 5 w' xs lo xs.length (Fre (fun b => O b ∨ v.ownBlock = some b ∨ w.heap.size ≤ b) bk bs' bo') := by
        have hlt : ∀ b, Fre O bk bs bo b → b < w.heap.size → Fre (fun b => O b ∨ v.ownBlock = some b ∨ w.heap.size ≤ b) bk bs' bo' b := fun b hb hlt => ⟨.inl hb.1, hb.2.1, M1.own hlt hb.2.2.1, M2.own hlt hb.2.2.2⟩
        exact (h5.wide fun b h6 h7 => (⟨h7, h6⟩ : Fre O bk bs bo b ∧ b < w.heap.size)).kept P.chg (fun b hb => hF b hb.1) |>.wide fun b _ hb => hlt b hb.1 hb.2
      refine E2.push ⟨v, tn + 1, l.length⟩ P.own (by show tn + 1 ≤ 100000; omega) hl fun b hb => ?_
      have hb' : v.ownBlock = some b := hb
      have hlt := hv.lt b hb'
      refine ⟨⟨.inr (.inl hb'), fun e => hO b hb' (h4 b (.inl e)), M1.own hlt fun e => hO b hb' (h4 b (.inr (.inl e))), M2.own hlt fun e => hO b hb' (h4 b (.inr (.inr e)))⟩, fun j x hx => ⟨fun e => hO b hb' ((h5.rd j x hx).2.1 b e).1, fun g1 g2 e => hO b hb' ((h5.own j x hx g1 g2).2.2 b e).1.1⟩⟩
end Go.Proofs.Ytnfmeaifbankjaa
namespace Go.Sat
open Go Go.RowKit
theorem marks_take (m : Nat) {k n : Nat} (h : k ≤ n) : (marks m n).take k = marks m k := by
  unfold marks
  rw [← List.map_take, List.take_range, Nat.min_eq_left h]
/-- A beginning of a list that holds its marks. -/
theorem beg_rd {t8 : TypeId} {w : World} {b N cap m k c : Nat} (h : Own w t8 1 (.slice (some ⟨b, 0, none⟩) N cap) N (bcells (marks m N))) (hk : k ≤ N) (hc : k ≤ c) (hm : c ≤ maxLen) : Rd w (.slice (some ⟨b, 0, none⟩) k c) (marks m k) := by
  refine ⟨by simp, bcells_one _, .inr ⟨b, 0, c, by rw [marks_len], by rw [marks_len]; exact hc, hm, fun j u hu => ?_⟩⟩
  have hj : j < k := by
    rcases Nat.lt_or_ge j k with e | e
    · exact e
    · rw [List.getElem?_eq_none (by simp [marks_len]; exact e)] at hu; cases hu
  rw [← addr_add]
  refine World.ownsRow.cells h rfl j u ?_
  rw [← marks_take m hk, bcells_take, List.getElem?_take, if_pos hj] at hu
  exact hu
/-- The list that is being grown: it is the call's own; of the entries just its own beginnings lie in its memory. -/
structure Gex (t8 : TypeId) (w : World) (xs : List En) (lo hi : Nat) (F : Nat → Prop) (g : Value) (m n : Nat) : Prop where
  own : Own w t8 1 g n (bcells (marks m n))
  far : ∀ b, g.ownBlock = some b → F b ∧ ∀ (j : Nat) (y : En), xs[j]? = some y → (lo ≤ j → j < hi → y.v.ownBlock ≠ some b) ∧ (rdb y.v = some b → y.m = m ∧ y.n ≤ n ∧ ∃ c, y.v = .slice (some ⟨b, 0, none⟩) y.n c ∧ y.n ≤ c ∧ c ≤ maxLen)
theorem Own.long {w : World} {e : TypeId} {sz : Nat} {ao : Option Addr} {n m cap : Nat} {xs : List Value} (h : Own w e sz (.slice ao m cap) n xs) : cap ≤ maxLen := by
  rcases h.2 with ⟨h0, _⟩ | ⟨g, cap', cur, h0, _, _, _, hm, _⟩
  · cases h0; exact Nat.zero_le _
  · cases h0; exact hm
theorem own_beg {t8 : TypeId} {w : World} {v : Value} {m n b : Nat} (h : Own w t8 1 v n (bcells (marks m n))) (hb : rdb v = some b) : ∃ c, v = .slice (some ⟨b, 0, none⟩) n c ∧ n ≤ c ∧ c ≤ maxLen := by
  obtain ⟨ao, cap, rfl, hc⟩ := h.form
  have hn : 0 < n := by
    rcases Nat.eq_zero_or_pos n with e | e
    · subst e; cases ao <;> simp [rdb] at hb
    · exact e
  obtain ⟨g, rfl, _⟩ := h.addr hn
  have : g = b := by simp only [rdb] at hb; rw [if_neg (by omega)] at hb; injection hb
  subst this
  exact ⟨cap, rfl, hc, h.long⟩
/-- One of those that have not been grown is taken. -/
theorem Ents.start {t8 : TypeId} {w : World} {xs : List En} {lo hi : Nat} {F : Nat → Prop} (h : Ents t8 w xs lo hi F) (hlt : lo < hi) {x : En} (hx : xs[lo]? = some x) : Ents t8 w xs (lo + 1) hi F ∧ Gex t8 w xs (lo + 1) hi F x.v x.m x.n := by
  refine ⟨⟨h.rd, fun i y hy h1 h2 => ?_⟩, ?_, fun b hb => ?_⟩
  · obtain ⟨a, b, d⟩ := h.own i y hy (by omega) h2
    exact ⟨a, b, fun k hk => ⟨(d k hk).1, fun j z hz hj => ⟨((d k hk).2 j z hz hj).1, fun g1 g2 => ((d k hk).2 j z hz hj).2 (by omega) g2⟩⟩⟩
  · exact (h.own lo x hx (Nat.le_refl _) hlt).1
  · obtain ⟨a, _, d⟩ := h.own lo x hx (Nat.le_refl _) hlt
    refine ⟨(d b hb).1, fun j y hy => ⟨fun h1 h2 => ((d b hb).2 j y hy (by omega)).2 (by omega) h2, fun hr => ?_⟩⟩
    by_cases hj : j = lo
    · subst hj
      obtain rfl : x = y := by rw [hx] at hy; injection hy
      exact ⟨rfl, Nat.le_refl _, own_beg a hr⟩
    · exact absurd hr ((d b hb).2 j y hy hj).1
/-- It grows by one. -/
theorem Gex.grow {t8 : TypeId} {w w' : World} {xs : List En} {lo hi : Nat} {F : Nat → Prop} {g : Value} {m n g' cap : Nat} (h : Gex t8 w xs lo hi F g m n) (hE : Ents t8 w xs lo hi F) (hF : F w.heap.size)
    (ho : Own w' t8 1 (.slice (some ⟨g', 0, none⟩) (n + 1) cap) (n + 1) (bcells (marks m (n + 1)))) (hg : g.ownBlock = some g' ∧ w.grownBy w' (some g') ∨ g' = w.heap.size ∧ w.grownBy w' none) :
    Ents t8 w' xs lo hi F ∧ Gex t8 w' xs lo hi F (.slice (some ⟨g', 0, none⟩) (n + 1) cap) m (n + 1) := by
  rcases hg with ⟨hb, hg⟩ | ⟨rfl, hg⟩
  · have c : Chg (fun k => k = g') w w' := Chg.of_grown hg fun k hk _ => by injection hk with hk; exact hk.symm
    obtain ⟨f1, f2⟩ := h.far g' hb
    refine ⟨⟨fun i x hx => ?_, fun i x hx h1 h2 => ?_⟩, ho, fun b hbb => ?_⟩
    · obtain ⟨a, b, d⟩ := hE.rd i x hx
      refine ⟨?_, b, d⟩
      by_cases hr : rdb x.v = some g'
      · obtain ⟨e1, e2, c, e3, e4, e5⟩ := (f2 i x hx).2 hr
        rw [e3, e1]
        exact beg_rd ho (by omega) e4 e5
      · exact a.kept c fun k hk e => hr (by rw [hk, e])
    · obtain ⟨a, b, d⟩ := hE.own i x hx h1 h2
      exact ⟨a.kept c fun k hk e => (f2 i x hx).1 h1 h2 (by rw [hk, e]), b, d⟩
    · have : g' = b := by simpa [Value.ownBlock] using hbb
      subst this
      exact ⟨f1, fun j y hy => ⟨(f2 j y hy).1, fun hr => by obtain ⟨e1, e2, e3⟩ := (f2 j y hy).2 hr; exact ⟨e1, by omega, e3⟩⟩⟩
  · have c : Chg (fun _ => False) w w' := Chg.of_grown hg fun k hk _ => by cases hk
    refine ⟨hE.kept c (fun _ _ => id), ho, fun b hbb => ?_⟩
    have : w.heap.size = b := by simpa [Value.ownBlock] using hbb
    subst this
    refine ⟨hF, fun j y hy => ⟨fun h1 h2 e => ?_, fun hr => ?_⟩⟩
    · have := (hE.own j y hy h1 h2).1.lt _ e; omega
    · have := (hE.rd j y hy).1.rdb_lt _ hr; omega
/-- It is laid behind the entries. -/
theorem Gex.add {t8 : TypeId} {w : World} {xs : List En} {lo hi : Nat} {F : Nat → Prop} {g : Value} {m n : Nat} (h : Gex t8 w xs lo hi F g m n) (hE : Ents t8 w xs lo hi F) (hm : m ≤ 100000) (hn : n ≤ 10000100) (hh : hi ≤ xs.length) :
    Ents t8 w (xs ++ [⟨g, m, n⟩]) lo hi F ∧ Gex t8 w (xs ++ [⟨g, m, n⟩]) lo hi F g m n := by
  have hr : Rd w g (marks m n) := Own.rd (e := t8) (by rw [marks_len]; exact h.own)
  refine ⟨⟨fun i x hx => ?_, fun i x hx h1 h2 => ?_⟩, h.own, fun b hb => ⟨(h.far b hb).1, fun j y hy => ?_⟩⟩
  · rcases get_snoc hx with hx' | ⟨rfl, rfl⟩
    · exact hE.rd i x hx'
    · exact ⟨hr, fun b hb => (h.far b (rdb_own hb)).1, hm, hn⟩
  · rcases get_snoc hx with hx' | ⟨rfl, rfl⟩
    · clear hx
      obtain ⟨a, b, d⟩ := hE.own i x hx' h1 h2
      refine ⟨a, b, fun k hk => ⟨(d k hk).1, fun j z hz hj => ?_⟩⟩
      rcases get_snoc hz with hz' | ⟨rfl, rfl⟩
      · exact (d k hk).2 j z hz' hj
      · exact ⟨fun e => ((h.far k (rdb_own e)).2 i x hx').1 h1 h2 hk, fun g1 g2 => by omega⟩
    · omega
  · rcases get_snoc hy with hy' | ⟨rfl, rfl⟩
    · exact (h.far b hb).2 j y hy'
    · exact ⟨fun g1 g2 => by omega, fun hrr => ⟨rfl, Nat.le_refl _, own_beg h.own hrr⟩⟩
theorem Gex.kept {S : Nat → Prop} {t8 : TypeId} {w w' : World} {xs : List En} {lo hi : Nat} {F : Nat → Prop} {g : Value} {m n : Nat} (h : Gex t8 w xs lo hi F g m n) (c : Chg S w w') (hS : ∀ b, F b → ¬ S b) : Gex t8 w' xs lo hi F g m n :=
  ⟨h.own.kept c fun k hk => hS k (h.far k hk).1, h.far⟩
theorem Gex.wide {t8 : TypeId} {w : World} {xs : List En} {lo hi : Nat} {F G : Nat → Prop} {g : Value} {m n : Nat} (h : Gex t8 w xs lo hi F g m n) (hG : ∀ b, b < w.heap.size → F b → G b) : Gex t8 w xs lo hi G g m n :=
  ⟨h.own, fun b hb => ⟨hG b (h.own.lt b hb) (h.far b hb).1, (h.far b hb).2⟩⟩
end Go.Sat
