import Derived.Test.YtnfmeaifbankjaaBookLook
import Derived.Lib.ConvBytes
import Derived.Deep.QuietTactic
import Derived.BigQuiet
set_option linter.unusedVariables false
namespace Go.Sat
open Go Go.RowKit
theorem wpl_bytes {P : Program} {ops : Array Oper} {rest : List Oper} {o : Oper} {a : Act} {Q : Exit → Act → World → Prop} {w : World} (hgd : o.guard = none) (src dst : TypeId) (s : Operand)
    (ho : o.op = .convert src dst s) {e : TypeId} (hs : P.underlying src = some .string) (hd : P.underlying dst = some (.slice e)) (he : P.underlying e = some (.int .u8)) {l : List UInt8} (hy : a.eval s = .string (strB l)) (hl : l.length ≤ maxLen)
    (h : ∀ c w', Rd w' (.slice (some ⟨w.heap.size, 0, none⟩) l.length c) l → Chg (fun _ => False) w w' → w'.heap.size = w.heap.size + 1 → wpList P ops Q rest (a.put o.dst (.slice (some ⟨w.heap.size, 0, none⟩) l.length c)) w') : wpList P ops Q (o :: rest) a w := by
  refine wpList_plain hgd fun K hK => ?_
  have hr := Lib.run_convert_string_bytes (P := P) w src dst e (strB l) hs hd he
  rw [strB_size] at hr
  unfold Oper.wp execOp
  simp only [ho, Sem.run_bind, hy, hr, Result.andThen_ok, Sem.run_pure]
  refine hK _ _ (h _ _ ⟨by simp, bcells_one _, .inr ⟨_, _, _, rfl, ?_, ?_, fun j u hu => ?_⟩⟩ ⟨rfl, rfl, rfl, by rw [Lib.bytesWorld_size]; omega, fun k hk _ => Lib.bytesWorld_at_old w e _ k hk⟩ (Lib.bytesWorld_size w e _))
  · exact grownCap_ge w l.length 0 e
  · exact grownCap_le_maxLen w l.length 0 e hl
  · have hj : j < l.length := by
      rcases Nat.lt_or_ge j l.length with e | e
      · exact e
      · rw [List.getElem?_eq_none (by simpa using e)] at hu; cases hu
    rw [bcells_get, List.getElem?_eq_getElem hj] at hu
    injection hu with hu
    have := Lib.bytesWorld_cell w e (strB l) j (by rw [strB_size]; exact hj)
    rw [Nat.zero_add, this, ← hu, strB_data]
    simp [List.getD, hj]
/-- An answer that is kept: its list, its bytes, the list of what it must be. -/
structure Le where
  v : Value
  l : List UInt8
  u : Value
/-- The answers that are kept. -/
structure Les (t8 : TypeId) (w : World) (gs : List Le) (F : Nat → Prop) : Prop where
  own : ∀ (i : Nat) (x : Le), gs[i]? = some x → Own w t8 1 x.v x.l.length (bcells x.l) ∧ x.l.length ≤ 10000000 ∧ ∀ b, x.v.ownBlock = some b → F b ∧ ∀ (j : Nat) (y : Le), gs[j]? = some y → rdb y.u ≠ some b ∧ (j ≠ i → y.v.ownBlock ≠ some b)
  rd : ∀ (i : Nat) (x : Le), gs[i]? = some x → Rd w x.u x.l ∧ ∀ b, rdb x.u = some b → F b
theorem Les.kept {S : Nat → Prop} {t8 : TypeId} {w w' : World} {gs : List Le} {F : Nat → Prop} (h : Les t8 w gs F) (c : Chg S w w') (hS : ∀ b, F b → ¬ S b) : Les t8 w' gs F :=
  ⟨fun i x hx => have ⟨a, b, d⟩ := h.own i x hx; ⟨a.kept c (fun k hk => hS k (d k hk).1), b, d⟩,
    fun i x hx => have ⟨a, b⟩ := h.rd i x hx; ⟨a.kept c (fun k hk => hS k (b k hk)), b⟩⟩
theorem Les.wide {t8 : TypeId} {w : World} {gs : List Le} {F G : Nat → Prop} (h : Les t8 w gs F) (hG : ∀ b, b < w.heap.size → F b → G b) : Les t8 w gs G :=
  ⟨fun i x hx => have ⟨a, b, d⟩ := h.own i x hx; ⟨a, b, fun k hk => ⟨hG k (a.lt k hk) (d k hk).1, (d k hk).2⟩⟩,
    fun i x hx => have ⟨a, b⟩ := h.rd i x hx; ⟨a, fun k hk => hG k (a.rdb_lt k hk) (b k hk)⟩⟩
theorem Les.push {t8 : TypeId} {w : World} {gs : List Le} {F : Nat → Prop} (h : Les t8 w gs F) (y : Le) (hy : Own w t8 1 y.v y.l.length (bcells y.l)) (hn : y.l.length ≤ 10000000) (hr : Rd w y.u y.l)
    (hu : ∀ b, rdb y.u = some b → F b ∧ y.v.ownBlock ≠ some b ∧ ∀ (j : Nat) (x : Le), gs[j]? = some x → x.v.ownBlock ≠ some b)
    (hf : ∀ b, y.v.ownBlock = some b → F b ∧ ∀ (j : Nat) (x : Le), gs[j]? = some x → rdb x.u ≠ some b ∧ x.v.ownBlock ≠ some b) : Les t8 w (gs ++ [y]) F := by
  refine ⟨fun i x hx => ?_, fun i x hx => ?_⟩
  · rcases get_snoc hx with hx' | ⟨rfl, rfl⟩
    · clear hx
      obtain ⟨a, b, d⟩ := h.own i x hx'
      refine ⟨a, b, fun k hk => ⟨(d k hk).1, fun j z hz => ?_⟩⟩
      rcases get_snoc hz with hz' | ⟨rfl, rfl⟩
      · exact (d k hk).2 j z hz'
      · exact ⟨fun e => (hu k e).2.2 i x hx' hk, fun _ e => ((hf k e).2 i x hx').2 hk⟩
    · refine ⟨hy, hn, fun k hk => ⟨(hf k hk).1, fun j z hz => ?_⟩⟩
      rcases get_snoc hz with hz' | ⟨rfl, rfl⟩
      · exact ⟨((hf k hk).2 j z hz').1, fun _ => ((hf k hk).2 j z hz').2⟩
      · exact ⟨fun e => (hu k e).2.1 hk, fun hj => absurd rfl hj⟩
  · rcases get_snoc hx with hx' | ⟨rfl, rfl⟩
    · exact h.rd i x hx'
    · exact ⟨hr, fun b hb => (hu b hb).1⟩
end Go.Sat
namespace Go.Proofs.Ytnfmeaifbankjaa
open Go Go.RowKit Go.Sat
def lateC (tg tw : Value) : Array Value := #[tg, tw, .slice none 0 0, .slice none 0 0]
/-- A Late in memory: its blocks are all of P's. -/
structure LtI (w : World) (lk : Nat) (T : TypeId) (P : Nat → Prop) (gs : List Le) : Prop where
  ex : ∃ tg tw, Blk w lk T (lateC tg tw) ∧ Own w 22 1 tg gs.length (gs.map Le.v) ∧ Own w 22 1 tw gs.length (gs.map Le.u) ∧ tg.ownBlock ≠ some lk ∧ tw.ownBlock ≠ some lk ∧ (∀ b, tg.ownBlock = some b → tw.ownBlock ≠ some b) ∧
    (∀ b, b = lk ∨ tg.ownBlock = some b ∨ tw.ownBlock = some b → P b) ∧ Les 5 w gs (Fre P lk tg tw)
theorem LtI.kept {S P : Nat → Prop} {w w' : World} {lk : Nat} {T : TypeId} {gs : List Le} (h : LtI w lk T P gs) (c : Chg S w w') (hS : ∀ b, P b → ¬ S b) : LtI w' lk T P gs := by
  obtain ⟨tg, tw, h1, h2, h3, h4, h5, h6, h7, h8⟩ := h.ex
  exact ⟨tg, tw, h1.kept c (hS _ (h7 _ (.inl rfl))), h2.kept c (fun k hk => hS _ (h7 _ (.inr (.inl hk)))), h3.kept c (fun k hk => hS _ (h7 _ (.inr (.inr hk)))), h4, h5, h6, h7, h8.kept c (fun b hb => hS b hb.1)⟩
theorem LtI.wide {P P' : Nat → Prop} {w : World} {lk : Nat} {T : TypeId} {gs : List Le} (h : LtI w lk T P gs) (hP : ∀ b, b < w.heap.size → P b → P' b) : LtI w lk T P' gs := by
  obtain ⟨tg, tw, h1, h2, h3, h4, h5, h6, h7, h8⟩ := h.ex
  refine ⟨tg, tw, h1, h2, h3, h4, h5, h6, fun b hb => ?_, h8.wide fun b hlt hb => ⟨hP b hlt hb.1, hb.2⟩⟩
  refine hP b ?_ (h7 b hb)
  rcases hb with rfl | hb | hb
  · exact h1.lt
  · exact h2.lt b hb
  · exact h3.lt b hb
end Go.Proofs.Ytnfmeaifbankjaa
namespace Go.Proofs.Ytnfmeaifbankjaa
open Go Go.RowKit Go.Sat
set_option maxRecDepth 100000 in
set_option maxHeartbeats 3200000 in
theorem add_any (lk : Nat) (T : TypeId) (P : Nat → Prop) (gs : List Le) (v y : Value) (l : List UInt8) (w : World) (h : LtI w lk T P gs) (hv : Own w 5 1 v l.length (bcells l)) (hy : Rd w y l)
    (hP : ∀ k, v.ownBlock = some k → ¬ P k) (hyP : ∀ k, rdb y = some k → ¬ P k) (hl : l.length ≤ 10000000) (hg : gs.length ≤ 100000) :
    Calls Try.prog 21 #[.pointer (some ⟨lk, 0, none⟩), v, y] w fun e w' => e = .returned (.tuple #[]) ∧ ∃ u, LtI w' lk T (fun b => P b ∨ v.ownBlock = some b ∨ w.heap.size ≤ b) (gs ++ [⟨v, l, u⟩]) ∧ Chg P w w' := by
  obtain ⟨tg, tw, h1, h2, h3, h4, h5, h6, h7, h8⟩ := h.ex
  have c0 : w.cell? ⟨lk, 0, none⟩ = some tg := by rw [h1.cell]; rfl
  have f0 := h1.free 0
  have HB := Lib.hid h1
  have OW1 := h2
  have OW2 := h3
  have n1 := Lib.hid h4
  have n2 := Lib.hid h5
  have n12 := Lib.hid h6
  have HO := Lib.hid h7
  have HE := Lib.hid h8
  have HV := Lib.hid hv
  have HY := Lib.hid hy
  have HP := Lib.hid hP
  have HYP := Lib.hid hyP
  obtain ⟨ya, yc, rfl, _⟩ := hy.form
  obtain ⟨va, vc, rfl, _⟩ := hv.form
  generalize hN : gs.length = N at *
  clear h h1 h2 h3 h4 h5 h6 h7 h8 hv hy hP hyP
  go_enter Try.func21, Try.ntmps21
  go_wp2_with (first
    | ((with_reducible show wpList _ _ _ (⟨some 13, _, _, _, _, _⟩ :: _) _ _); refine wpl_append rfl (.tmp 10) (.tmp 12) 40 rfl tyBB' (OW1.alloc _) (Sl.built1 _ _ _ rfl) rfl rfl (by unfold maxLen; omega) (by omega) ?_; intro ao3 cap3 w3 O3 hgr3 hbl3; refine Shut.out ?_)
    | fail)
  show wpList _ _ _ _ _ _
  have C3 : Chg (fun k => tg.ownBlock = some k) w w3 := ((Chg.refl (fun k => tg.ownBlock = some k) w).alloc _).grown hgr3 (fun k hk => .inr hk)
  have B4 := HB.out.kept C3 (fun e => n1.out e)
  have c4 : w3.cell? ⟨lk, 0, none⟩ = some tg := by rw [B4.cell]; rfl
  have f4 := B4.free 0
  have OW4 := OW2.kept C3 (fun k hk e => n12.out k e hk)
  have B5 : Blk (w3.setCell ⟨lk, 0, none⟩ (.slice ao3 (N + 1) cap3)) lk T (lateC (.slice ao3 (N + 1) cap3) tw) := B4.set 0 _
  have C5 : Chg (fun k => k = lk) w3 (w3.setCell ⟨lk, 0, none⟩ (.slice ao3 (N + 1) cap3)) := Chg.setCell (Chg.refl (fun k => k = lk) w3) (.inr (show (⟨lk, 0, none⟩ : Addr).block = lk from rfl)) _
  have OW5 := OW4.kept C5 (fun k hk e => n2.out (by rw [hk, e]))
  have LB : lk < w.heap.size := HB.out.lt
  have N3 : ∀ k, (Value.slice ao3 (N + 1) cap3).ownBlock = some k → k ≠ lk ∧ tw.ownBlock ≠ some k := by
    intro k hk
    rcases hbl3 with e | e
    · exact ⟨fun e2 => n1.out (by rw [← e, hk, e2]), n12.out k (by rw [← e, hk])⟩
    · rw [hk] at e
      injection e with e
      have hs : w.heap.size ≤ k := by rw [e]; simp
      exact ⟨by omega, fun e2 => by have := OW2.lt k e2; omega⟩
  have M3 : Moved w tg (.slice ao3 (N + 1) cap3) := by
    rcases hbl3 with e | e
    · exact .inl e
    · refine .inr ⟨_, e, ?_⟩
      simp
  have C25 : Chg (fun k => k = lk ∨ tg.ownBlock = some k) w (w3.setCell ⟨lk, 0, none⟩ (.slice ao3 (N + 1) cap3)) := (C3.mono (fun x _ e => .inr e)).trans C5 (fun x _ e => Or.inl e)
  have HC25 := Lib.hid C25
  have O5 := O3.kept C5 (fun k hk e => (N3 k hk).1 e)
  have c5 : (w3.setCell ⟨lk, 0, none⟩ (.slice ao3 (N + 1) cap3)).cell? ⟨lk, 1, none⟩ = some tw := by rw [B5.cell]; rfl
  have Y5 := HY.out.kept C25 (fun k hk e => HYP.out k hk (HO.out k (e.elim .inl fun e => .inr (.inl e))))
  have HY5 := Lib.hid Y5
  have HB5 := Lib.hid B5
  have HO5 := Lib.hid O5
  have HM3 := Lib.hid M3
  have HN3 := Lib.hid N3
  clear C3 C5 C25 B4 B5 O3 O5 OW4 OW1 c0 f0 hgr3 hbl3 M3 N3 Y5
  go_wp2_with fail
  generalize w3.setCell ⟨lk, 0, none⟩ (.slice ao3 (N + 1) cap3) = w5 at *
  refine wp_region_pin (fun o => o.dst == some 22 || o.dst == some 23) [4] [7, 1] (Same (fun _ => False) w5) mixed (by kernel_rfl) (fun _ _ h e => h.ext e) (Same.refl _ _).drew ?_
  simp only [wpSegs, List.take_succ_cons, List.take_zero, List.drop_succ_cons, List.drop_zero]
  go_wp2_with (first
    | ((with_reducible show wpList _ _ _ (⟨some 22, _, _, _, _, _⟩ :: _) _ _); refine wpl_str (o := ⟨some 22, _, _, _, _, _⟩) rfl 22 9 (.tmp 21) rfl Try.underlying22 Try.underlying5 Try.underlying9 (HY5.out.drew) rfl ?_)
    | fail)
  refine SegQ.normal ⟨(Same.refl _ _).drew, ?_⟩
  go_wp2_with (first
    | ((with_reducible show wpList _ _ _ (⟨some 23, _, _, _, _, _⟩ :: _) _ _); refine wpl_bytes rfl 9 22 (.tmp 22) rfl Try.underlying9 Try.underlying22 Try.underlying5 (l := l) rfl (by unfold maxLen; omega) ?_; intro uc w6 R6 C6 S6; refine Shut.out ?_)
    | fail)
  show wpList _ _ _ _ _ _
  change Rd w6 (.slice (some ⟨w5.heap.size, 0, none⟩) l.length uc) l at R6
  change w6.heap.size = w5.heap.size + 1 at S6
  have HS6 := Lib.hid S6
  have C56 : Chg (fun _ => False) w5 w6 := ((Chg.refl (fun _ => False) w5).drew).trans C6 (fun _ _ h => h)
  have O6 := OW5.kept C56 (fun _ _ => id)
  have B6 := HB5.out.kept C56 id
  have c6 : w6.cell? ⟨lk, 1, none⟩ = some tw := by rw [B6.cell]; rfl
  have HB6 := Lib.hid B6
  have HC56 := Lib.hid C56
  have HR6 := Lib.hid R6
  have HO6 := Lib.hid O6
  clear S6 C6 C56 B6 R6 OW5
  go_wp2_with fail
  refine SegQ.normal ⟨fun z o h _ => HC56.out.keep h id, ?_⟩
  go_wp2_with (first
    | ((with_reducible show wpList _ _ _ (⟨some 25, _, _, _, _, _⟩ :: _) _ _); refine wpl_append rfl (.tmp 20) (.tmp 24) 40 rfl tyBB' (HO6.out.alloc _) (Sl.built1 _ _ _ rfl) rfl rfl (by unfold maxLen; omega) (by omega) ?_; intro ao7 cap7 w7 O7 hgr7 hbl7; refine Shut.out ?_)
    | fail)
  show wpList _ _ _ _ _ _
  have C7 : Chg (fun k => tw.ownBlock = some k) w6 w7 := ((Chg.refl (fun k => tw.ownBlock = some k) w6).alloc _).grown hgr7 (fun k hk => .inr hk)
  have B7 := HB6.out.kept C7 (fun e => n2.out e)
  have c7 : w7.cell? ⟨lk, 1, none⟩ = some tw := by rw [B7.cell]; rfl
  have f7 := B7.free 1
  have B8 : Blk (w7.setCell ⟨lk, 1, none⟩ (.slice ao7 (N + 1) cap7)) lk T (lateC (.slice ao3 (N + 1) cap3) (.slice ao7 (N + 1) cap7)) := B7.set 1 _
  have C8 : Chg (fun k => k = lk) w7 (w7.setCell ⟨lk, 1, none⟩ (.slice ao7 (N + 1) cap7)) := Chg.setCell (Chg.refl (fun k => k = lk) w7) (.inr (show (⟨lk, 1, none⟩ : Addr).block = lk from rfl)) _
  have HC7 := Lib.hid C7
  have HC8 := Lib.hid C8
  have HB8 := Lib.hid B8
  have HO7 := Lib.hid O7
  have HBL := Lib.hid hbl7
  clear C7 C8 B7 B8 O7 hgr7 hbl7 c6
  go_wp2_with fail
  refine TQ.normal (by kernel_rfl) ⟨⟨PinAt.cell rfl rfl rfl c5 id (fun X h => by go_simp), trivial⟩, ?_⟩
  go_wp2_with fail
  refine bodyPost_end (results_none rfl _ _ _) rfl ?_
  have hs5 := HC25.out.size
  have hs6 := HS6.out
  have hs56 := HC56.out.size
  have hs7 := HC7.out.size
  have L3 := HO5.out.lt
  have TW : ∀ k, tw.ownBlock = some k → k < w.heap.size := OW2.lt
  have N7 : ∀ k, (Value.slice ao7 (N + 1) cap7).ownBlock = some k → (tw.ownBlock = some k ∨ w6.heap.size ≤ k) := by
    intro k hk
    rcases HBL.out with e | e
    · exact .inl (by rw [← e, hk])
    · rw [hk] at e
      injection e with e
      exact .inr (by rw [e]; simp)
  have M7 : Moved w tw (.slice ao7 (N + 1) cap7) := by
    rcases HBL.out with e | e
    · exact .inl e
    · refine .inr ⟨_, e, ?_⟩
      simp
      omega
  have CB : Chg (fun k => k = lk ∨ tg.ownBlock = some k ∨ tw.ownBlock = some k) w (w7.setCell ⟨lk, 1, none⟩ (.slice ao7 (N + 1) cap7)) :=
    (((HC25.out.mono (fun x _ e => e.elim .inl fun e => .inr (.inl e))).trans HC56.out (fun x _ e => e.elim)).trans HC7.out (fun x _ e => .inr (.inr e))).trans HC8.out (fun x _ e => Or.inl e)
  have hlk : lk < w.heap.size := LB
  have hNe : ∀ b, Fre P lk tg tw b → ¬ (b = lk ∨ tg.ownBlock = some b ∨ tw.ownBlock = some b) := by
    rintro b ⟨e1, e2, e3, e4⟩ (e | e | e)
    · exact e2 e
    · exact e3 e
    · exact e4 e
  have M3 := HM3.out
  have hlt : ∀ b, Fre P lk tg tw b ∧ b < w.heap.size → Fre (fun b => P b ∨ (Value.slice va l.length vc).ownBlock = some b ∨ w.heap.size ≤ b) lk (.slice ao3 (N + 1) cap3) (.slice ao7 (N + 1) cap7) b :=
    fun b hb => ⟨.inl hb.1.1, hb.1.2.1, M3.own hb.2 hb.1.2.2.1, M7.own hb.2 hb.1.2.2.2⟩
  have E2 := ((HE.out.wide fun b h6 h7 => (⟨h7, h6⟩ : Fre P lk tg tw b ∧ b < w.heap.size)).kept CB (fun b hb => hNe b hb.1)).wide fun b _ hb => hlt b hb
  have hvP : ∀ b, (Value.slice va l.length vc).ownBlock = some b → ¬ (b = lk ∨ tg.ownBlock = some b ∨ tw.ownBlock = some b) := fun b hb e => HP.out b hb (HO.out b e)
  have V8 := HV.out.kept CB hvP
  have hUlk : ¬ w5.heap.size = lk := by omega
  have R8 := (HR6.out.kept HC7.out (fun k hk e => by
    have h1 := TW k e
    have h2 : some k = some w5.heap.size := (rdb_own hk).symm.trans rfl
    injection h2 with h2
    omega)).kept HC8.out (fun k hk e => by
    have h2 : some k = some w5.heap.size := (rdb_own hk).symm.trans rfl
    injection h2 with h2
    exact hUlk (by rw [← h2, e]))
  refine ⟨rfl, .slice (some ⟨w5.heap.size, 0, none⟩) l.length uc, ⟨.slice ao3 (N + 1) cap3, .slice ao7 (N + 1) cap7, HB8.out, ?_, ?_, fun e => (HN3.out _ e).1 rfl, ?_, ?_, ?_, ?_⟩, CB.mono fun x _ e => HO.out x e⟩
  · have := ((HO5.out.kept HC56.out (fun _ _ => id)).kept HC7.out (fun k hk e => (HN3.out k hk).2 e)).kept HC8.out (fun k hk e => (HN3.out k hk).1 e)
    simp only [List.map_append, List.map_cons, List.map_nil, List.length_append, List.length_cons, List.length_nil, hN]
    exact this
  · have := HO7.out.kept HC8.out (fun k hk e => by
      rcases N7 k hk with e1 | e1
      · exact n2.out (by rw [e1, e])
      · omega)
    simp only [List.map_append, List.map_cons, List.map_nil, List.length_append, List.length_cons, List.length_nil, hN]
    exact this
  · intro e
    rcases N7 _ e with e1 | e1
    · exact n2.out e1
    · omega
  · intro b hb e
    rcases N7 _ e with e1 | e1
    · exact (HN3.out b hb).2 e1
    · have := L3 b hb; omega
  · rintro b (e | e | e)
    · exact .inl (HO.out b (.inl e))
    · rcases M3.occ e with e | e
      · exact .inl (HO.out b (.inr (.inl e)))
      · exact .inr (.inr e)
    · rcases M7.occ e with e | e
      · exact .inl (HO.out b (.inr (.inr e)))
      · exact .inr (.inr e)
  · refine E2.push ⟨_, l, _⟩ V8 hl R8 (fun b hb => ?_) (fun b hb => ?_)
    · have h2 : some b = some w5.heap.size := (rdb_own hb).symm.trans rfl
      injection h2 with h2
      refine ⟨⟨.inr (.inr (by omega)), fun e => hUlk (by rw [← h2, e]), fun e => by have := L3 b e; omega, fun e => ?_⟩, fun e => by have := HV.out.lt b e; omega, fun j x hx e => by have := (HE.out.own j x hx).1.lt b e; omega⟩
      rcases N7 b e with e1 | e1
      · have := TW b e1; omega
      · omega
    · have hb' : (Value.slice va l.length vc).ownBlock = some b := hb
      have hlt2 := HV.out.lt b hb'
      have hne := hvP b hb'
      refine ⟨⟨.inr (.inl hb'), fun e => hne (.inl e), M3.own hlt2 fun e => hne (.inr (.inl e)), M7.own hlt2 fun e => hne (.inr (.inr e))⟩, fun j x hx => ⟨fun e => HP.out b hb' ((HE.out.rd j x hx).2 b e).1, fun e => HP.out b hb' (((HE.out.own j x hx).2.2 b e).1).1⟩⟩
end Go.Proofs.Ytnfmeaifbankjaa
namespace Go.Proofs.Ytnfmeaifbankjaa
open Go Go.RowKit Go.Sat
set_option maxRecDepth 100000 in
set_option maxHeartbeats 3200000 in
theorem same_any (lk : Nat) (T : TypeId) (P : Nat → Prop) (gs : List Le) (w : World) (h : LtI w lk T P gs) (hg : gs.length ≤ 100000) :
    Calls Try.prog 46 #[.pointer (some ⟨lk, 0, none⟩)] w fun e w' => e = .returned (.bool true) ∧ Chg (fun _ => False) w w' := by
  obtain ⟨tg, tw, h1, h2, h3, h4, h5, h6, h7, h8⟩ := h.ex
  have HB := Lib.hid h1
  have OW1 := Lib.hid h2
  have OW2 := Lib.hid h3
  have HE := Lib.hid h8
  obtain ⟨ga, gc, rfl, _⟩ := h2.form
  generalize hN : gs.length = N at *
  clear h h1 h2 h3 h4 h5 h6 h7 h8
  go_enter Try.func46, Try.ntmps46
  go_wp2_with fail
  go_loopw [3] (fun s3 wr => ∃ i : Nat, i ≤ N ∧ s3 = .int .i64 (i : Int) ∧ Chg (fun _ => False) w wr) (fun s3 _ => N - (intOf s3).toNat)
  case atStart => exact ⟨0, by omega, rfl, Chg.refl _ _⟩
  case round =>
    obtain ⟨i, hi, rfl, C⟩ := hrel
    have B := HB.out.kept C id
    have O1 := OW1.out.kept C (fun _ _ => id)
    have O2 := OW2.out.kept C (fun _ _ => id)
    have E := HE.out.kept C (fun _ _ => id)
    have HC := Lib.hid C
    clear C
    by_cases hlt : i < N
    · have hq : decide ((i : Int) < (N : Int)) = true := by simp; omega
      obtain ⟨x, hx⟩ : ∃ x, gs[i]? = some x := ⟨_, List.getElem?_eq_getElem (by omega)⟩
      obtain ⟨OV, hxl, _⟩ := E.own i x hx
      obtain ⟨RU, _⟩ := E.rd i x hx
      obtain ⟨Gs, gsc, hgs, cg, _⟩ := Own.at1 (i := i) (u := x.v) O1 (by simp [hx])
      obtain ⟨Ts, tsc, hts, ct, _⟩ := Own.at1 (i := i) (u := x.u) O2 (by simp [hx])
      injection hgs with hga _ hgc
      subst hga hgc
      subst hts
      have c0 : wr.cell? ⟨lk, 0, none⟩ = some (.slice (some ⟨Gs, 0, none⟩) N gc) := by rw [B.cell]; rfl
      have c1 : wr.cell? ⟨lk, 1, none⟩ = some (.slice (some ⟨Ts, 0, none⟩) N tsc) := by rw [B.cell]; rfl
      have RV := OV.rd
      obtain ⟨va, vc, hv, _⟩ := RV.form
      obtain ⟨ua, uc, hu, _⟩ := RU.form
      rw [hv] at cg RV
      rw [hu] at ct RU
      have HRV := Lib.hid RV
      have HRU := Lib.hid RU
      clear hv hu RV RU OV B O1 O2 E hx
      generalize x.l = l at *
      go_wp2_with fail
      have k1 : ∀ n, (convert 22 9 (.slice va l.length vc)).run Try.prog (wr.drewN n) = .ok (.string (strB l)) (wr.drewN n) := fun n => run_str Try.underlying22 Try.underlying5 Try.underlying9 (HRV.out.kept ((Chg.refl (fun _ => False) wr).drewN n) (fun _ _ => id))
      have k2 : ∀ n, (convert 22 9 (.slice ua l.length uc)).run Try.prog (wr.drewN n) = .ok (.string (strB l)) (wr.drewN n) := fun n => run_str Try.underlying22 Try.underlying5 Try.underlying9 (HRU.out.kept ((Chg.refl (fun _ => False) wr).drewN n) (fun _ _ => id))
      have hi1 : (i : Int) < (N : Int) := by omega
      go_quiet (fail)
      go_wp2_with fail
      exact ⟨⟨i + 1, by omega, by go_num, HC.out.drewN nq⟩, by simp [intOf]; omega⟩
    · have hq : decide ((i : Int) < (N : Int)) = false := by simp; omega
      obtain rfl : i = N := by omega
      have c0 : wr.cell? ⟨lk, 0, none⟩ = some (.slice ga i gc) := by rw [B.cell]; rfl
      have c2 : wr.cell? ⟨lk, 2, none⟩ = some (.slice none 0 0) := by rw [B.cell]; rfl
      clear B O1 O2 E hlt hi
      go_wp2_with fail
      go_loopw [4] (fun s4 wr2 => s4 = .int .i64 0 ∧ wr2 = wr) (fun _ _ => 0)
      case atStart => exact ⟨rfl, rfl⟩
      case round =>
        obtain ⟨rfl, hwr⟩ := hrel
        have hwr2 := hwr.symm
        clear hwr
        subst hwr2
        go_wp2_with fail
        go_ret
        exact ⟨rfl, HC.out⟩
end Go.Proofs.Ytnfmeaifbankjaa
namespace Go.Proofs.Ytnfmeaifbankjaa
open Go Go.RowKit Go.Sat
theorem BkI.trim {O : Nat → Prop} {w : World} {bk : Nat} {T : TypeId} {xs : List En} {at_ lo hi tn dn : Nat} (h : BkI w bk T O xs at_ lo hi tn dn) : BkI w bk T (fun b => O b ∧ b < w.heap.size) xs at_ lo hi tn dn := by
  obtain ⟨bs, bo, us, h1, h2, h3, h4, h5⟩ := h.ex
  refine ⟨bs, bo, us, h1, h2, h3, fun b hb => ⟨h4 b hb, ?_⟩, h5.wide fun b hlt hb => ⟨⟨hb.1, hlt⟩, hb.2⟩⟩
  rcases hb with rfl | hb | hb
  · exact h3.blk.lt
  · exact h3.own1.lt b hb
  · exact h3.own2.lt b hb
/-- While the answers go into the Book: the i-th is the next. -/
structure Mid (w : World) (lk : Nat) (TL : TypeId) (tg tw : Value) (gs : List Le) (bk : Nat) (T : TypeId) (O : Nat → Prop) (xs : List En) (lo tn dn i : Nat) : Prop where
  blk : Blk w lk TL (lateC tg tw)
  own : Own w 22 1 tg gs.length (gs.map Le.v)
  book : BkI w bk T O xs lo lo xs.length (tn + i) dn
  hlo : lo ≤ xs.length
  cnt : xs.length + 9 * (xs.length - lo) ≤ 10 * (tn + i)
  rest : ∀ (j : Nat) (x : Le), i ≤ j → gs[j]? = some x → Own w 5 1 x.v x.l.length (bcells x.l) ∧ ∀ b, x.v.ownBlock = some b → ¬ O b
  nlk : ¬ O lk
  ntg : ∀ b, tg.ownBlock = some b → ¬ O b
theorem Mid.calm {w w' : World} {lk : Nat} {TL : TypeId} {tg tw : Value} {gs : List Le} {bk : Nat} {T : TypeId} {O : Nat → Prop} {xs : List En} {lo tn dn i : Nat} (h : Mid w lk TL tg tw gs bk T O xs lo tn dn i) (c : Chg (fun _ => False) w w') : Mid w' lk TL tg tw gs bk T O xs lo tn dn i :=
  ⟨h.blk.kept c id, h.own.kept c (fun _ _ => id), h.book.kept c (fun _ _ => id), h.hlo, h.cnt, fun j x hj hx => ⟨(h.rest j x hj hx).1.kept c (fun _ _ => id), (h.rest j x hj hx).2⟩, h.nlk, h.ntg⟩
set_option maxRecDepth 100000 in
set_option maxHeartbeats 3200000 in
theorem settle_any (lk bk : Nat) (TL T : TypeId) (P O : Nat → Prop) (gs : List Le) (xs : List En) (lo tn dn n : Nat) (w : World) (h : LtI w lk TL P gs) (hb : BkI w bk T O xs lo lo xs.length tn dn) (hPO : ∀ b, P b → ¬ O b)
    (hg : gs.length ≤ 100000) (hn : n ≤ 1000) (htn : tn + gs.length ≤ 8000) (hdn : dn ≤ 9000) (hlo : lo ≤ xs.length) (hc : xs.length + 9 * (xs.length - lo) ≤ 10 * tn) :
    Calls Try.prog 25 #[.pointer (some ⟨lk, 0, none⟩), .pointer (some ⟨bk, 0, none⟩), .int .i64 (n : Int)] w fun e w' => e = .returned (.bool true) ∧
      ((gs.length < n ∧ Chg (fun _ => False) w w') ∨ (∃ xs' lo' dn', BkI w' bk T (fun b => O b ∨ (P b ∧ b ≠ lk) ∨ w.heap.size ≤ b) xs' lo' lo' xs'.length (tn + gs.length) dn' ∧ LtI w' lk TL (fun b => b = lk) [] ∧ Chg (fun b => O b ∨ P b) w w' ∧
        dn' ≤ 9000 ∧ lo' ≤ xs'.length ∧ xs'.length + 9 * (xs'.length - lo') ≤ 10 * (tn + gs.length))) := by
  obtain ⟨tg, tw, h1, h2, h3, h4, h5, h6, h7, h8⟩ := h.ex
  have H := Lib.hid h
  have M0 : Mid w lk TL tg tw gs bk T O xs lo tn dn 0 :=
    ⟨h1, h2, hb, hlo, by omega, fun j x _ hx => ⟨(h8.own j x hx).1, fun b hb => hPO b ((h8.own j x hx).2.2 b hb).1.1⟩, hPO lk (h7 lk (.inl rfl)), fun b hb => hPO b (h7 b (.inr (.inl hb)))⟩
  have HM0 := Lib.hid M0
  have hlk : lk < w.heap.size := h1.lt
  have hPv : ∀ (j : Nat) (x : Le), gs[j]? = some x → ∀ b, x.v.ownBlock = some b → P b ∧ b ≠ lk ∧ b < w.heap.size ∧ tg.ownBlock ≠ some b := fun j x hx b hb => ⟨((h8.own j x hx).2.2 b hb).1.1, ((h8.own j x hx).2.2 b hb).1.2.1, (h8.own j x hx).1.lt b hb, ((h8.own j x hx).2.2 b hb).1.2.2.1⟩
  have hDv : ∀ (i : Nat) (x : Le) (j : Nat) (y : Le), gs[i]? = some x → gs[j]? = some y → j ≠ i → ∀ b, x.v.ownBlock = some b → y.v.ownBlock ≠ some b := fun i x j y hx hy hj b hb => (((h8.own i x hx).2.2 b hb).2 j y hy).2 hj
  have HDv := Lib.hid hDv
  have hxl : ∀ (j : Nat) (x : Le), gs[j]? = some x → x.l.length ≤ 10000000 := fun j x hx => (h8.own j x hx).2.1
  have htgl : ∀ b, tg.ownBlock = some b → b < w.heap.size := h2.lt
  have hPlk : P lk := h7 lk (.inl rfl)
  have HPv := Lib.hid hPv
  have Hxl := Lib.hid hxl
  have Htgl := Lib.hid htgl
  have c0 : w.cell? ⟨lk, 0, none⟩ = some tg := by rw [h1.cell]; rfl
  have c2 : w.cell? ⟨lk, 2, none⟩ = some (.slice none 0 0) := by rw [h1.cell]; rfl
  obtain ⟨ga, gc, rfl, _⟩ := h2.form
  clear h h1 h2 h3 h4 h5 h6 h7 h8 hPv hxl M0 htgl hDv
  generalize hN : gs.length = N at *
  go_enter Try.func25, Try.ntmps25
  by_cases hlt : N < n
  · have hq : decide ((N : Int) < (n : Int)) = true := by simp; omega
    go_wp2_with fail
    go_quiet (fail)
    go_wp2_with fail
    go_ret
    exact ⟨rfl, Or.inl ⟨hlt, (Chg.refl _ w).drewN _⟩⟩
  · have hq : decide ((N : Int) < (n : Int)) = false := by simp; omega
    go_wp2_with fail
    go_quiet (fail)
    go_wp2_with fail
    refine (same_any lk TL P gs _ (H.out.kept ((Chg.refl (fun _ => False) w).drewN nq) (fun _ _ => id)) (by omega)).mono ?_
    rintro e w1 ⟨rfl, C1⟩
    have C01 : Chg (fun _ => False) w w1 := ((Chg.refl (fun _ => False) w).drewN nq).trans C1 (fun _ _ h => h)
    have HM1 := Lib.hid (HM0.out.calm C01)
    have HC1 := Lib.hid C01
    clear C1 C01 c0 c2
    go_wp2_with fail
    go_loopw [7] (fun s7 wr => ∃ (i : Nat) (Oi : Nat → Prop) (ys : List En), i ≤ N ∧ s7 = .int .i64 (i : Int) ∧ Mid wr lk TL (.slice ga N gc) tw gs bk T Oi ys lo tn dn i ∧ (∀ b, Oi b → O b ∨ (P b ∧ b ≠ lk) ∨ w.heap.size ≤ b) ∧ Chg (fun b => O b ∨ (P b ∧ b ≠ lk) ∨ w.heap.size ≤ b) w wr) (fun s7 _ => N - (intOf s7).toNat)
    case atStart => exact ⟨0, O, xs, by omega, rfl, HM1.out, fun b hb => .inl hb, HC1.out.mono fun _ _ e => e.elim⟩
    case round =>
      obtain ⟨i, Oi, ys, hi, rfl, M, hOi, C⟩ := hrel
      have HM := Lib.hid M
      have HOi := Lib.hid hOi
      have HC := Lib.hid C
      have c0 : wr.cell? ⟨lk, 0, none⟩ = some (.slice ga N gc) := by rw [M.blk.cell]; rfl
      by_cases hiN : i < N
      · have hqi : decide ((i : Int) < (N : Int)) = true := by simp; omega
        obtain ⟨x, hx⟩ : ∃ x, gs[i]? = some x := ⟨_, List.getElem?_eq_getElem (by omega)⟩
        obtain ⟨Gs, gsc, hgs, cg, _⟩ := Own.at1 (i := i) (u := x.v) M.own (by simp [hx])
        injection hgs with hga e1 hgc
        clear e1
        subst hga hgc
        obtain ⟨OV, hnO⟩ := M.rest i x (Nat.le_refl _) hx
        obtain ⟨va, vc, hv, _⟩ := OV.form
        have hxl := Hxl.out i x hx
        have HX := Lib.hid hx
        have HOV := Lib.hid OV
        have HNO := Lib.hid hnO
        have HV := Lib.hid hv
        rw [hv] at cg
        clear M C hOi hx OV hnO hv
        go_wp2_with fail
        rw [← HV.out]
        refine (bytesI_any bk T Oi ys lo (tn + i) dn x.v x.l wr HM.out.book HOV.out HNO.out (by omega) hxl HM.out.hlo HM.out.cnt).mono ?_
        rintro e w2 ⟨rfl, ys', I2, C2, hl2, hc2⟩
        have hsz := HC.out.size
        have M2 : Mid w2 lk TL (.slice (some ⟨Gs, 0, none⟩) N gc) tw gs bk T (fun b => Oi b ∨ x.v.ownBlock = some b ∨ wr.heap.size ≤ b) ys' lo tn dn (i + 1) := by
          refine ⟨HM.out.blk.kept C2 ?_, HM.out.own.kept C2 ?_, I2, hl2, hc2, fun j y hj hy => ⟨(HM.out.rest j y (by omega) hy).1.kept C2 ?_, ?_⟩, ?_, ?_⟩
          · rintro (e | e)
            · exact HM.out.nlk e
            · exact (HPv.out i x HX.out lk e).2.1 rfl
          · rintro k hk (e | e)
            · exact HM.out.ntg k hk e
            · exact (HPv.out i x HX.out k e).2.2.2 hk
          · rintro k hk (e | e)
            · exact (HM.out.rest j y (by omega) hy).2 k hk e
            · exact HDv.out i x j y HX.out hy (by omega) k e hk
          · rintro k hk (e | e | e)
            · exact (HM.out.rest j y (by omega) hy).2 k hk e
            · exact HDv.out i x j y HX.out hy (by omega) k e hk
            · have := (HPv.out j y hy k hk).2.2.1; omega
          · rintro (e | e | e)
            · exact HM.out.nlk e
            · exact (HPv.out i x HX.out lk e).2.1 rfl
            · omega
          · rintro k hk (e | e | e)
            · exact HM.out.ntg k hk e
            · exact (HPv.out i x HX.out k e).2.2.2 hk
            · have := Htgl.out k hk; omega
        have HM2 := Lib.hid M2
        have CC : Chg (fun b => O b ∨ (P b ∧ b ≠ lk) ∨ w.heap.size ≤ b) w w2 := HC.out.trans C2 fun b _ e => by
          rcases e with e | e
          · exact HOi.out b e
          · have := HPv.out i x HX.out b e; exact .inr (.inl ⟨this.1, this.2.1⟩)
        have HCC := Lib.hid CC
        clear I2 C2 M2 CC c0 cg
        go_wp2_with fail
        exact ⟨⟨i + 1, fun b => Oi b ∨ x.v.ownBlock = some b ∨ wr.heap.size ≤ b, ys', by omega, by go_num, HM2.out, fun b hb => by
          rcases hb with e | e | e
          · exact HOi.out b e
          · have := HPv.out i x HX.out b e; exact .inr (.inl ⟨this.1, this.2.1⟩)
          · exact .inr (.inr (by omega)), HCC.out⟩, by simp [intOf]; omega⟩
      · have hqi : decide ((i : Int) < (N : Int)) = false := by simp; omega
        obtain rfl : i = N := by omega
        have c1 : wr.cell? ⟨lk, 1, none⟩ = some tw := by rw [M.blk.cell]; rfl
        have c2 : wr.cell? ⟨lk, 2, none⟩ = some (.slice none 0 0) := by rw [M.blk.cell]; rfl
        have c3 : wr.cell? ⟨lk, 3, none⟩ = some (.slice none 0 0) := by rw [M.blk.cell]; rfl
        have f0 := M.blk.free 0
        have f1 := M.blk.free 1
        have f2 := M.blk.free 2
        have f3 := M.blk.free 3
        have B4 := (((M.blk.set 0 (.slice none 0 0)).set 1 (.slice none 0 0)).set 2 (.slice none 0 0)).set 3 (.slice none 0 0)
        have HB4 := Lib.hid B4
        clear M C hOi hiN hi B4
        go_wp2_with fail
        go_loopw [8] (fun s8 wr2 => s8 = .int .i64 0 ∧ wr2 = wr) (fun _ _ => 0)
        case atStart => exact ⟨rfl, rfl⟩
        case round =>
          obtain ⟨rfl, hwr⟩ := hrel
          have hwr2 := hwr.symm
          clear hwr
          subst hwr2
          go_wp2_with fail
          have C4 : Chg (fun b => b = lk) wr ((((wr.setCell ⟨lk, 0, none⟩ (.slice none 0 0)).setCell ⟨lk, 1, none⟩ (.slice none 0 0)).setCell ⟨lk, 2, none⟩ (.slice none 0 0)).setCell ⟨lk, 3, none⟩ (.slice none 0 0)) :=
            ((((Chg.refl (fun b => b = lk) wr).setCell (p := ⟨lk, 0, none⟩) (.inr rfl) _).setCell (p := ⟨lk, 1, none⟩) (.inr rfl) _).setCell (p := ⟨lk, 2, none⟩) (.inr rfl) _).setCell (p := ⟨lk, 3, none⟩) (.inr rfl) _
          generalize (((wr.setCell ⟨lk, 0, none⟩ (.slice none 0 0)).setCell ⟨lk, 1, none⟩ (.slice none 0 0)).setCell ⟨lk, 2, none⟩ (.slice none 0 0)).setCell ⟨lk, 3, none⟩ (.slice none 0 0) = w4 at *
          have HC4 := Lib.hid C4
          clear C4 c0 c1 c2 c3 f0 f1 f2 f3
          refine (look_any bk T Oi ys lo (tn + i) dn w4 (HM.out.book.kept HC4.out (fun b hb e => HM.out.nlk (by rw [← e]; exact hb))) (by omega) hdn HM.out.hlo HM.out.cnt).mono ?_
          rintro e w5 ⟨rfl, zs, lo', dn', I5, hd5, C5, hl5, hc5⟩
          have hs1 := HC.out.size
          have hs2 := HC4.out.size
          have hI5 := I5.wide (O' := fun b => O b ∨ (P b ∧ b ≠ lk) ∨ w.heap.size ≤ b) (fun b hb => by
            rcases hb with e | e
            · exact HOi.out b e
            · exact .inr (.inr (by omega)))
          have B5 : Blk w5 lk TL (lateC (.slice none 0 0) (.slice none 0 0)) := Blk.kept HB4.out C5 HM.out.nlk
          have L5 : LtI w5 lk TL (fun b => b = lk) [] :=
            ⟨.slice none 0 0, .slice none 0 0, B5, World.ownsRow_nil _ _ _ _, World.ownsRow_nil _ _ _ _, by simp [Value.ownBlock], by simp [Value.ownBlock], by simp [Value.ownBlock], fun b hb => by
              rcases hb with e | e | e
              · exact e
              · simp [Value.ownBlock] at e
              · simp [Value.ownBlock] at e, ⟨fun i x hx => by simp at hx, fun i x hx => by simp at hx⟩⟩
          have CW : Chg (fun b => O b ∨ P b) w w5 :=
            ((HC.out.mono (T := fun b => O b ∨ P b) (fun x hx e => by
              rcases e with e | e | e
              · exact .inl e
              · exact .inr e.1
              · omega)).trans HC4.out (fun x _ e => by rw [e]; exact .inr hPlk)).trans C5 (fun x hx e => by
              rcases HOi.out x e with e | e | e
              · exact .inl e
              · exact .inr e.1
              · omega)
          have HI5 := Lib.hid hI5
          have HL5 := Lib.hid L5
          have HCW := Lib.hid CW
          have Hl5 := Lib.hid hl5
          have Hc5 := Lib.hid hc5
          clear I5 C5 hI5 B5 L5 CW hl5 hc5
          go_wp2_with fail
          go_ret
          exact ⟨rfl, Or.inr ⟨zs, lo', dn', HI5.out, HL5.out, HCW.out, hd5, Hl5.out, Hc5.out⟩⟩
end Go.Proofs.Ytnfmeaifbankjaa
