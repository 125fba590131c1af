import Derived.Test.YtafgeppdchnceaaDoorRKeyed
set_option linter.unusedVariables false
namespace Go.Proofs.YtafgeppdchnceaaDoor
open Go Go.RowKit Go.Sat
theorem xorB_length (c : UInt8) (l : List UInt8) : (xorB c l).length = l.length := by simp [xorB]
theorem xorB_xorB (c : UInt8) (l : List UInt8) : xorB c (xorB c l) = l := by
  unfold xorB
  rw [List.map_map]
  refine (List.map_congr_left fun b _ => ?_).trans (List.map_id l)
  simp [UInt8.xor_assoc]
set_option maxRecDepth 100000 in
/-- The bytes are xored where they lie. -/
theorem flip_own (g cap : Nat) (l : List UInt8) (w : World) (hx : Own w 5 1 (.slice (some ⟨g, 0, none⟩) l.length cap) l.length (bcells l)) (hl : l.length ≤ 140737488351232) :
    Calls Tryd.prog 18 #[.slice (some ⟨g, 0, none⟩) l.length cap] w fun e w' => e = .returned (.tuple #[]) ∧ Own w' 5 1 (.slice (some ⟨g, 0, none⟩) l.length cap) l.length (bcells (xorB 85 l)) ∧ Chg (fun k => k = g) w w' := by
  have hx2 : Own w 5 1 (.slice (some ⟨g, 0, none⟩) l.length cap) l.length (bcells (xorB 85 (l.take 0) ++ l.drop 0)) := by simpa [xorB] using hx
  have hlt := hx.lt g rfl
  go_enter Tryd.func18, Tryd.ntmps18
  go_wp2_with fail
  go_loopw [2] (fun i wr => ∃ k : Nat, k ≤ l.length ∧ i = .int .i64 k ∧ Own wr 5 1 (.slice (some ⟨g, 0, none⟩) l.length cap) l.length (bcells (xorB 85 (l.take k) ++ l.drop k)) ∧ Chg (fun k => k = g) w wr) (fun i _ => l.length - (intOf i).toNat)
  case atStart => exact ⟨0, Nat.zero_le _, rfl, hx2, Chg.refl _ _⟩
  case round =>
    obtain ⟨k, hk, rfl, hL, hC⟩ := hrel
    by_cases hlt : k < l.length
    · obtain ⟨O2, f2, c2⟩ := hL.store (i := k) (by omega) (.int .u8 ((l[k] ^^^ 85).toNat : Int))
      have c0 : wr.cell? ⟨g, k, none⟩ = some (.int .u8 (l[k].toNat : Int)) := by
        have e : (xorB 85 (l.take k) ++ l.drop k)[k]? = some l[k] := by
          have hx : (xorB 85 (l.take k)).length = k := by simp [xorB]; omega
          rw [List.getElem?_append_right (by omega), List.getElem?_drop, hx, show k + (k - k) = k from by omega, List.getElem?_eq_getElem hlt]
        rw [c2, bcells_get, e]; rfl
      have hxr : bits BinOp.xor IntKind.u8 (l[k].toNat : Int) 85 = ((l[k] ^^^ 85).toNat : Int) := xor_u8 l[k] 85
      have HXR := Lib.hid hxr
      have HS : Hid ((bcells (xorB 85 (l.take k) ++ l.drop k)).set k (.int .u8 ((l[k] ^^^ 85).toNat : Int)) = bcells (xorB 85 (l.take (k + 1)) ++ l.drop (k + 1))) := by
        refine Lib.hid ?_
        rw [List.take_succ_eq_append_getElem hlt, List.drop_eq_getElem_cons hlt]
        simp only [xorB, bcells, List.map_append, List.map_cons, List.map_nil, List.append_assoc, List.cons_append, List.nil_append]
        rw [List.set_append_right _ _ (by simp; omega)]
        simp [Nat.min_eq_left (Nat.le_of_lt hlt)]
      have HO := Lib.hid O2
      generalize l[k] = b at *
      clear c2 O2 hL hx2 hx hxr
      go_wp2_with fail
      rw [HXR.out]
      refine ⟨⟨k + 1, by omega, by go_num, ?_, hC.setCell (.inr rfl) _⟩, by simp [intOf]; omega⟩
      have e := HO.out
      rw [HS.out] at e
      exact e
    · obtain rfl : k = l.length := by omega
      have h1 : Own wr 5 1 (.slice (some ⟨g, 0, none⟩) l.length cap) l.length (bcells (xorB 85 l)) := by simpa using hL
      have HL := Lib.hid h1
      clear h1 hL hx2 hx
      go_wp2_with fail
      go_end0
      exact ⟨rfl, HL.out, hC⟩
set_option maxRecDepth 100000 in
theorem flipped_any (x : Value) (l : List UInt8) (w : World) (hx : Rd w x l) (hl : l.length ≤ 140737488351232) :
    Calls Tryd.prog 20 #[x] w (fun e w' => ∃ v, e = .returned v ∧ Rd w' v (xorB 85 l) ∧ Chg (fun _ => False) w w') := by
  obtain ⟨ao, c, rfl, _⟩ := hx.form
  go_enter Tryd.func20, Tryd.ntmps20
  go_wp2_with fail
  ((with_reducible refine (copy_any _ l w hx hl).mono ?_); rintro e w1 ⟨rfl, O1, C1, hz1⟩)
  generalize hg : w.heap.size = g at *
  have HG := Lib.hid hg
  clear hg
  go_wp2_with fail
  ((with_reducible refine (flip_own g l.length l w1 O1 hl).mono ?_); rintro e w2 ⟨rfl, O2, C2⟩)
  have CC : Chg (fun _ => False) w w2 := C1.trans C2 (fun q hq h => by have := HG.out; have h' : q = g := h; omega)
  have R2 : Rd w2 (.slice (some ⟨g, 0, none⟩) l.length l.length) (xorB 85 l) := Own.rd (e := 5) (O2.cast (xorB_length 85 l).symm rfl)
  clear O1 C1 O2 C2
  go_wp2_with fail
  go_ret
  exact ⟨_, rfl, R2, CC⟩
theorem Lent.rdN {w : World} {g cap n : Nat} {l : List UInt8} (h : Lent w g cap l) (hn : l.length = n) : Rd w (.slice (some ⟨g, 0, none⟩) n cap) l := by subst hn; exact h.rd
theorem Lent.kept {S : Nat → Prop} {w w' : World} {g cap : Nat} {l : List UInt8} (h : Lent w g cap l) (hc : Chg S w w') (hn : ¬ S g) : Lent w' g cap l := ⟨h.own.kept hc (fun k hk => by have e : g = k := Option.some.inj hk; rw [← e]; exact hn)⟩
theorem flip_n (g cap n : Nat) (l : List UInt8) (w : World) (hx : Lent w g cap l) (hn : l.length = n) (hl : n ≤ 140737488351232) :
    Calls Tryd.prog 18 #[.slice (some ⟨g, 0, none⟩) n cap] w fun e w' => e = .returned (.tuple #[]) ∧ Lent w' g cap (xorB 85 l) ∧ Chg (fun k => k = g) w w' := by
  subst hn; exact flip_any g cap l w hx hl
/-- What stands at a place of DigestExact. -/
structure Ex (W w : World) (box : Array Value) (gd cd gk ck : Nat) (d k : List UInt8) (ids : List (Nat × List UInt8)) : Prop where
  L : Laid w
  R : RLaid w
  ld : Lent w gd cd d
  lk : Lent w gk ck k
  bx : Blk w W.heap.size 25 box
  chg : Chg (fun _ => False) W w
  ids : ∀ p ∈ ids, Blk w p.1 34 (bcells p.2).toArray ∧ p.1 ≠ gd ∧ p.1 ≠ gk
  dk : gd ≠ gk
  gd : W.heap.size < gd
  gk : W.heap.size < gk
  lo : 3 < W.heap.size
namespace Ex
variable {W w w' : World} {box : Array Value} {gd cd gk ck : Nat} {d k : List UInt8} {ids : List (Nat × List UInt8)}
theorem kept (h : Ex W w box gd cd gk ck d k ids) (c : Chg (fun _ => False) w w') : Ex W w' box gd cd gk ck d k ids :=
  ⟨h.L.kept c id id, h.R.kept c id id, h.ld.kept c id, h.lk.kept c id, h.bx.kept c id, h.chg.trans c (fun _ _ h => h), fun p hp => ⟨(h.ids p hp).1.kept c id, (h.ids p hp).2⟩, h.dk, h.gd, h.gk, h.lo⟩
theorem flipD (h : Ex W w box gd cd gk ck d k ids) {d' : List UInt8} (l : Lent w' gd cd d') (c : Chg (fun q => q = gd) w w') : Ex W w' box gd cd gk ck d' k ids := by
  have h1 := h.gd; have h2 := h.lo
  exact ⟨h.L.kept c (by omega) (by omega), h.R.kept c (by omega) (by omega), l, h.lk.kept c (fun e => h.dk e.symm), h.bx.kept c (by omega), h.chg.trans c (fun q hq e => by have e' : q = gd := e; omega), fun p hp => ⟨(h.ids p hp).1.kept c (h.ids p hp).2.1, (h.ids p hp).2⟩, h.dk, h.gd, h.gk, h.lo⟩
theorem flipK (h : Ex W w box gd cd gk ck d k ids) {k' : List UInt8} (l : Lent w' gk ck k') (c : Chg (fun q => q = gk) w w') : Ex W w' box gd cd gk ck d k' ids := by
  have h1 := h.gk; have h2 := h.lo
  exact ⟨h.L.kept c (by omega) (by omega), h.R.kept c (by omega) (by omega), h.ld.kept c h.dk, l, h.bx.kept c (by omega), h.chg.trans c (fun q hq e => by have e' : q = gk := e; omega), fun p hp => ⟨(h.ids p hp).1.kept c (h.ids p hp).2.2, (h.ids p hp).2⟩, h.dk, h.gd, h.gk, h.lo⟩
theorem put (h : Ex W w box gd cd gk ck d k ids) {w2 : World} {l : List UInt8} (c1 : Chg (fun _ => False) w w2) (c2 : Chg (fun q => q = w.heap.size) w2 w') (b : Blk w' w.heap.size 34 (bcells l).toArray) : Ex W w' box gd cd gk ck d k ((w.heap.size, l) :: ids) := by
  have h1 := h.ld.own.lt gd rfl
  have h2 := h.lk.own.lt gk rfl
  have h3 := h.bx.lt
  have h4 := h.lo
  have c : Chg (fun q => q = w.heap.size) w w' := (c1.mono (fun _ _ h => h.elim)).trans c2 (fun _ _ h => h)
  refine ⟨h.L.kept c (by omega) (by omega), h.R.kept c (by omega) (by omega), h.ld.kept c (by omega), h.lk.kept c (by omega), h.bx.kept c (by omega), h.chg.trans c (fun q hq e => by have e' : q = w.heap.size := e; have := h.chg.size; omega), fun p hp => ?_, h.dk, h.gd, h.gk, h.lo⟩
  rcases List.mem_cons.1 hp with rfl | hp
  · exact ⟨b, by show w.heap.size ≠ gd; omega, by show w.heap.size ≠ gk; omega⟩
  · have hlt := (h.ids p hp).1.lt
    exact ⟨(h.ids p hp).1.kept c (by omega), (h.ids p hp).2⟩
end Ex
theorem _root_.Go.Sat.PinAt.row {P : Program} {ops : Array Oper} {D : Nat → Prop} {w0 : World} {z : Nat} {a : Act} {o : Oper} {t : TypeId} {x : Operand} {g : Nat} {T : TypeId} {cs : Array Value} {n : Nat} {e : TypeId} (ho : ops[z]? = some o) (hop : o.op = .load t x) (hx : a.eval x = .pointer (some ⟨g, 0, none⟩))
    (hb : Blk w0 g T cs) (hD : ¬ D g) (hu : P.underlying t = some (.array n e)) (hi : (P.info? t).map (·.size) = some cs.size) : PinAt P ops (Same D w0) z a := by
  intro o' ho' _
  obtain rfl : o = o' := by rw [ho] at ho'; cases ho'; rfl
  refine ⟨.agg cs, fun X hX => ?_⟩
  unfold execOp
  rw [hop]
  simp only [hx, Instr.loadAt, Instr.sureAddr, Sem.run_bind, Sem.run_pure, Result.andThen_ok, run_loadVar_row X g T t cs (0, 0) _ (hX g _ hb hD) hu rfl hi]
theorem dg_arr (x : Value) (l : List UInt8) (A : List UInt8) (hA : dg l = A) (w : World) (hL : Laid w) (hx : Rd w x l) (hl : l.length ≤ 4000000000000000000) :
    Calls Tryd.prog 16 #[x] w fun e w' => e = .returned (.agg (bcells A).toArray) ∧ Chg (fun _ => False) w w' := by subst hA; exact sum_arr x l w hL hx hl
theorem kdg_arr (x y : Value) (key b A : List UInt8) (hA : kdg key b = A) (w : World) (hL : Laid w) (hx : Rd w x key) (hxb : Rd w y b) (hk : key.length ≤ 140737488351232) (hbl : b.length ≤ 140737488351232) :
    Calls Tryd.prog 17 #[x, y] w fun e w' => e = .returned (.agg (bcells A).toArray) ∧ Chg (fun _ => False) w w' := by subst hA; exact keyed_any x y key b w hL hx hxb hk hbl
theorem rdg_arr (x : Value) (l : List UInt8) (A : List UInt8) (hA : dg l = A) (w : World) (hL : RLaid w) (hx : Rd w x l) (hl : l.length ≤ 10000000) :
    Calls Tryd.prog 19 #[x] w fun e w' => e = .returned (.agg (bcells A).toArray) ∧ Chg (fun _ => False) w w' := by subst hA; exact rsum_any x l w hL hx hl
theorem rkdg_arr (x y : Value) (key b A : List UInt8) (hA : kdg key b = A) (w : World) (hL : RLaid w) (hx : Rd w x key) (hxb : Rd w y b) (hk : key.length ≤ 10000000) (hbl : b.length ≤ 9000000) :
    Calls Tryd.prog 21 #[x, y] w fun e w' => e = .returned (.agg (bcells A).toArray) ∧ Chg (fun _ => False) w w' := by subst hA; exact rkeyed_any x y key b w hL hx hxb hk hbl
theorem kdg_length (k d : List UInt8) : (kdg k d).length = 32 := dg_length _
theorem eql_same (l : List UInt8) (hl : l.length = 32) (w : World) : (Op.equalIn 10000 34 (.agg (bcells l).toArray) (.agg (bcells l).toArray)).run Tryd.prog w = .ok true w := by
  rw [eql_id hl hl]; simp
theorem hex_arr (l : List UInt8) (w : World) (hl : l.length = 32) :
    Calls Tryd.prog 22 #[.agg (bcells l).toArray] w fun e w' => e = .returned (.string (strB (hexB l))) ∧ Chg (fun _ => False) w w' := hex_any l w hl
end Go.Proofs.YtafgeppdchnceaaDoor
