import Derived.Test.YtnfmeaifbankjaaDuo
set_option linter.unusedVariables false
namespace Go.Proofs.Ytnfmeaifbankjaa
open Go Go.RowKit Go.Sat

theorem bulk_take (ops : List OpV) (k : Nat) : ((ops.take k).map fun o => o.b.length).sum ≤ bulkOps ops := by
  induction ops generalizing k with
  | nil => simp [bulkOps]
  | cons o ops ih =>
    cases k with
    | zero => simp
    | succ k =>
      have := ih k
      simp only [bulkOps, List.take_succ_cons, List.map_cons, List.sum_cons] at this ⊢
      omega
theorem bulk_step (ops : List OpV) (k : Nat) (h : k < ops.length) : ((ops.take (k + 1)).map fun o => o.b.length).sum = ((ops.take k).map fun o => o.b.length).sum + ops[k].b.length := by
  rw [List.take_succ_eq_append_getElem h, List.map_append, List.sum_append]; simp
/-- The blocks of the statement's own variables. -/
def Own3 (a b c : Nat) (k : Nat) : Prop := k = a ∨ k = b ∨ k = c
theorem RdOps.ok {w w' : World} {o : OpV} (h : o.Ok w) (hc : Chg (fun _ => False) w w') : o.Ok w' := ⟨h.k, h.wh, h.m, h.n, h.rd.kept hc (fun _ _ => id), fun k hk => Nat.lt_of_lt_of_le (h.lt k hk) hc.size⟩

theorem RdOps.form {w : World} {v : Value} {ops : List OpV} (h : RdOps w v ops) : ∃ ao c, v = .slice ao ops.length c := by
  rcases h.2 with ⟨h0, ao, c, rfl⟩ | ⟨b, off, c, rfl, _⟩
  · exact ⟨ao, c, by rw [h0]; rfl⟩
  · exact ⟨_, c, rfl⟩
theorem eq_same (x y : Value) (l : List UInt8) (w : World) (hx : Rd w x l) (hy : Rd w y l) (hl : l.length ≤ 1000000000) :
    Calls Try.prog 9 #[x, y] w fun e w' => e = .returned (.bool true) ∧ Drawn w w' := by
  have h := eq_any x y l l w hx hy hl hl
  rwa [eqB_self] at h
theorem Duo.fix {W w : World} {F F' : Nat → Prop} {T0 T1 : TypeId} {p0 p1 : Nat} {v0 v1 h0 h1 : Value} {l0 l1 : List UInt8} (h : Duo W w F T0 T1 p0 p1 v0 v1 h0 h1 l0 l1)
    (hF : ∀ k, F' k → W.heap.size ≤ k ∧ k < w.heap.size ∧ ¬ FP p0 v0 h0 k ∧ ¬ FP p1 v1 h1 k) : Duo W w F' T0 T1 p0 p1 v0 v1 h0 h1 l0 l1 :=
  ⟨h.a, h.b, h.ap, fun k hk => ⟨(h.na k hk).1, fun hf => (hF k hf).2.2.1 hk⟩, fun k hk => ⟨(h.nb k hk).1, fun hf => (hF k hf).2.2.2 hk⟩, h.ch, fun k hk => ⟨(hF k hk).1, (hF k hk).2.1⟩⟩
/-- What holds in the last region, beside the cells. -/
theorem last_of {c1 c2 c3 c4 D : Prop} (h : c1 ∧ c2 ∧ c3 ∧ c4 ∧ D) : D := h.2.2.2.2
theorem last_more {a0 a1 b0 b1 : Addr} {u0 u1 x0 x1 : Value} {W X X' : World} {F : Nat → Prop} {T0 T1 : TypeId} {p0 p1 : Nat} {v0 v1 h0 h1 : Value} {l0 l1 : List UInt8}
    (h : X.cell? a0 = some u0 ∧ X.cell? a1 = some u1 ∧ X.cell? b0 = some x0 ∧ X.cell? b1 = some x1 ∧ Duo W X F T0 T1 p0 p1 v0 v1 h0 h1 l0 l1) (hc : Chg (fun _ => False) X X') :
    X'.cell? a0 = some u0 ∧ X'.cell? a1 = some u1 ∧ X'.cell? b0 = some x0 ∧ X'.cell? b1 = some x1 ∧ Duo W X' F T0 T1 p0 p1 v0 v1 h0 h1 l0 l1 := by
  obtain ⟨h1, h2, h3, h4, h5⟩ := h
  have k : ∀ {a u}, X.cell? a = some u → X'.cell? a = some u := fun {a u} h => by rw [hc.cell (World.block_lt_of_cell? X _ h) id]; exact h
  exact ⟨k h1, k h2, k h3, k h4, h5.more hc⟩

set_option maxRecDepth 100000 in
set_option maxHeartbeats 1600000 in
theorem codeWrites_walk (i0 i1 : Value) (vo : Value) (ops : List OpV) (W : World) (hops : RdOps W vo ops) (hbulk : bulkOps ops ≤ 2000000) :
    Calls Try.prog 3 #[.agg #[i0, i1, vo]] W fun e w' => e = .returned (.bool true) ∧ Chg (fun _ => False) W w' := by
  go_enter Try.func3, Try.ntmps3
  go_wp2_with fail
  refine (new_any _).mono ?_
  rintro e w1 ⟨T0, rfl, N1, hc1, hs1⟩
  go_wp2_with fail
  refine (new_any _).mono ?_
  rintro e w2 ⟨T1, rfl, N2, hc2, hs2⟩
  go_wp2_with fail
  simp only [World.size_alloc] at N1 hs1
  have hA : W.heap.size + 1 < w2.heap.size := by omega
  have N1' := N1.kept hc2 id (fun _ _ => id)
  have C2 : Chg (fun _ => False) W w2 := (((Chg.refl (fun _ => False) W).alloc _).trans hc1 fun _ _ h => h).trans hc2 fun _ _ h => h
  have B2 := hc2.keep (hc1.keep (heap_alloc_new W _) id) id
  have D2 : Duo W w2 (fun _ => False) T0 T1 (W.heap.size + 1) w1.heap.size (.slice none 0 0) (.slice none 0 0) (.slice none 0 0) (.slice none 0 0) [] [] :=
    ⟨⟨N1', World.ownsRow_nil _ _ _ _, by simp [Value.ownBlock], fun k hk => by simp [Value.ownBlock] at hk⟩, ⟨N2, World.ownsRow_nil _ _ _ _, by simp [Value.ownBlock], fun k hk => by simp [Value.ownBlock] at hk⟩,
      fun k h1 h2 => by simp [FP, Value.ownBlock] at h1 h2; omega, fun k h1 => by simp [FP, Value.ownBlock] at h1; exact ⟨by omega, id⟩, fun k h1 => by simp [FP, Value.ownBlock] at h1; exact ⟨by omega, id⟩, C2, fun k h => h.elim⟩
  clear hc1 hc2 N1 N2 N1'
  go_loopw [5] (fun i wr => ∃ (k : Nat) (v0 v1 h0 h1 : Value) (l0 l1 : List UInt8), k ≤ ops.length ∧ k ≤ 400 ∧ i = .int .i64 k ∧
      Duo W wr (Own3 W.heap.size w2.heap.size (w2.heap.size + 1)) T0 T1 (W.heap.size + 1) w1.heap.size v0 v1 h0 h1 l0 l1 ∧ wr.heap[W.heap.size]? = some (.cells #[i0, i1, vo] 26 (0, 0)) ∧
      wr.heap[w2.heap.size]? = some (.cells #[.pointer (some ⟨W.heap.size + 1, 0, none⟩), .pointer (some ⟨w1.heap.size, 0, none⟩)] 29 (0, 0)) ∧
      wr.heap[w2.heap.size + 1]? = some (.cells #[h0, h1] 23 (0, 0)) ∧ l0.length + l1.length ≤ ((ops.take k).map fun o => o.b.length).sum + 10 * k) (fun i _ => 400 - (intOf i).toNat)
  case atStart =>
    refine ⟨0, .slice none 0 0, .slice none 0 0, .slice none 0 0, .slice none 0 0, [], [], Nat.zero_le _, Nat.zero_le _, rfl, ?_, ?_, ?_, ?_, by simp⟩
    · refine Duo.fix (D2.more (((Chg.refl (fun _ => False) w2).alloc _).alloc _)) fun k hk => ?_
      simp only [Own3, FP, Value.ownBlock, World.size_alloc] at hk ⊢
      simp
      omega
    · rw [Below.heap_alloc _ _ _ (by simp; omega), Below.heap_alloc _ _ _ (by omega)]; exact B2
    · rw [Below.heap_alloc _ _ _ (by simp)]; exact heap_alloc_new w2 _
    · have := heap_alloc_new (w2.alloc (.cells #[.pointer (some ⟨W.heap.size + 1, 0, none⟩), .pointer (some ⟨w1.heap.size, 0, none⟩)] 29 (0, 0))) (.cells #[.slice none 0 0, .slice none 0 0] 23 (0, 0))
      simpa using this
  case round =>
    obtain ⟨k, v0, v1, h0, h1, l0, l1, hk1, hk2, rfl, D, B0, BA, BH, hlen⟩ := hrel
    have cB := box_cell B0 2 vo rfl
    by_cases hlt : k < ops.length ∧ k < 400
    · obtain ⟨hl1, hl2⟩ := hlt
      obtain ⟨hok, hv⟩ := hops
      rcases hv with ⟨h, _⟩ | ⟨b, off, c, rfl, hb, hcell⟩
      · rw [h] at hl1; simp at hl1
      have ho := hok ops[k] (List.getElem_mem _)
      have hcell := hcell k hl1
      have hstep := bulk_step ops k hl1
      have htake := bulk_take ops (k + 1)
      generalize ops[k] = o at *
      obtain ⟨ok, owh, om, on, ox, ob⟩ := o
      obtain ⟨xa, xc, hx, _⟩ := ho.rd.form
      simp only at hx
      subst hx
      have HST := Lib.hid hstep
      clear hstep
      have hbw : b < wr.heap.size := by have := D.ch.size; omega
      have cc : ∀ j u, (OpV.cells ⟨ok, owh, om, on, .slice xa ob.length xc, ob⟩)[j]? = some u → wr.cell? ⟨b, off + k * 5 + j, none⟩ = some u := fun j u hu => by
        rw [D.ch.cell (p := ⟨b, off + k * 5 + j, none⟩) hb id]; exact hcell j u hu
      have e0 : wr.cell? ⟨b, off + k * 5, none⟩ = some (.int .i64 ok) := cc 0 _ rfl
      have e1 : wr.cell? ⟨b, off + k * 5 + 1, none⟩ = some (.int .i64 owh) := cc 1 _ rfl
      have e2 : wr.cell? ⟨b, off + k * 5 + 2, none⟩ = some (.int .i64 om) := cc 2 _ rfl
      have e3 : wr.cell? ⟨b, off + k * 5 + 3, none⟩ = some (.int .u64 on) := cc 3 _ rfl
      have e4 : wr.cell? ⟨b, off + k * 5 + 4, none⟩ = some (.slice xa ob.length xc) := cc 4 _ rfl
      have how := RdOps.ok ho D.ch
      have hA0 := lt_of_block B0
      have hAA := lt_of_block BA
      have hAH := lt_of_block BH
      have hwh := ho.wh
      have hon := ho.n
      have hlt0 := ho.lt
      clear cc hcell ho hok
      go_wp2_with fail
      refine (into_any owh 2 _ (by omega) (by omega) hwh).mono ?_
      rintro e w3 ⟨rfl, rfl⟩
      have h2 : owh % 2 = 0 ∨ owh % 2 = 1 := by omega
      have a0 := box_cell BA 0 (.pointer (some ⟨W.heap.size + 1, 0, none⟩)) rfl
      have a1 := box_cell BA 1 (.pointer (some ⟨w1.heap.size, 0, none⟩)) rfl
      have q0 := box_cell BH 0 h0 rfl
      have q1 := box_cell BH 1 h1 rfl
      rcases h2 with h2 | h2
      · rw [h2]
        have hs := HST.out
        have hob := opB_len ok on ob hon (by omega)
        go_wp2_with fail
        refine wp_region_text mixed (by kernel_rfl) ?_
        have CS := ((Chg.refl (fun _ => False) wr).alloc (.cells #[.int .i64 ok, .int .i64 owh, .int .i64 om, .int .u64 on, .slice xa ob.length xc] 32)).drew
        have DS := D.more CS
        have RS := how.rd.kept CS (fun _ _ => id)
        go_wp2_with (go_at_call 8; refine (writes_any (W.heap.size + 1) v0 h0 (.slice xa ob.length xc) T0 ok owh om on l0 ob _ (DS.a.pre RS (fun k hk hf => by have := (DS.na k hf).1; have := hlt0 k hk; omega)) hon.1 hon.2 (by omega) (by omega)).mono ?_; rintro e w4 hpost; obtain ⟨v', hv', rfl, ho1, hch1, hfp1⟩ := One.post hpost; obtain ⟨ha, hcap, hvq, _⟩ := ho1.held.form; subst hvq)
        have D4 := DS.step ho1 hch1 hfp1
        have B04 := hch1.keep (CS.keep B0 id) (fun hf => (DS.na _ hf).2 (.inl rfl))
        have BA4 := hch1.keep (CS.keep BA id) (fun hf => (DS.na _ hf).2 (.inr (.inl rfl)))
        have BH4 := hch1.keep (CS.keep BH id) (fun hf => (DS.na _ hf).2 (.inr (.inr rfl)))
        have z0 := box_cell BH4 0 h0 rfl
        have f0 := frozen_of_row _ _ 0 _ _ BH4
        refine TQ.normal (by kernel_rfl) ?_
        have D5 := (D4.write (a := ⟨w2.heap.size + 1, 0, none⟩) (.inr (.inr rfl)) (.slice ha (l0 ++ opB ok on ob).length hcap))
        have B05 := (setCell_chg w4 ⟨w2.heap.size + 1, 0, none⟩ (.slice ha (l0 ++ opB ok on ob).length hcap)).keep B04 (by show ¬ W.heap.size = w2.heap.size + 1; omega)
        have BA5 := (setCell_chg w4 ⟨w2.heap.size + 1, 0, none⟩ (.slice ha (l0 ++ opB ok on ob).length hcap)).keep BA4 (by show ¬ w2.heap.size = w2.heap.size + 1; omega)
        have BH5 : (w4.setCell ⟨w2.heap.size + 1, 0, none⟩ (.slice ha (l0 ++ opB ok on ob).length hcap)).heap[w2.heap.size + 1]? = some (.cells #[(.slice ha (l0 ++ opB ok on ob).length hcap), h1] 23 (0, 0)) := by
          rw [setCell_eq_setRow w4 _ 0 _ _ (0, 0) (.slice ha (l0 ++ opB ok on ob).length hcap) BH4]; exact setRow_heap w4 _ _ _ _ (0, 0) BH4
        simp only [List.length_append] at D5 B05 BA5 BH5
        go_wp2_with fail
        go_roundw
        case rel => exact ⟨k + 1, v', v1, _, h1, l0 ++ opB ok on ob, l1, by omega, by omega, by go_num, D5, B05, BA5, BH5, by simp only [List.length_append]; omega⟩
        case measure => simp [intOf]; omega
      · rw [h2]
        have hs := HST.out
        have hob := opB_len ok on ob hon (by omega)
        go_wp2_with fail
        refine wp_region_text mixed (by kernel_rfl) ?_
        have CS := ((Chg.refl (fun _ => False) wr).alloc (.cells #[.int .i64 ok, .int .i64 owh, .int .i64 om, .int .u64 on, .slice xa ob.length xc] 32)).drew
        have DS := D.swap.more CS
        have RS := how.rd.kept CS (fun _ _ => id)
        go_wp2_with (go_at_call 8; refine (writes_any w1.heap.size v1 h1 (.slice xa ob.length xc) T1 ok owh om on l1 ob _ (DS.a.pre RS (fun k hk hf => by have := (DS.na k hf).1; have := hlt0 k hk; omega)) hon.1 hon.2 (by omega) (by omega)).mono ?_; rintro e w4 hpost; obtain ⟨v', hv', rfl, ho1, hch1, hfp1⟩ := One.post hpost; obtain ⟨ha, hcap, hvq, _⟩ := ho1.held.form; subst hvq)
        have D4 := DS.step ho1 hch1 hfp1
        have B04 := hch1.keep (CS.keep B0 id) (fun hf => (DS.na _ hf).2 (.inl rfl))
        have BA4 := hch1.keep (CS.keep BA id) (fun hf => (DS.na _ hf).2 (.inr (.inl rfl)))
        have BH4 := hch1.keep (CS.keep BH id) (fun hf => (DS.na _ hf).2 (.inr (.inr rfl)))
        have z1 := box_cell BH4 1 h1 rfl
        have f1 := frozen_of_row _ _ 1 _ _ BH4
        refine TQ.normal (by kernel_rfl) ?_
        have D5 := (D4.write (a := ⟨w2.heap.size + 1, 1, none⟩) (.inr (.inr rfl)) (.slice ha (l1 ++ opB ok on ob).length hcap)).swap
        have B05 := (setCell_chg w4 ⟨w2.heap.size + 1, 1, none⟩ (.slice ha (l1 ++ opB ok on ob).length hcap)).keep B04 (by show ¬ W.heap.size = w2.heap.size + 1; omega)
        have BA5 := (setCell_chg w4 ⟨w2.heap.size + 1, 1, none⟩ (.slice ha (l1 ++ opB ok on ob).length hcap)).keep BA4 (by show ¬ w2.heap.size = w2.heap.size + 1; omega)
        have BH5 : (w4.setCell ⟨w2.heap.size + 1, 1, none⟩ (.slice ha (l1 ++ opB ok on ob).length hcap)).heap[w2.heap.size + 1]? = some (.cells #[h0, (.slice ha (l1 ++ opB ok on ob).length hcap)] 23 (0, 0)) := by
          rw [setCell_eq_setRow w4 _ 1 _ _ (0, 0) (.slice ha (l1 ++ opB ok on ob).length hcap) BH4]; exact setRow_heap w4 _ _ _ _ (0, 0) BH4
        simp only [List.length_append] at D5 B05 BA5 BH5
        go_wp2_with fail
        go_roundw
        case rel => exact ⟨k + 1, v0, v', h0, _, l0, l1 ++ opB ok on ob, by omega, by omega, by go_num, D5, B05, BA5, BH5, by simp only [List.length_append]; omega⟩
        case measure => simp [intOf]; omega
    · obtain ⟨va, vc, rfl⟩ := hops.form
      have a0 := box_cell BA 0 (.pointer (some ⟨W.heap.size + 1, 0, none⟩)) rfl
      have a1 := box_cell BA 1 (.pointer (some ⟨w1.heap.size, 0, none⟩)) rfl
      have q0 := box_cell BH 0 h0 rfl
      have q1 := box_cell BH 1 h1 rfl
      go_wp2_with fail
      all_goals
        obtain ⟨x0, y0, hx0, _⟩ := D.a.held.form
        obtain ⟨x1, y1, hx1, _⟩ := D.b.held.form
        subst hx0 hx1
        have hq := bulk_take ops k
        have hz := And.intro a0 (And.intro a1 (And.intro q0 (And.intro q1 D)))
        clear a0 a1 q0 q1 D B0 BA BH cB
        go_region_held3 (fun X => X.cell? ⟨w2.heap.size, 0, none⟩ = some (.pointer (some ⟨W.heap.size + 1, 0, none⟩)) ∧ X.cell? ⟨w2.heap.size, 1, none⟩ = some (.pointer (some ⟨w1.heap.size, 0, none⟩)) ∧
            X.cell? ⟨w2.heap.size + 1, 0, none⟩ = some (.slice x0 l0.length y0) ∧ X.cell? ⟨w2.heap.size + 1, 1, none⟩ = some (.slice x1 l1.length y1) ∧
            Duo W X (Own3 W.heap.size w2.heap.size (w2.heap.size + 1)) T0 T1 (W.heap.size + 1) w1.heap.size v0 v1 (.slice x0 l0.length y0) (.slice x1 l1.length y1) l0 l1)
          (first
            | exact last_more hz ((Chg.refl _ _).drew)
            | exact last_more (by assumption) (by assumption)
            | exact last_more (by assumption) (Drawn.chg (by assumption) _)
            | assumption)
          (first
            | (go_at_call 10; refine (out_any (W.heap.size + 1) v0 T0 l0 _ (last_of (D := Duo W _ (Own3 W.heap.size w2.heap.size (w2.heap.size + 1)) T0 T1 (W.heap.size + 1) w1.heap.size v0 v1 (.slice x0 l0.length y0) (.slice x1 l1.length y1) l0 l1) (by assumption)).a.wr (by omega)).mono ?_; rintro e w7 ⟨rfl, hown7, hchg7, _⟩)
            | (go_at_call 10; refine (out_any w1.heap.size v1 T1 l1 _ (last_of (D := Duo W _ (Own3 W.heap.size w2.heap.size (w2.heap.size + 1)) T0 T1 (W.heap.size + 1) w1.heap.size v0 v1 (.slice x0 l0.length y0) (.slice x1 l1.length y1) l0 l1) (by assumption)).b.wr (by omega)).mono ?_; rintro e w8 ⟨rfl, hown8, hchg8, _⟩)
            | (go_at_call 9; refine (eq_same _ _ l0 _ (Own.rd hown7) (last_of (D := Duo W _ (Own3 W.heap.size w2.heap.size (w2.heap.size + 1)) T0 T1 (W.heap.size + 1) w1.heap.size v0 v1 (.slice x0 l0.length y0) (.slice x1 l1.length y1) l0 l1) (by assumption)).a.held.rd (by omega)).mono ?_; rintro e w9 ⟨rfl, hdrawn9⟩)
            | (go_at_call 9; refine (eq_same _ _ l1 _ (Own.rd hown8) (last_of (D := Duo W _ (Own3 W.heap.size w2.heap.size (w2.heap.size + 1)) T0 T1 (W.heap.size + 1) w1.heap.size v0 v1 (.slice x0 l0.length y0) (.slice x1 l1.length y1) l0 l1) (by assumption)).b.held.rd (by omega)).mono ?_; rintro e w10 ⟨rfl, hdrawn10⟩)
            | (go_at_call 11; refine (wlen_any (W.heap.size + 1) v0 T0 l0 _ (last_of (D := Duo W _ (Own3 W.heap.size w2.heap.size (w2.heap.size + 1)) T0 T1 (W.heap.size + 1) w1.heap.size v0 v1 (.slice x0 l0.length y0) (.slice x1 l1.length y1) l0 l1) (by assumption)).a.wr).mono ?_; rintro e w11 ⟨rfl, rfl⟩))
        all_goals go_wp2_with fail
        all_goals go_ret
        all_goals exact ⟨rfl, (last_of (by assumption : _ ∧ _ ∧ _ ∧ _ ∧ Duo W _ _ _ _ _ _ _ _ _ _ _ _)).ch⟩
end Go.Proofs.Ytnfmeaifbankjaa
