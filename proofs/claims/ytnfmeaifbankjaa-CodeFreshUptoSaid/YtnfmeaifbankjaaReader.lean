import Derived.Test.YtnfmeaifbankjaaRefs0
import Derived.Test.YtnfmeaifbankjaaRead
import Derived.Test.YtnfmeaifbankjaaArr
set_option linter.unusedVariables false
namespace Go.Sat
open Go Go.RowKit

/-- A part of a slice of bytes that reads. -/
theorem wpl_part {P : Program} {ops : Array Oper} {rest : List Oper} {o : Oper} {a : Act} {Q : Exit → Act → World → Prop} {w : World} (hw : Region.wanted o (yielded ops a.tmps) = true) (t : TypeId) (x lo hi : Operand)
    (ho : o.op = .slice t x (some lo) (some hi) none) {e : TypeId} (ht : P.underlying t = some (.slice e)) (hsz : ∀ w, (sizeOf e).run P w = .ok 1 w) {ao : Option Addr} {n c : Nat} {l : List UInt8} (hx : a.eval x = .slice ao n c) (hr : Rd w (.slice ao n c) l)
    {i j : Int} (l0 h0 : Nat) (hlo : a.eval lo = .int .i64 i) (hhi : a.eval hi = .int .i64 j) (hi0 : i = l0) (hj0 : j = h0) (h1 : l0 ≤ h0) (h2 : h0 ≤ l.length)
    (h : ∀ y, Rd w y ((l.drop l0).take (h0 - l0)) → (∀ k, rdb y = some k → rdb (.slice ao n c) = some k) → wpList P ops Q rest (a.put o.dst y) w) : wpList P ops Q (o :: rest) a w := by
  subst hi0 hj0
  have hp := hr.part h1 h2
  have hc : l.length ≤ c ∧ n = l.length := by
    obtain ⟨ao', c', e1, e2⟩ := hr.form
    injection e1 with e3 e4 e5
    omega
  have he : P.elem t = e := by simp [Program.elem, ht]
  have hrun : (Instr.slice t (.slice ao n c) (some (.int .i64 (l0 : Int))) (some (.int .i64 (h0 : Int))) none).run P w = .ok (.slice (ao.map fun a => if c = l0 then a else a.add l0) (h0 - l0) (c - l0)) w := by
    rw [run_slice_lh w t ao n c (by rw [he]; exact ht) .i64 .i64 l0 h0 (by omega) (by omega) (by omega), he, hsz]
    simp [sliced]
    split
    · cases ao <;> rfl
    · rfl
  have hrun2 : (Instr.sliceAt t (.slice ao n c) (some (.int .i64 (l0 : Int))) (some (.int .i64 (h0 : Int))) none).run P w = .ok (.slice (ao.map fun a => if c = l0 then a else a.add l0) (h0 - l0) (c - l0)) w := by
    rw [run_sliceAt_slice _ _ _ _ _ _ (by rw [he]; exact ht)]; exact hrun
  refine BigFrame.wpList_want hw fun K hK => ?_
  unfold Oper.wp execOp
  have := hK _ _ (h _ hp fun k hk => ?_)
  · simpa [ho, hlo, hhi, hx, hrun2, Oper.upon] using this
  · cases ao with
    | none => simp [rdb] at hk
    | some a =>
      simp only [rdb, Option.map_some] at hk ⊢
      split at hk
      · cases hk
      · rw [if_neg (by omega)]
        rw [← hk]
        split
        · rfl
        · unfold Addr.add; split <;> rfl
end Go.Sat
namespace Go.Proofs.Ytnfmeaifbankjaa
open Go Go.RowKit Go.Sat

/-- A Reader (or an Eye with the fault's own number f): its three fields. -/
structure IsR (w : World) (pb : Nat) (v : Value) (T : TypeId) (f : Nat → Int) (s : RS) : Prop where
  blk : Blk w pb T #[v, .int .i64 s.p, .int .i64 (f s.met)]
  rd : Rd w v s.l
  ne : ∀ k, rdb v = some k → k ≠ pb
  ok : s.Ok
  len : s.l.length ≤ 1000000000
def met (m : Nat) : Int := m
theorem IsR.kept {S : Nat → Prop} {w w' : World} {pb : Nat} {v : Value} {T : TypeId} {f : Nat → Int} {s : RS} (h : IsR w pb v T f s) (hc : Chg S w w') (h1 : ¬ S pb) (h2 : ∀ k, rdb v = some k → ¬ S k) : IsR w' pb v T f s :=
  ⟨h.blk.kept hc h1, h.rd.kept hc h2, h.ne, h.ok, h.len⟩
theorem IsR.calm {w w' : World} {pb : Nat} {v : Value} {T : TypeId} {f : Nat → Int} {s : RS} (h : IsR w pb v T f s) (hc : Chg (fun _ => False) w w') : IsR w' pb v T f s := h.kept hc id fun _ _ => id
theorem IsR.put {w w' : World} {pb : Nat} {v : Value} {T : TypeId} {f : Nat → Int} {s s' : RS} (h : IsR w pb v T f s) (hl : s'.l = s.l) (hok : s'.Ok) (hb : Blk w' pb T #[v, .int .i64 s'.p, .int .i64 (f s'.met)]) (hc : Chg (fun k => k = pb) w w') : IsR w' pb v T f s' :=
  ⟨hb, by rw [hl]; exact h.rd.kept hc h.ne, h.ne, hok, by rw [hl]; exact h.len⟩
/-- What the walk wants of it. -/
theorem IsR.facts {w : World} {pb : Nat} {v : Value} {T : TypeId} {f : Nat → Int} {s : RS} (h : IsR w pb v T f s) :
    w.cell? ⟨pb, 0, none⟩ = some v ∧ w.cell? ⟨pb, 1, none⟩ = some (.int .i64 s.p) ∧ w.cell? ⟨pb, 2, none⟩ = some (.int .i64 (f s.met)) ∧ w.frozen? ⟨pb, 1, none⟩ = false ∧ w.frozen? ⟨pb, 2, none⟩ = false :=
  ⟨h.blk.cell 0, h.blk.cell 1, h.blk.cell 2, h.blk.free 1, h.blk.free 2⟩
/-- A call of it: the state turns from s to s', nothing else is written. -/
def RStep (w : World) (pb : Nat) (v : Value) (T : TypeId) (f : Nat → Int) (s' : RS) (w' : World) : Prop := IsR w' pb v T f s' ∧ Chg (fun k => k = pb) w w'

set_option maxRecDepth 100000 in
theorem rstop_any (pb : Nat) (v x y : Value) (T : TypeId) (a m : Int) (w : World) (hb : Blk w pb T #[v, x, y]) :
    Calls Try.prog 42 #[.pointer (some ⟨pb, 0, none⟩), .int .i64 a, .int .i64 m] w fun e w' => e = .returned (.tuple #[]) ∧ Blk w' pb T #[v, .int .i64 a, .int .i64 m] ∧ Chg (fun k => k = pb) w w' := by
  have c1 : w.cell? ⟨pb, 1, none⟩ = some x := hb.cell 1
  have c2 : w.cell? ⟨pb, 2, none⟩ = some y := hb.cell 2
  have f1 := hb.free 1
  have f2 := hb.free 2
  go_enter Try.func42, Try.ntmps42
  go_wp2_with fail
  go_end0
  exact ⟨rfl, (hb.set 1 _).set 2 _, ((Chg.refl (fun k => k = pb) w).setCell (.inr rfl) _).setCell (.inr rfl) _⟩

set_option maxRecDepth 100000 in
theorem rleft_any (pb : Nat) (v : Value) (T : TypeId) (f : Nat → Int) (s : RS) (w : World) (h : IsR w pb v T f s) :
    Calls Try.prog 19 #[.pointer (some ⟨pb, 0, none⟩)] w fun e w' => e = .returned (.int .i64 s.left) ∧ Drawn w w' := by
  obtain ⟨c0, c1, -, -, -⟩ := h.facts
  obtain ⟨ao, c, rfl, hc⟩ := h.rd.form
  have hle := h.ok.le
  have hlen := h.len
  have hleft := RS.left_eq h.ok
  clear h
  have HL := Lib.hid hleft
  clear hleft
  go_enter Try.func19, Try.ntmps19
  go_wp2_with fail
  refine wp_region_text mixed (by kernel_rfl) ?_
  go_wp2_with fail
  refine TQ.normal (by kernel_rfl) ?_
  go_wp2_with fail
  go_ret
  exact ⟨by rw [HL.out]; rfl, (Drawn.refl w).drew⟩

theorem sizeU8 : ∀ w, (sizeOf 5).run Try.prog w = .ok 1 w := Try.sizeOf5
/-- A call that answers a part of what the Reader holds. -/
def RPart (w : World) (pb : Nat) (v : Value) (T : TypeId) (f : Nat → Int) (b : List UInt8) (s' : RS) (e : Ending) (w' : World) : Prop :=
  ∃ y, e = .returned y ∧ Rd w' y b ∧ (∀ k, rdb y = some k → rdb v = some k) ∧ RStep w pb v T f s' w'

set_option maxRecDepth 100000 in
set_option maxHeartbeats 800000 in
theorem rnext_any (pb : Nat) (v : Value) (T : TypeId) (s : RS) (n : Int) (w : World) (h : IsR w pb v T met s) (hn : s.met = 0 → 0 ≤ n) :
    Calls Try.prog 43 #[.pointer (some ⟨pb, 0, none⟩), .int .i64 n] w (RPart w pb v T met (s.next n).1 (s.next n).2) := by
  have hle := h.ok.le
  have hlen := h.len
  have hmet := h.ok.met
  by_cases h0 : s.met = 0
  · by_cases hlt : (s.left : Int) < n
    · have hres : s.next n = ([], s.fall 1) := by simp [RS.next, h0, hlt]
      rw [hres]
      obtain ⟨c0, c1, c2, -, -⟩ := h.facts
      have hb : ((met s.met) != 0) = false := by simp [met, h0]
      have H0 := Lib.hid h0
      have HR := Lib.hid h
      clear hres h0 hn h
      go_enter Try.func43, Try.ntmps43
      go_wp2_with fail
      refine (rleft_any pb v T met s _ HR.out).mono ?_
      rintro e w1 ⟨rfl, hd⟩
      have h1 := HR.out.calm (hd.chg _)
      have k1 := h1.facts.2.1
      go_wp2_with fail
      refine (rstop_any pb v _ _ T s.p 1 _ h1.blk).mono ?_
      rintro e w2 ⟨rfl, hb2, hc2⟩
      go_wp2_with fail
      go_ret
      exact ⟨_, rfl, Rd.nil _, fun k hk => by simp [rdb] at hk, h1.put rfl (RS.fall_ok h1.ok (by omega)) hb2 hc2, (hd.chg _).trans hc2 fun _ _ h => h⟩
    · obtain ⟨m, rfl⟩ := Int.eq_ofNat_of_zero_le (hn h0)
      have hleft := RS.left_eq h.ok
      have hres : s.next m = ((s.l.drop s.p).take m, { s with p := s.p + m }) := by simp [RS.next, h0]; omega
      rw [hres]
      obtain ⟨c0, c1, c2, -, -⟩ := h.facts
      have hb : ((met s.met) != 0) = false := by simp [met, h0]
      have hm : s.p + m ≤ s.l.length := by omega
      have hm2 : (m : Int) ≤ s.left := by omega
      obtain ⟨ao, c, rfl, hc⟩ := h.rd.form
      have H0 := Lib.hid h0
      have HR := Lib.hid h
      clear hres h0 hn h hleft hlt
      go_enter Try.func43, Try.ntmps43
      go_wp2_with fail
      refine (rleft_any pb _ T met s _ HR.out).mono ?_
      rintro e w1 ⟨rfl, hd⟩
      have h1 := HR.out.calm (hd.chg _)
      obtain ⟨k0, k1, k2, k3, k4⟩ := h1.facts
      go_wp2_with fail
      refine wp_region_text mixed (by kernel_rfl) ?_
      go_wp2_with ((with_reducible show wpList _ _ _ (⟨some 37, _, _, _, _, _⟩ :: _) _ _); refine wpl_part rfl 22 (.tmp 26) (.tmp 30) (.tmp 36) rfl Try.underlying22 sizeU8 rfl h1.rd.drew s.p (s.p + m) rfl rfl rfl (by omega) (by omega) hm ?_; intro y hy hyb; rw [show s.p + m - s.p = m from by omega] at hy)
      refine TQ.normal (by kernel_rfl) ?_
      go_wp2_with fail
      go_ret
      have hc2 := (setCell_chg w1.drew ⟨pb, 1, none⟩ (.int .i64 ((s.p : Int) + m)))
      have hch := (hd.drew.chg (fun k => k = pb)).trans hc2 fun _ _ h => h
      exact ⟨_, rfl, hy.kept hc2 (fun k hk => h1.ne k (hyb k hk)), hyb, HR.out.put rfl ⟨by simpa using hm, hmet⟩ (h1.blk.drew.set 1 _) hch, hch⟩
  · have hres : s.next n = ([], s) := by simp [RS.next, h0]
    rw [hres]
    obtain ⟨c0, c1, c2, -, -⟩ := h.facts
    have hb : ((met s.met) != 0) = true := by simp [met]; omega
    have HR := Lib.hid h
    clear hres h0 hn h
    go_enter Try.func43, Try.ntmps43
    go_wp2_with fail
    go_ret
    exact ⟨_, rfl, Rd.nil _, fun k hk => by simp [rdb] at hk, HR.out, Chg.refl _ _⟩
end Go.Proofs.Ytnfmeaifbankjaa
