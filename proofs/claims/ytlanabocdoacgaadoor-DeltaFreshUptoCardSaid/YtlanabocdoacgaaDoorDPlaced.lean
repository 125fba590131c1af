import Derived.Test.YtlanabocdoacgaaDoorDRApply
import Derived.Lib.SlBytesConst
set_option linter.unusedVariables false
namespace Go.Proofs.YtlanabocdoacgaaDoor
open Go Go.RowKit Go.Sat
theorem Lent.rdN {w : World} {g cap n : Nat} {l : List UInt8} (h : Lent w g cap l) (hn : l.length = n) : Rd w (.slice (some ⟨g, 0, none⟩) n cap) l := by subst hn; exact h.rd
theorem Lent.kept {S : Nat → Prop} {w w' : World} {g cap : Nat} {l : List UInt8} (h : Lent w g cap l) (hc : Chg S w w') (hn : ¬ S g) : Lent w' g cap l := ⟨h.own.kept hc (fun k hk => by have e : g = k := Option.some.inj hk; rw [← e]; exact hn)⟩
theorem intoN (g cap n : Nat) (y : Value) (l l2 : List UInt8) (w : World) (hx : Lent w g cap l) (hln : l.length = n) (hy : Rd w y l2) (hn : l2.length = n) (hs : ∀ k, rdb y = some k → k ≠ g) (hl : n ≤ 1000000000) :
    Calls Tryd.prog 39 #[.slice (some ⟨g, 0, none⟩) n cap, y] w fun e w' => e = .returned (.tuple #[]) ∧ Lent w' g cap l2 ∧ Chg (fun k => k = g) w w' := by
  subst hln; exact into2_any g cap y l l2 w hx hy hn hs hl
theorem intactN (g cap n : Nat) (y : Value) (l : List UInt8) (w : World) (hx : Lent w g cap l) (hn : l.length = n) (hy : Rd w y l) (hl : n ≤ 1000000000) :
    Calls Tryd.prog 16 #[.slice (some ⟨g, 0, none⟩) n cap, y] w fun e w' => e = .returned (.bool true) ∧ w = w' := by subst hn; exact intact_any g cap y l w hx hy hl
theorem Sl.builtF (w : World) (cs : Array Value) (t : TypeId) (fr : Nat × Nat) (sz n : Nat) (hn : cs.size = n * sz) (h1 : ∀ u ∈ cs.toList, u.oneCell' = true) (hm : n ≤ maxLen) :
    Sl (w.alloc (.cells cs t fr)) sz (.slice (some ⟨w.heap.size, 0, none⟩) n n) n cs.toList := by
  refine ⟨by simpa using hn, h1, .inr ⟨_, _, _, rfl, Nat.le_refl _, hm, fun j u hu => ?_⟩⟩
  rw [← addr_add]
  exact World.news_of_block (fr := fr) (heap_alloc_new w _) j u hu
theorem goR_sum (base : Nat) : ∀ (f : Nat) (s : RS) (room : Nat) (acc l : List Pc) (t : RS), s.Ok → (∀ p ∈ acc, p.fits base) → goR base f s room acc = (.inr l, t) → (∀ p ∈ l, p.fits base) ∧ (l.map Pc.len).sum ≤ (acc.map Pc.len).sum + room
  | 0, s, room, acc, l, t, _, hacc, h => by simp [goR] at h; obtain ⟨rfl, _⟩ := h; exact ⟨hacc, by omega⟩
  | f + 1, s, room, acc, l, t, hok, hacc, h => by
    unfold goR at h
    split at h
    · simp at h; obtain ⟨rfl, _⟩ := h; exact ⟨hacc, by omega⟩
    · split at h
      · simp at h
      · rename_i p t' ho
        obtain ⟨k1, k2, k3⟩ := oneR_ok hok base room (fun s hs most => RS.var_ok hs most)
        rw [ho] at k1 k2 k3
        obtain ⟨q1, q2, q3⟩ := k3 p rfl
        have := goR_sum base f t' (room - p.len) (acc ++ [p]) l t k1 (fun q hq => by
          rcases List.mem_append.1 hq with hq | hq
          · exact hacc q hq
          · obtain rfl : q = p := by simpa using hq
            exact q3) h
        refine ⟨this.1, ?_⟩
        have h2 := this.2
        simp only [List.map_append, List.sum_append, List.map_cons, List.map_nil, List.sum_cons, List.sum_nil] at h2
        omega
theorem flatP_len (base : List UInt8) : ∀ l : List Pc, (∀ p ∈ l, p.fits base.length) → (flatP base l).length = (l.map Pc.len).sum
  | [], _ => rfl
  | p :: l, h => by
    have := flatP_len base l (fun q hq => h q (List.mem_cons_of_mem _ hq))
    have h1 := Pc.bytes_len (h p List.mem_cons_self)
    simp only [flatP, List.map_cons, List.flatten_cons, List.length_append, List.sum_cons] at this ⊢
    omega
theorem appR_len (base d : List UInt8) : (appR base d).1.length ≤ 65536 := by
  unfold appR
  simp only
  split
  · simp
  · simp only
    have key : (∀ p ∈ (pcsR base.length d).1, p.fits base.length) ∧ ((pcsR base.length d).1.map Pc.len).sum ≤ 65536 := by
      have hok : (⟨d, 0, 0⟩ : RS).Ok := ⟨Nat.zero_le _, Nat.zero_le _⟩
      have o1 := (RS.var_ok hok 65536).1
      have o2 := (RS.var_ok o1 M64).1
      have z : (∀ p ∈ ([] : List Pc), p.fits base.length) ∧ (([] : List Pc).map Pc.len).sum ≤ 65536 := ⟨fun p hp => (List.not_mem_nil hp).elim, by simp⟩
      unfold pcsR
      simp only
      split
      · exact z
      · split
        · exact z
        · split
          · exact z
          · split
            · exact z
            · rename_i hl
              split
              · exact z
              · rename_i l t hg
                split
                · exact z
                · have := goR_sum _ _ _ _ _ _ _ o2 (fun p hp => (List.not_mem_nil hp).elim) hg
                  refine ⟨this.1, ?_⟩
                  have h2 := this.2
                  simp at h2 ⊢
                  omega
    rw [flatP_len base _ key.1]
    exact key.2
theorem eqT_any (x y : Value) (l : List UInt8) (w : World) (hx : Rd w x l) (hy : Rd w y l) (hl : l.length ≤ 65536) :
    Calls Tryd.prog 15 #[x, y] w fun e w' => e = .returned (.bool true) ∧ Chg (fun _ => False) w w' :=
  (eq_self_any x y l w hx hy (by omega)).mono fun e w' ⟨h1, h2⟩ => ⟨h1, h2.chg _⟩
set_option maxRecDepth 100000 in
theorem apply_lit (x y : Value) (base d t : List UInt8) (w : World) (ht : appR base d = (t, 0)) (hE : Errnos w) (hx : Rd w x base) (hy : Rd w y d) (hb : base.length ≤ 2000000) (hd : d.length ≤ 2000000) :
    Calls Tryd.prog 10 #[x, y] w fun e w' => ∃ ya yc, e = .returned (.tuple #[.slice ya t.length yc, .int .i64 0]) ∧ Rd w' (.slice ya t.length yc) t ∧ Chg (fun _ => False) w w' :=
  (apply_any x y base d w hE hx hy hb hd).mono fun e w' h => by
    obtain ⟨y, h1, O, _, C⟩ := h
    rw [ht] at h1 O
    obtain ⟨ya, yc, rfl, _⟩ := O.form
    exact ⟨ya, yc, h1, Own.rd O, C⟩
set_option maxHeartbeats 1600000 in
theorem lives_any (W : World) (hE : Errnos W) : Calls Tryd.prog 8 #[] W fun e w' => e = .returned (.bool true) ∧ Chg (fun _ => False) W w' := by
  have hv : appR [97, 98] [2, 3, 5, 0, 2, 99] = ([97, 98, 99], 0) := by decide +kernel
  have kc := fun (w : World) (C : Array Value) (n c : Nat) => Lib.run_convert_bytes_const (P := Tryd.prog) w 24 5 C n c Tryd.underlying24 Tryd.underlying5
  have r1 : Rd (W.alloc (.cells #[.int .u8 97, .int .u8 98] 5 (2, 3))) (.slice (some ⟨W.heap.size, 0, none⟩) 2 2) [97, 98] := Sl.builtF W #[.int .u8 97, .int .u8 98] 5 (2, 3) 1 2 rfl (by simp [Value.oneCell']) (by unfold maxLen; omega)
  have C1 : Chg (fun _ => False) W (W.alloc (.cells #[.int .u8 97, .int .u8 98] 5 (2, 3))) := (Chg.refl _ W).alloc _
  have HV := Lib.hid hv
  have HE := Lib.hid hE
  have HR1 := Lib.hid r1
  have HC1 := Lib.hid C1
  clear hv hE r1 C1
  go_enter Tryd.func8, Tryd.ntmps8
  go_wp2_with fail
  have hz1 : (W.alloc (.cells #[.int .u8 97, .int .u8 98] 5 (2, 3))).heap.size = W.heap.size + 1 := by simp
  generalize W.alloc (.cells #[.int .u8 97, .int .u8 98] 5 (2, 3)) = w1 at *
  have r2 : Rd (w1.alloc (.cells #[.int .u8 2, .int .u8 3, .int .u8 5, .int .u8 0, .int .u8 2, .int .u8 99] 5)) (.slice (some ⟨W.heap.size + 1, 0, none⟩) 6 6) [2, 3, 5, 0, 2, 99] := by
    rw [← hz1]
    exact Sl.built w1 #[.int .u8 2, .int .u8 3, .int .u8 5, .int .u8 0, .int .u8 2, .int .u8 99] 5 1 6 rfl (by simp [Value.oneCell']) (by unfold maxLen; omega)
  have C2 : Chg (fun _ => False) w1 (w1.alloc (.cells #[.int .u8 2, .int .u8 3, .int .u8 5, .int .u8 0, .int .u8 2, .int .u8 99] 5)) := (Chg.refl _ w1).alloc _
  have CW2 := HC1.out.trans C2 (fun _ _ h => h)
  have happ2 := apply_lit _ _ [97, 98] [2, 3, 5, 0, 2, 99] [97, 98, 99] _ HV.out (HE.out.kept CW2 id) (HR1.out.kept C2 (fun _ _ => id)) r2 (by decide) (by decide)
  clear r2 C2 hz1
  generalize w1.alloc (.cells #[.int .u8 2, .int .u8 3, .int .u8 5, .int .u8 0, .int .u8 2, .int .u8 99] 5) = w2 at *
  have HAPP := Lib.hid happ2
  have HCW2 := Lib.hid CW2
  clear happ2 CW2 HR1
  (refine HAPP.out.mono ?_; rintro e w3 ⟨ya, yc, rfl, hy3, C3⟩)
  have CW3 := HCW2.out.trans C3 (fun _ _ h => h)
  clear C3
  go_wp2_with fail
  (refine (dnum_any 0 w3).mono ?_; rintro e w' ⟨rfl, rfl⟩)
  go_wp2_with fail
  have r4 : Rd (w3.alloc (.cells #[.int .u8 97, .int .u8 98, .int .u8 99] 5 (3, 4))) (.slice (some ⟨w3.heap.size, 0, none⟩) 3 3) [97, 98, 99] := Sl.builtF w3 #[.int .u8 97, .int .u8 98, .int .u8 99] 5 (3, 4) 1 3 rfl (by simp [Value.oneCell']) (by unfold maxLen; omega)
  have C4 : Chg (fun _ => False) w3 (w3.alloc (.cells #[.int .u8 97, .int .u8 98, .int .u8 99] 5 (3, 4))) := (Chg.refl _ w3).alloc _
  have hy4 := hy3.kept C4 (fun _ _ => id)
  have CW4 := CW3.trans C4 (fun _ _ h => h)
  (refine (eqT_any _ _ [97, 98, 99] _ hy4 r4 (by decide)).mono ?_; rintro e w5 ⟨rfl, C5⟩)
  clear r4 hy4
  go_wp2_with fail
  go_ret
  exact ⟨rfl, CW4.trans C5 (fun _ _ h => h)⟩
end Go.Proofs.YtlanabocdoacgaaDoor
