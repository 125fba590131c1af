import Derived.Test.YtafgeppdchnceaaDoorHash
import Derived.BigQuiet
import Derived.Deep.QuietTactic
set_option linter.unusedVariables false
namespace Go.Proofs.YtafgeppdchnceaaDoor
open Go Go.RowKit Go.Sat
/-- code.taken: the bytes in new memory. -/
def Taken (w : World) (l : List UInt8) (e : Ending) (w' : World) : Prop :=
  e = .returned (.slice (some ⟨w.heap.size, 0, none⟩) l.length l.length) ∧ Own w' 5 1 (.slice (some ⟨w.heap.size, 0, none⟩) l.length l.length) l.length (bcells l) ∧ Chg (fun _ => False) w w' ∧ w.heap.size < w'.heap.size

set_option maxRecDepth 100000 in
theorem copy_any (x : Value) (l : List UInt8) (w : World) (hx : Rd w x l) (hl : l.length ≤ 140737488351232) :
    Calls Tryd.prog 24 #[x] w (Taken w l) := by
  obtain ⟨ao, c, hxv, _⟩ := hx.form
  subst hxv
  go_enter Tryd.func24, Tryd.ntmps24
  go_wp2_with (first | ((with_reducible show wpList _ _ _ (⟨some 6, _, _, _, _, _⟩ :: _) _ _); refine wpl_make (o := ⟨some 6, _, _, _, _, _⟩) rfl (.tmp 5) (.tmp 5) 22 rfl tyBytes rfl (l.length) rfl rfl (by unfold maxLen; omega) (by omega) ?_; intro w1 hown1 hc1 hs1) | ((with_reducible show wpList _ _ _ (⟨some 9, _, _, _, _, _⟩ :: _) _ _); refine wpl_copy (o := ⟨some 9, _, _, _, _, _⟩) rfl (.tmp 7) (.tmp 8) 22 rfl tyBytes (hown1) (hx.kept hc1 (fun _ _ => id)) rfl rfl ?_; intro w2 hown2 hc2))
  go_ret
  exact ⟨rfl, hown2, hc1.trans hc2 (fun k hk h => by simp [Value.ownBlock] at h; omega), Nat.lt_of_lt_of_le hs1 hc2.size⟩

/-- What Lend hands out: the bytes, with the three marks behind them. -/
structure Lent (w : World) (g cap : Nat) (l : List UInt8) : Prop where
  own : Own w 5 1 (.slice (some ⟨g, 0, none⟩) (l.length + 3) cap) (l.length + 3) (bcells (l ++ [165, 90, 165]))
theorem Lent.rd {w : World} {g cap : Nat} {l : List UInt8} (h : Lent w g cap l) : Rd w (.slice (some ⟨g, 0, none⟩) l.length cap) l := by
  have h1 : Rd w (.slice (some ⟨g, 0, none⟩) (l.length + 3) cap) (l ++ [165, 90, 165]) := Own.rd (h.own.cast (by simp) rfl)
  rcases h1.val with ⟨h0, _⟩ | ⟨b, off, c, h0, hc, hm, hcell⟩
  · simp at h0
  · injection h0 with h1 h2 h3
    injection h1 with h1
    injection h1 with h4 h5
    subst h4 h5 h3
    simp at hc
    exact ⟨by simp, bcells_one _, .inr ⟨g, 0, cap, rfl, by omega, hm, fun j u hu => hcell j u (by rw [bcells_append, List.getElem?_append_left]; exact hu; exact (List.getElem?_eq_some_iff.1 hu).1)⟩⟩
set_option maxRecDepth 100000 in
theorem lend_any (x : Value) (l : List UInt8) (w : World) (hx : Rd w x l) (hl : l.length ≤ 140737488351232) :
    Calls Tryd.prog 12 #[x] w fun e w' => ∃ g cap, e = .returned (.slice (some ⟨g, 0, none⟩) l.length cap) ∧ Lent w' g cap l ∧ Chg (fun _ => False) w w' ∧ w.heap.size ≤ g := by
  obtain ⟨ao, c, hxv, _⟩ := hx.form
  subst hxv
  go_enter Tryd.func12, Tryd.ntmps12
  go_wp2_with (first | ((with_reducible show wpList _ _ _ (⟨some 6, _, _, _, _, _⟩ :: _) _ _); refine wpl_append (o := ⟨some 6, _, _, _, _, _⟩) rfl (.tmp 4) (.tmp 5) 22 rfl tyBytes (World.ownsRow_nil _ 0 _ 1) (hx) rfl rfl (by unfold maxLen; omega) (by omega) ?_; intro ao' cap w2 hown2 hgr hblk; simp only [Nat.zero_add, List.nil_append] at hown2 hblk) | ((with_reducible show wpList _ _ _ (⟨some 9, _, _, _, _, _⟩ :: _) _ _); refine wpl_append (o := ⟨some 9, _, _, _, _, _⟩) rfl (.tmp 7) (.tmp 8) 22 rfl tyBytes (hown2.alloc _) (Sl.built w2 #[.int .u8 165, .int .u8 90, .int .u8 165] _ 1 3 rfl (by simp [Value.oneCell']) (by unfold maxLen; omega)) rfl rfl (by unfold maxLen; omega) (by omega) ?_; intro ao3 cap3 w3 hown3 hgr3 hblk3; obtain ⟨g, rfl, hg3⟩ := hown3.addr (by omega); have hcap3 := hown3.cap))
  go_ret
  refine ⟨g, cap3, rfl, ⟨hown3.cast rfl (by simp; rfl)⟩, ?_, ?_⟩
  · exact Chg.grown (((Chg.refl _ w).grown hgr (fun k hk => by simp [Value.ownBlock] at hk)).alloc _) hgr3 fun k hk => by
      rcases hblk with h | h
      · rw [h] at hk; simp [Value.ownBlock] at hk
      · rw [h] at hk; simp at hk; omega
  · have := hgr.size
    rcases hblk3 with h | h
    · rcases hblk with h' | h'
      · rw [h'] at h; simp [Value.ownBlock] at h
      · rw [h'] at h; simp [Value.ownBlock] at h; omega
    · simp [Value.ownBlock] at h; omega

set_option maxRecDepth 100000 in
theorem intact_any (g cap : Nat) (y : Value) (l : List UInt8) (w : World) (hx : Lent w g cap l) (hy : Rd w y l) (hl : l.length ≤ 140737488351232) :
    Calls Tryd.prog 14 #[.slice (some ⟨g, 0, none⟩) l.length cap, y] w fun e w' => e = .returned (.bool true) ∧ w = w' := by
  obtain ⟨ao, c, hyv, _⟩ := hy.form
  subst hyv
  have hr := hx.rd
  obtain ⟨c0, c1, c2, hcap⟩ : w.cell? ⟨g, l.length, none⟩ = some (.int .u8 165) ∧ w.cell? ⟨g, l.length + 1, none⟩ = some (.int .u8 90) ∧ w.cell? ⟨g, l.length + 2, none⟩ = some (.int .u8 165) ∧ l.length + 3 ≤ cap := by
    have h1 : Rd w (.slice (some ⟨g, 0, none⟩) (l.length + 3) cap) (l ++ [165, 90, 165]) := Own.rd (hx.own.cast (by simp) rfl)
    obtain ⟨ao, c, e, hc⟩ := h1.form
    injection e with e1 e2 e3
    have q0 := h1.cell (j := l.length) (by simp)
    have q1 := h1.cell (j := l.length + 1) (by simp)
    have q2 := h1.cell (j := l.length + 2) (by simp)
    simp only [Nat.zero_add] at q0 q1 q2
    exact ⟨by rw [q0]; simp, by rw [q1]; simp, by rw [q2]; simp, by simp at hc; omega⟩
  go_enter Tryd.func14, Tryd.ntmps14
  go_wp2_with (first | ((with_reducible show wpList _ _ _ (⟨some 7, _, _, _, _, _⟩ :: _) _ _); refine wpl_str (o := ⟨some 7, _, _, _, _, _⟩) rfl 22 9 (.tmp 6) rfl Tryd.underlying22 Tryd.underlying5 Tryd.underlying9 (hr) rfl ?_) | ((with_reducible show wpList _ _ _ (⟨some 9, _, _, _, _, _⟩ :: _) _ _); refine wpl_str (o := ⟨some 9, _, _, _, _, _⟩) rfl 22 9 (.tmp 8) rfl Tryd.underlying22 Tryd.underlying5 Tryd.underlying9 (hy) rfl ?_))
  go_ret
  exact ⟨rfl, rfl⟩
theorem xor_u8 (b c : UInt8) : bits BinOp.xor IntKind.u8 (b.toNat : Int) (c.toNat : Int) = ((b ^^^ c).toNat : Int) := by
  rw [u8_xor_nat _ _ b.toNat_lt c.toNat_lt, UInt8.toNat_xor]
set_option maxRecDepth 100000 in
/-- The bytes are xored where they lie. -/
theorem flip_any (g cap : Nat) (l : List UInt8) (w : World) (hx : Lent w g cap l) (hl : l.length ≤ 140737488351232) :
    Calls Tryd.prog 18 #[.slice (some ⟨g, 0, none⟩) l.length cap] w fun e w' => e = .returned (.tuple #[]) ∧ Lent w' g cap (xorB 85 l) ∧ Chg (fun k => k = g) w w' := by
  have hx2 : Lent w g cap (xorB 85 (l.take 0) ++ l.drop 0) := by simpa [xorB] using hx
  have hlt := hx.own.lt g rfl
  go_enter Tryd.func18, Tryd.ntmps18
  go_wp2_with fail
  go_loopw [2] (fun i wr => ∃ k : Nat, k ≤ l.length ∧ i = .int .i64 k ∧ Lent wr g cap (xorB 85 (l.take k) ++ l.drop k) ∧ Chg (fun k => k = g) w wr) (fun i _ => l.length - (intOf i).toNat)
  case atStart => exact ⟨0, Nat.zero_le _, rfl, hx2, Chg.refl _ _⟩
  case round =>
    obtain ⟨k, hk, rfl, hL, hC⟩ := hrel
    have hlen : (xorB 85 (l.take k) ++ l.drop k).length = l.length := by simp [xorB]; omega
    by_cases hlt : k < l.length
    · obtain ⟨O2, f2, c2⟩ := hL.own.store (i := k) (by omega) (.int .u8 ((l[k] ^^^ 85).toNat : Int))
      have c0 : wr.cell? ⟨g, k, none⟩ = some (.int .u8 (l[k].toNat : Int)) := by
        have e : (xorB 85 (l.take k) ++ l.drop k ++ [165, 90, 165])[k]? = some l[k] := by
          have hx : (xorB 85 (l.take k)).length = k := by simp [xorB]; omega
          rw [List.append_assoc, List.getElem?_append_right (by omega), List.getElem?_append_left (by simp; omega), List.getElem?_drop, hx, show k + (k - k) = k from by omega, List.getElem?_eq_getElem hlt]
        rw [c2, bcells_get, e]; rfl
      have hxr : bits BinOp.xor IntKind.u8 (l[k].toNat : Int) 85 = ((l[k] ^^^ 85).toNat : Int) := xor_u8 l[k] 85
      have HXR := Lib.hid hxr
      have HS : Hid ((bcells (xorB 85 (l.take k) ++ l.drop k ++ [165, 90, 165])).set k (.int .u8 ((l[k] ^^^ 85).toNat : Int)) = bcells (xorB 85 (l.take (k + 1)) ++ l.drop (k + 1) ++ [165, 90, 165])) := by
        refine Lib.hid ?_
        rw [List.take_succ_eq_append_getElem hlt, List.drop_eq_getElem_cons hlt]
        simp only [xorB, bcells, List.map_append, List.map_cons, List.map_nil, List.append_assoc, List.cons_append, List.nil_append]
        rw [List.set_append_right _ _ (by simp; omega)]
        simp [Nat.min_eq_left (Nat.le_of_lt hlt)]
      have HO := Lib.hid O2
      have HL := Lib.hid hlen
      generalize l[k] = b at *
      clear c2 O2 hL hlen hx2 hx hxr
      go_wp2_with fail
      rw [HXR.out]
      refine ⟨⟨k + 1, by omega, by go_num, ⟨?_⟩, hC.setCell (.inr rfl) _⟩, by simp [intOf]; omega⟩
      have e := HO.out
      rw [HS.out] at e
      have hn : (xorB 85 (l.take (k + 1)) ++ l.drop (k + 1)).length = (xorB 85 (l.take k) ++ l.drop k).length := by simp [xorB]; omega
      rw [hn]
      exact e
    · obtain rfl : k = l.length := by omega
      have h1 : Lent wr g cap (xorB 85 l) := by simpa using hL
      have HL := Lib.hid h1
      clear h1 hL hx2 hx hlen
      go_wp2_with fail
      go_end0
      exact ⟨rfl, HL.out, hC⟩
end Go.Proofs.YtafgeppdchnceaaDoor
