import Derived.Test.YtnfmeaifbankjaaLate
set_option linter.unusedVariables false
namespace Go.Proofs.Ytnfmeaifbankjaa
open Go Go.RowKit Go.Sat
/-- A Book and a Late side by side; all their memory is newer than h0; so many lists in all. -/
structure FrI (h0 : Nat) (w : World) (bk lk : Nat) (TB TL : TypeId) (O P : Nat → Prop) (K : Nat) : Prop where
  ex : ∃ xs lo tn dn gs, BkI w bk TB O xs lo lo xs.length tn dn ∧ LtI w lk TL P gs ∧ lo ≤ xs.length ∧ xs.length + 9 * (xs.length - lo) ≤ 10 * tn ∧ dn ≤ 9000 ∧ tn + gs.length ≤ K
  disj : ∀ b, P b → ¬ O b
  ob : ∀ b, O b → h0 ≤ b ∧ b < w.heap.size
  pb : ∀ b, P b → h0 ≤ b ∧ b < w.heap.size
theorem FrI.calm {h0 : Nat} {w w' : World} {bk lk : Nat} {TB TL : TypeId} {O P : Nat → Prop} {K : Nat} (h : FrI h0 w bk lk TB TL O P K) {S : Nat → Prop} (c : Chg S w w') (hS : ∀ b, S b → ¬ O b ∧ ¬ P b) : FrI h0 w' bk lk TB TL O P K := by
  obtain ⟨xs, lo, tn, dn, gs, h1, h2, h3⟩ := h.ex
  exact ⟨⟨xs, lo, tn, dn, gs, h1.kept c (fun b hb e => (hS b e).1 hb), h2.kept c (fun b hb e => (hS b e).2 hb), h3⟩, h.disj, fun b hb => ⟨(h.ob b hb).1, Nat.lt_of_lt_of_le (h.ob b hb).2 c.size⟩, fun b hb => ⟨(h.pb b hb).1, Nat.lt_of_lt_of_le (h.pb b hb).2 c.size⟩⟩
theorem FrI.more {h0 : Nat} {w : World} {bk lk : Nat} {TB TL : TypeId} {O P : Nat → Prop} {K K' : Nat} (h : FrI h0 w bk lk TB TL O P K) (hK : K ≤ K') : FrI h0 w bk lk TB TL O P K' := by
  obtain ⟨xs, lo, tn, dn, gs, h1, h2, h3, h4, h5, h6⟩ := h.ex
  exact ⟨⟨xs, lo, tn, dn, gs, h1, h2, h3, h4, h5, by omega⟩, h.disj, h.ob, h.pb⟩
theorem LtI.trim {P : Nat → Prop} {w : World} {lk : Nat} {T : TypeId} {gs : List Le} (h : LtI w lk T P gs) : LtI w lk T (fun b => P b ∧ b < w.heap.size) gs := h.wide fun b hb hP => ⟨hP, hb⟩
theorem addF_any {h0 bk lk : Nat} {TB TL : TypeId} {O P : Nat → Prop} {K : Nat} (v y : Value) (l : List UInt8) (w : World) (h : FrI h0 w bk lk TB TL O P K) (hv : Own w 5 1 v l.length (bcells l)) (hy : Rd w y l)
    (hP : ∀ k, v.ownBlock = some k → ¬ P k ∧ ¬ O k ∧ h0 ≤ k) (hyP : ∀ k, rdb y = some k → ¬ P k) (hl : l.length ≤ 10000000) (hK : K ≤ 8000) (hh : h0 ≤ w.heap.size) :
    Calls Try.prog 21 #[.pointer (some ⟨lk, 0, none⟩), v, y] w fun e w' => e = .returned (.tuple #[]) ∧ ∃ P', FrI h0 w' bk lk TB TL O P' (K + 1) ∧ Chg P w w' ∧ ∀ b, P' b → P b ∨ v.ownBlock = some b ∨ w.heap.size ≤ b := by
  obtain ⟨xs, lo, tn, dn, gs, h1, h2, h3, h4, h5, h6⟩ := h.ex
  refine (add_any lk TL P gs v y l w h2 hv hy (fun k hk => (hP k hk).1) hyP hl (by omega)).mono ?_
  rintro e w' ⟨rfl, u, L, C⟩
  refine ⟨rfl, _, ⟨⟨xs, lo, tn, dn, gs ++ [⟨v, l, u⟩], h1.kept C (fun b hb e => h.disj b e hb), L.trim, h3, h4, h5, by simp; omega⟩, ?_, fun b hb => ⟨(h.ob b hb).1, Nat.lt_of_lt_of_le (h.ob b hb).2 C.size⟩, ?_⟩, C, fun b hb => hb.1⟩
  · rintro b ⟨e | e | e, _⟩ hO
    · exact h.disj b e hO
    · exact (hP b e).2.1 hO
    · have := (h.ob b hO).2; omega
  · rintro b ⟨e | e | e, e2⟩
    · exact ⟨(h.pb b e).1, e2⟩
    · exact ⟨(hP b e).2.2, e2⟩
    · exact ⟨by omega, e2⟩
theorem settleF_any {h0 bk lk : Nat} {TB TL : TypeId} {O P : Nat → Prop} {K : Nat} (n : Nat) (w : World) (h : FrI h0 w bk lk TB TL O P K) (hn : n ≤ 1000) (hK : K ≤ 8000) (hh : h0 ≤ w.heap.size) :
    Calls Try.prog 25 #[.pointer (some ⟨lk, 0, none⟩), .pointer (some ⟨bk, 0, none⟩), .int .i64 (n : Int)] w fun e w' => e = .returned (.bool true) ∧ ∃ O' P', FrI h0 w' bk lk TB TL O' P' K ∧ Chg (fun b => O b ∨ P b) w w' ∧ (∀ b, O' b → O b ∨ P b ∨ w.heap.size ≤ b) ∧ ∀ b, P' b → P b := by
  obtain ⟨xs, lo, tn, dn, gs, h1, h2, h3, h4, h5, h6⟩ := h.ex
  have hPlk : P lk := by
    obtain ⟨tg, tw, k1, k2, k3, k4, k5, k6, k7, k8⟩ := h2.ex
    exact k7 lk (.inl rfl)
  refine (settle_any lk bk TL TB P O gs xs lo tn dn n w h2 h1 h.disj (by omega) hn (by omega) h5 h3 h4).mono ?_
  rintro e w' ⟨rfl, ⟨_, C⟩ | ⟨xs', lo', dn', I, L, C, hd, hl, hc⟩⟩
  · exact ⟨rfl, O, P, h.calm C (fun _ e => e.elim), C.mono fun _ _ e => e.elim, fun b hb => .inl hb, fun b hb => hb⟩
  · refine ⟨rfl, _, _, ⟨⟨xs', lo', tn + gs.length, dn', [], I.trim, L, hl, hc, hd, by simp; omega⟩, ?_, ?_, ?_⟩, C, ?_, fun b hb => by have hb' : b = lk := hb; rw [hb']; exact hPlk⟩
    · rintro b e ⟨e2 | e2 | e2, _⟩
      · have hb' : b = lk := e
        exact h.disj lk hPlk (by rw [← hb']; exact e2)
      · exact e2.2 e
      · have hb' : b = lk := e
        have := (h.pb lk hPlk).2; omega
    · rintro b ⟨e2 | e2 | e2, e3⟩
      · exact ⟨(h.ob b e2).1, e3⟩
      · exact ⟨(h.pb b e2.1).1, e3⟩
      · exact ⟨by omega, e3⟩
    · intro b e
      have hb' : b = lk := e
      rw [hb']
      exact ⟨(h.pb lk hPlk).1, Nat.lt_of_lt_of_le (h.pb lk hPlk).2 C.size⟩
    · rintro b ⟨e2 | e2 | e2, _⟩
      · exact .inl e2
      · exact .inr (.inl e2.1)
      · exact .inr (.inr e2)
theorem lookF_any {h0 bk lk : Nat} {TB TL : TypeId} {O P : Nat → Prop} {K : Nat} (w : World) (h : FrI h0 w bk lk TB TL O P K) (hK : K ≤ 8000) (hh : h0 ≤ w.heap.size) :
    Calls Try.prog 26 #[.pointer (some ⟨bk, 0, none⟩)] w fun e w' => e = .returned (.bool true) ∧ ∃ O', FrI h0 w' bk lk TB TL O' P K ∧ Chg O w w' ∧ ∀ b, O' b → O b ∨ w.heap.size ≤ b := by
  obtain ⟨xs, lo, tn, dn, gs, h1, h2, h3, h4, h5, h6⟩ := h.ex
  refine (look_any bk TB O xs lo tn dn w h1 (by omega) h5 h3 h4).mono ?_
  rintro e w' ⟨rfl, xs', lo', dn', I, hd, C, hl, hc⟩
  refine ⟨rfl, _, ⟨⟨xs', lo', tn, dn', gs, I.trim, h2.kept C (fun b hb e => h.disj b hb e), hl, hc, hd, h6⟩, ?_, ?_, fun b hb => ⟨(h.pb b hb).1, Nat.lt_of_lt_of_le (h.pb b hb).2 C.size⟩⟩, C, fun b hb => hb.1⟩
  · rintro b hP ⟨e | e, _⟩
    · exact h.disj b hP e
    · have := (h.pb b hP).2; omega
  · rintro b ⟨e | e, e3⟩
    · exact ⟨(h.ob b e).1, e3⟩
    · exact ⟨by omega, e3⟩
end Go.Proofs.Ytnfmeaifbankjaa
