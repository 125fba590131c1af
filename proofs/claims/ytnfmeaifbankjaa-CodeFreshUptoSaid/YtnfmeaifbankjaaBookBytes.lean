import Derived.Test.YtnfmeaifbankjaaBook
set_option linter.unusedVariables false
namespace Go.Proofs.Ytnfmeaifbankjaa
open Go Go.RowKit Go.Sat
/-- A slice that was at bs is at bs' now: in its place, or in new memory. -/
def Moved (w : World) (bs bs' : Value) : Prop := bs'.ownBlock = bs.ownBlock ∨ ∃ k, bs'.ownBlock = some k ∧ w.heap.size ≤ k
/-- What Bytes leaves behind. -/
structure BytesP (bk : Nat) (T : TypeId) (bs bo v : Value) (nb : Nat) (es ms : List Value) (ba dn us : Int) (m n : Nat) (w w' : World) : Prop where
  own : Own w' 5 1 v n (bcells (marks (m + 1) n))
  chg : Chg (fun k => k = bk ∨ bs.ownBlock = some k ∨ bo.ownBlock = some k ∨ v.ownBlock = some k) w w'
  bk : Bk w' bk T bs bo nb es ms ba ((m : Int) + 1) dn us ∨ ∃ bs' bo' us', 0 ≤ us' ∧ us' ≤ 16777216 ∧ Bk w' bk T bs' bo' (nb + 1) (es ++ [v]) (ms ++ [.int .i64 ((m : Int) + 1)]) ba ((m : Int) + 1) dn us' ∧ Moved w bs bs' ∧ Moved w bo bo'
set_option maxRecDepth 100000 in
set_option maxHeartbeats 3200000 in
theorem bytes_any (bk : Nat) (T : TypeId) (bs bo v : Value) (nb : Nat) (es ms : List Value) (ba dn us : Int) (m : Nat) (l : List UInt8) (w : World) (h : Bk w bk T bs bo nb es ms ba (m : Int) dn us) (hv : Own w 5 1 v l.length (bcells l))
    (hne : ∀ k, v.ownBlock = some k → k ≠ bk ∧ bs.ownBlock ≠ some k ∧ bo.ownBlock ≠ some k) (hm : m ≤ 100000) (hl : l.length ≤ 10000000) (hu : 0 ≤ us ∧ us ≤ 16777216) (hnb : nb ≤ 100000) :
    Calls Try.prog 47 #[.pointer (some ⟨bk, 0, none⟩), v] w fun e w' => e = .returned (.tuple #[]) ∧ BytesP bk T bs bo v nb es ms ba dn us m l.length w w' := by
  have c33 : w.cell? ⟨bk, 33, none⟩ = some (.int .i64 (m : Int)) := by rw [h.blk.cell]; rfl
  have f33 := h.blk.free 33
  have hset := h.blk.set 33 (.int .i64 ((m : Int) + 1))
  have hrd := (Own.rd hv).form
  obtain ⟨va, vc, rfl, _⟩ := hrd
  have C1 : Chg (fun k => k = bk) w (w.setCell ⟨bk, 33, none⟩ (.int .i64 ((m : Int) + 1))) := Chg.setCell (Chg.refl (fun k => k = bk) w) (.inr (show (⟨bk, 33, none⟩ : Addr).block = bk from rfl)) _
  have hv1 := hv.kept C1 (fun k hk e => (hne k hk).1 e)
  have HS := Lib.hid hset
  have HV := Lib.hid hv1
  have HC := Lib.hid C1
  have HNE := Lib.hid hne
  have H := Lib.hid h
  clear hset h hv hv1 C1 hne
  go_enter Try.func47, Try.ntmps47
  go_wp2_with fail
  generalize w.setCell ⟨bk, 33, none⟩ (.int .i64 ((m : Int) + 1)) = w1 at *
  go_loopw [5] (fun s5 wr => ∃ i : Nat, i ≤ l.length ∧ s5 = .int .i64 (i : Int) ∧ Own wr 5 1 (.slice va l.length vc) l.length (bcells (marks (m + 1) i ++ l.drop i)) ∧ Chg (fun k => (Value.slice va l.length vc).ownBlock = some k) w1 wr) (fun s5 _ => l.length - (intOf s5).toNat)
  case atStart => exact ⟨0, by omega, rfl, HV.out, Chg.refl _ _⟩
  case round =>
    obtain ⟨i, hi, rfl, O, C⟩ := hrel
    by_cases hlt : i < l.length
    · have hq : decide (i < l.length) = true := by simp; omega
      obtain ⟨g, e1, hg⟩ := O.addr (by omega)
      cases e1
      obtain ⟨O2, fr2, cc2⟩ := O.store hlt (.int .u8 ((markB (m + 1) i).toNat : Int))
      rw [marks_set _ _ _ hlt] at O2
      obtain ⟨u, hu⟩ : ∃ u, wr.cell? ⟨g, i, none⟩ = some u := ⟨_, cc2.trans (List.getElem?_eq_getElem (by simp [bcells, marks_len]; omega))⟩
      clear cc2
      have C2 := C.setCell (p := ⟨g, i, none⟩) (.inr rfl) (.int .u8 ((markB (m + 1) i).toNat : Int))
      have HO2 := Lib.hid O2
      have HC2 := Lib.hid C2
      clear O O2 C C2
      go_wp2_with fail
      have ha := at_any (m + 1) i wr (by omega) (by omega)
      rw [show ((m + 1 : Nat) : Int) = (m : Int) + 1 from by omega] at ha
      (refine ha.mono ?_; rintro e w' ⟨rfl, rfl⟩)
      clear ha
      go_wp2_with fail
      go_roundw
      case rel => exact ⟨i + 1, by omega, by go_num, HO2.out, HC2.out⟩
      case measure => simp [intOf]; omega
    · have hq : decide (i < l.length) = false := by simp; omega
      obtain rfl : i = l.length := by omega
      clear hlt hi
      go_wp2_with fail
      have hb1 : Blk w1 bk T (bookC bs bo ba ((m : Int) + 1) dn us) := HS.out
      have B1 : Bk w1 bk T bs bo nb es ms ba ((m : Int) + 1) dn us :=
        ⟨hb1, H.out.own1.kept HC.out (fun k hk e => H.out.ne1 (by rw [hk, e])), H.out.own2.kept HC.out (fun k hk e => H.out.ne2 (by rw [hk, e])), H.out.ne1, H.out.ne2, H.out.ne12⟩
      have B2 := B1.kept C (fun e => (HNE.out _ e).1 rfl) (fun k hk e => (HNE.out k e).2.1 hk) (fun k hk e => (HNE.out k e).2.2 hk)
      rw [List.drop_length, List.append_nil] at O
      have HB2 := Lib.hid B2
      have HO := Lib.hid O
      have CA : Chg (fun k => k = bk ∨ bs.ownBlock = some k ∨ bo.ownBlock = some k ∨ (Value.slice va l.length vc).ownBlock = some k) w wr :=
        (HC.out.mono (fun x _ e => Or.inl e)).trans C (fun x _ e => .inr (.inr (.inr e)))
      have HCA := Lib.hid CA
      clear hb1 B1 B2 O CA
      (refine (tight_any bk T bs bo ba ((m : Int) + 1) dn us (1200 + 3 * (l.length : Int)) wr HB2.out.blk hu (by omega)).mono ?_; rintro e w2 ⟨D2, ⟨h1, rfl, B3⟩ | ⟨h1, rfl, B3⟩⟩)
      · go_wp2_with fail
        (try simp only [Exit.inBlock, Exit.then])
        refine bodyPost_ret (results_none rfl _ _ _) rfl ?_
        refine ⟨rfl, HO.out.kept D2 (fun k hk e => (HNE.out k hk).1 e), HCA.out.trans (D2.mono (fun x _ e => Or.inl e)) (fun _ _ h => h), .inl ?_⟩
        exact ⟨B3, HB2.out.own1.kept D2 (fun k hk e => HB2.out.ne1 (by rw [hk, e])), HB2.out.own2.kept D2 (fun k hk e => HB2.out.ne2 (by rw [hk, e])), HB2.out.ne1, HB2.out.ne2, HB2.out.ne12⟩
      · have OW1 := HB2.out.own1.kept D2 (fun k hk e => HB2.out.ne1 (by rw [hk, e]))
        have OW2 := HB2.out.own2.kept D2 (fun k hk e => HB2.out.ne2 (by rw [hk, e]))
        have OV := HO.out.kept D2 (fun k hk e => (HNE.out k hk).1 e)
        have c0 : w2.cell? ⟨bk, 0, none⟩ = some bs := by rw [B3.cell]; rfl
        have f0 := B3.free 0
        have hB3 := Lib.hid B3
        have HU := Lib.hid hu
        clear B3 c33 f33 hu
        go_wp2_with (first
          | ((with_reducible show wpList _ _ _ (⟨some 42, _, _, _, _, _⟩ :: _) _ _); refine wpl_append rfl (.tmp 39) (.tmp 41) 40 rfl tyBB' (OW1.alloc _) (Sl.built1 _ _ _ rfl) rfl rfl (by unfold maxLen; omega) (by omega) ?_; intro ao3 cap3 w3 O3 hgr3 hbl3; refine Shut.out ?_)
          | fail)
        show wpList _ _ _ _ _ _
        have C3 : Chg (fun k => bs.ownBlock = some k) w2 w3 := ((Chg.refl (fun k => bs.ownBlock = some k) w2).alloc _).grown hgr3 (fun k hk => .inr hk)
        have B4 := hB3.out.kept C3 (fun e => HB2.out.ne1 e)
        have c4 : w3.cell? ⟨bk, 0, none⟩ = some bs := by rw [B4.cell]; rfl
        have f4 := B4.free 0
        have OW4 := OW2.kept C3 (fun k hk e => HB2.out.ne12 k e hk)
        have B5 : Blk (w3.setCell ⟨bk, 0, none⟩ (.slice ao3 (nb + 1) cap3)) bk T (bookC (.slice ao3 (nb + 1) cap3) bo ba ((m : Int) + 1) dn (us + (1200 + 3 * (l.length : Int)))) := B4.set 0 _
        have C5 : Chg (fun k => k = bk) w3 (w3.setCell ⟨bk, 0, none⟩ (.slice ao3 (nb + 1) cap3)) := Chg.setCell (Chg.refl (fun k => k = bk) w3) (.inr (show (⟨bk, 0, none⟩ : Addr).block = bk from rfl)) _
        have OW5 := OW4.kept C5 (fun k hk e => HB2.out.ne2 (by rw [hk, e]))
        have c5 : (w3.setCell ⟨bk, 0, none⟩ (.slice ao3 (nb + 1) cap3)).cell? ⟨bk, 1, none⟩ = some bo := by rw [B5.cell]; rfl
        have S5 : w3.heap.size = (w3.setCell ⟨bk, 0, none⟩ (.slice ao3 (nb + 1) cap3)).heap.size := by simp
        have LB : bk < w2.heap.size := hB3.out.lt
        have N3 : ∀ k, (Value.slice ao3 (nb + 1) cap3).ownBlock = some k → k ≠ bk ∧ bo.ownBlock ≠ some k := by
          intro k hk
          rcases hbl3 with e | e
          · exact ⟨fun e2 => HB2.out.ne1 (by rw [← e, hk, e2]), HB2.out.ne12 k (by rw [← e, hk])⟩
          · rw [hk] at e
            injection e with e
            have hs : w2.heap.size ≤ k := by rw [e]; simp
            exact ⟨by omega, fun e2 => by have := OW2.lt k e2; omega⟩
        have M3 : Moved w bs (.slice ao3 (nb + 1) cap3) := by
          rcases hbl3 with e | e
          · exact .inl e
          · refine .inr ⟨_, e, ?_⟩
            have h1 := HCA.out.size
            have h2 := D2.size
            simp
            omega
        have S3 : w2.heap.size ≤ w3.heap.size := C3.size
        have O5 := O3.kept C5 (fun k hk e => (N3 k hk).1 e)
        have SL5 : ∀ T, Sl ((w3.setCell ⟨bk, 0, none⟩ (.slice ao3 (nb + 1) cap3)).alloc (.cells #[.int .i64 ((m : Int) + 1)] T)) 1 (.slice (some ⟨w3.heap.size, 0, none⟩) 1 1) 1 [.int .i64 ((m : Int) + 1)] := by
          intro T
          have h1 := Sl.built1 (w3.setCell ⟨bk, 0, none⟩ (.slice ao3 (nb + 1) cap3)) (.int .i64 ((m : Int) + 1)) T rfl
          rw [← S5] at h1
          exact h1
        have hB5 := Lib.hid B5
        have HC3 := Lib.hid C3
        have HC5 := Lib.hid C5
        have HO5 := Lib.hid O5
        have HS5 := Lib.hid S5
        clear B4 B5 C3 C5 OW4 c0 f0 O5 S5
        go_wp2_with (first
          | ((with_reducible show wpList _ _ _ (⟨some 52, _, _, _, _, _⟩ :: _) _ _); refine wpl_append rfl (.tmp 49) (.tmp 51) 58 rfl tyII' (OW5.alloc _) (SL5 _) rfl rfl (by unfold maxLen; omega) (by omega) ?_; intro ao6 cap6 w6 O6 hgr6 hbl6; refine Shut.out ?_)
          | fail)
        show wpList _ _ _ _ _ _
        have C6 : Chg (fun k => bo.ownBlock = some k) (w3.setCell ⟨bk, 0, none⟩ (.slice ao3 (nb + 1) cap3)) w6 := ((Chg.refl (fun k => bo.ownBlock = some k) (w3.setCell ⟨bk, 0, none⟩ (.slice ao3 (nb + 1) cap3))).alloc _).grown hgr6 (fun k hk => .inr hk)
        have B6 := hB5.out.kept C6 (fun e => HB2.out.ne2 e)
        have c6 : w6.cell? ⟨bk, 1, none⟩ = some bo := by rw [B6.cell]; rfl
        have f6 := B6.free 1
        have B7 : Blk (w6.setCell ⟨bk, 1, none⟩ (.slice ao6 (nb + 1) cap6)) bk T (bookC (.slice ao3 (nb + 1) cap3) (.slice ao6 (nb + 1) cap6) ba ((m : Int) + 1) dn (us + (1200 + 3 * (l.length : Int)))) := B6.set 1 _
        have C7 : Chg (fun k => k = bk) w6 (w6.setCell ⟨bk, 1, none⟩ (.slice ao6 (nb + 1) cap6)) := Chg.setCell (Chg.refl (fun k => k = bk) w6) (.inr (show (⟨bk, 1, none⟩ : Addr).block = bk from rfl)) _
        have hB7 := Lib.hid B7
        have HC6 := Lib.hid C6
        have HC7 := Lib.hid C7
        have HO6 := Lib.hid O6
        clear B6 B7 C6 C7 O6
        go_wp2_with fail
        refine bodyPost_end (results_none rfl _ _ _) rfl ?_
        have L5 := HO5.out.lt
        have N6 : ∀ k, (Value.slice ao6 (nb + 1) cap6).ownBlock = some k → k ≠ bk ∧ (Value.slice ao3 (nb + 1) cap3).ownBlock ≠ some k := by
          intro k hk
          rcases hbl6 with e | e
          · exact ⟨fun e2 => HB2.out.ne2 (by rw [← e, hk, e2]), fun e2 => (N3 k e2).2 (by rw [← e, hk])⟩
          · rw [hk] at e
            injection e with e
            have hs : w3.heap.size ≤ k := by rw [e]; simp
            have hs2 := HS5.out
            exact ⟨by omega, fun e2 => by have := L5 k e2; omega⟩
        have M6 : Moved w bo (.slice ao6 (nb + 1) cap6) := by
          rcases hbl6 with e | e
          · exact .inl e
          · refine .inr ⟨_, e, ?_⟩
            have h1 := HCA.out.size
            have h2 := D2.size
            simp
            omega
        have CB := (((((HCA.out.trans D2 (fun x _ e => Or.inl e)).trans HC3.out (fun x _ e => .inr (.inl e))).trans HC5.out (fun x _ e => Or.inl e)).trans HC6.out (fun x _ e => .inr (.inr (.inl e)))).trans HC7.out (fun x _ e => Or.inl e))
        refine ⟨rfl, ?_, CB, .inr ⟨_, _, us + (1200 + 3 * (l.length : Int)), by have := HU.out; omega, h1, ⟨hB7.out, ?_, ?_, ?_, ?_, ?_⟩, M3, M6⟩⟩
        · exact ((((OV.kept HC3.out (fun k hk e => (HNE.out k hk).2.1 e)).kept HC5.out (fun k hk e => (HNE.out k hk).1 e)).kept HC6.out (fun k hk e => (HNE.out k hk).2.2 e)).kept HC7.out (fun k hk e => (HNE.out k hk).1 e))
        · exact (HO5.out.kept HC6.out (fun k hk e => (N3 k hk).2 e)).kept HC7.out (fun k hk e => (N3 k hk).1 e)
        · exact HO6.out.kept HC7.out (fun k hk e => (N6 k hk).1 e)
        · exact fun e => (N3 _ e).1 rfl
        · exact fun e => (N6 _ e).1 rfl
        · exact fun k hk e => (N6 k e).2 hk
end Go.Proofs.Ytnfmeaifbankjaa
