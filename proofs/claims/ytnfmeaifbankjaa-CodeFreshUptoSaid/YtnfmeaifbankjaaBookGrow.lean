import Derived.Test.YtnfmeaifbankjaaBookInv
set_option linter.unusedVariables false
namespace Go.Proofs.Ytnfmeaifbankjaa
open Go Go.RowKit Go.Sat
/-- A Book one of whose lists, g, is being grown. -/
structure BkG (w : World) (bk : Nat) (T : TypeId) (O : Nat → Prop) (xs : List En) (at_ lo hi tn dn : Nat) (g : Value) (m n : Nat) : Prop where
  ex : ∃ bs bo us, 0 ≤ us ∧ us ≤ 16777216 ∧ Bk w bk T bs bo xs.length (xs.map En.v) (xs.map fun x => .int .i64 (x.m : Int)) (at_ : Int) (tn : Int) (dn : Int) us ∧ (∀ b, b = bk ∨ bs.ownBlock = some b ∨ bo.ownBlock = some b → O b) ∧ Ents 5 w xs lo hi (Fre O bk bs bo) ∧ Gex 5 w xs lo hi (Fre O bk bs bo) g m n
theorem BkG.push {w w' : World} {bk : Nat} {T : TypeId} {O : Nat → Prop} {zs : List En} {at_ lo hi tn dn : Nat} {g : Value} {m n : Nat} {bs bo bs' bo' : Value} {us : Int}
    (hO : ∀ b, b = bk ∨ bs.ownBlock = some b ∨ bo.ownBlock = some b → O b) (E : Ents 5 w zs lo hi (Fre O bk bs bo)) (G : Gex 5 w zs lo hi (Fre O bk bs bo) g m n)
    (B : Bk w' bk T bs' bo' (zs.length + 1) (zs.map En.v ++ [g]) ((zs.map fun x => .int .i64 (x.m : Int)) ++ [.int .i64 (m : Int)]) (at_ : Int) (tn : Int) (dn : Int) us)
    (c : Chg (fun b => b = bk ∨ bs.ownBlock = some b ∨ bo.ownBlock = some b) w w') (M1 : Moved w bs bs') (M2 : Moved w bo bo') (hm : m ≤ 100000) (hn : n ≤ 10000100) (hh : hi ≤ zs.length) (h1 : 0 ≤ us) (h2 : us ≤ 16777216) (hOn : ∀ b, w.heap.size ≤ b → O b) :
    BkG w' bk T O (zs ++ [⟨g, m, n⟩]) at_ lo hi tn dn g m n := by
  have hF : ∀ b, Fre O bk bs bo b → ¬ (b = bk ∨ bs.ownBlock = some b ∨ bo.ownBlock = some b) := by
    rintro b ⟨e1, e2, e3, e4⟩ (e | e | e)
    · exact e2 e
    · exact e3 e
    · exact e4 e
  have hlt : ∀ b, Fre O bk bs bo b ∧ b < w.heap.size → Fre O bk bs' bo' b := fun b hb => ⟨hb.1.1, hb.1.2.1, M1.own hb.2 hb.1.2.2.1, M2.own hb.2 hb.1.2.2.2⟩
  have E2 : Ents 5 w' zs lo hi (Fre O bk bs' bo') :=
    ((E.wide fun b h6 h7 => (⟨h7, h6⟩ : Fre O bk bs bo b ∧ b < w.heap.size)).kept c (fun b hb => hF b hb.1)).wide fun b _ hb => hlt b hb
  have G2 : Gex 5 w' zs lo hi (Fre O bk bs' bo') g m n :=
    ((G.wide fun b h6 h7 => (⟨h7, h6⟩ : Fre O bk bs bo b ∧ b < w.heap.size)).kept c (fun b hb => hF b hb.1)).wide fun b _ hb => hlt b hb
  obtain ⟨E3, G3⟩ := G2.add E2 hm hn hh
  refine ⟨bs', bo', us, h1, h2, ?_, ?_, E3, G3⟩
  · simp only [List.map_append, List.map_cons, List.map_nil, List.length_append, List.length_cons, List.length_nil]
    exact B
  · rintro b (e | e | e)
    · exact hO b (.inl e)
    · rcases M1.occ e with e | e
      · exact hO b (.inr (.inl e))
      · exact hOn b e
    · rcases M2.occ e with e | e
      · exact hO b (.inr (.inr e))
      · exact hOn b e
theorem BkG.grow {w w' : World} {bk : Nat} {T : TypeId} {O : Nat → Prop} {zs : List En} {at_ lo hi tn dn : Nat} {g : Value} {m n g' cap : Nat} {o : Obj} (h : BkG w bk T O zs at_ lo hi tn dn g m n) (hOn : ∀ b, w.heap.size ≤ b → O b)
    (ho : Own w' 5 1 (.slice (some ⟨g', 0, none⟩) (n + 1) cap) (n + 1) (bcells (marks m (n + 1)))) (hg : g.ownBlock = some g' ∧ (w.alloc o).grownBy w' (some g') ∨ g' = (w.alloc o).heap.size ∧ (w.alloc o).grownBy w' none) :
    BkG w' bk T O zs at_ lo hi tn dn (.slice (some ⟨g', 0, none⟩) (n + 1) cap) m (n + 1) ∧ Chg O w w' := by
  obtain ⟨bs, bo, us, h1, h2, h3, h4, h5, h6⟩ := h.ex
  have ca : Chg (fun _ => False) w (w.alloc o) := (Chg.refl (fun _ => False) w).alloc o
  have hN : Fre O bk bs bo (w.alloc o).heap.size := by
    have hw : w.heap.size ≤ (w.alloc o).heap.size := ca.size
    have hb := h3.blk.lt
    refine ⟨hOn _ hw, by omega, fun e => ?_, fun e => ?_⟩
    · have := h3.own1.lt _ e; omega
    · have := h3.own2.lt _ e; omega
  obtain ⟨E, G⟩ := (h6.kept ca (fun _ _ => id)).grow (h5.kept ca (fun _ _ => id)) hN ho hg
  have c : Chg (fun b => b = g' ∧ (w.alloc o).heap.size ≠ g') (w.alloc o) w' := by
    rcases hg with ⟨e, hg⟩ | ⟨e, hg⟩
    · refine Chg.of_grown hg fun k hk hlt => ?_
      injection hk with hk
      exact ⟨hk.symm, by omega⟩
    · exact Chg.of_grown hg fun k hk => by cases hk
  have hg' : (w.alloc o).heap.size ≠ g' → Fre O bk bs bo g' := by
    intro hne
    rcases hg with ⟨e, _⟩ | ⟨e, _⟩
    · exact (h6.far g' e).1
    · exact absurd e.symm hne
  have c2 : Chg (fun b => b = g' ∧ (w.alloc o).heap.size ≠ g') w w' := (ca.mono fun x _ e => e.elim).trans c fun _ _ e => e
  refine ⟨⟨bs, bo, us, h1, h2, h3.kept c2 ?_ ?_ ?_, h4, E, G⟩, c2.mono fun x _ e => by rw [e.1]; exact (hg' e.2).1⟩
  · rintro ⟨e1, e2⟩; exact (hg' e2).2.1 e1.symm
  · rintro k hk ⟨e1, e2⟩; exact (hg' e2).2.2.1 (by rw [hk, e1])
  · rintro k hk ⟨e1, e2⟩; exact (hg' e2).2.2.2 (by rw [hk, e1])
theorem Own.at1 {w : World} {e : TypeId} {v : Value} {n i : Nat} {ys : List Value} {u : Value} (h : Own w e 1 v n ys) (hu : ys[i]? = some u) : ∃ B c, v = .slice (some ⟨B, 0, none⟩) n c ∧ w.cell? ⟨B, i, none⟩ = some u ∧ i < n := by
  have hi := get_lt hu
  have hl : ys.length = n := by simpa using h.1
  obtain ⟨ao, c, rfl, _⟩ := h.form
  obtain ⟨B, rfl, _⟩ := h.addr (by omega)
  refine ⟨B, c, rfl, ?_, by omega⟩
  have := World.ownsRow.cells h rfl i u hu
  rwa [addr_add, Nat.zero_add] at this
theorem BkI.start {w : World} {bk : Nat} {T : TypeId} {O : Nat → Prop} {xs : List En} {at_ lo hi tn dn : Nat} (h : BkI w bk T O xs at_ lo hi tn dn) (hlt : lo < hi) {x : En} (hx : xs[lo]? = some x) : BkG w bk T O xs at_ (lo + 1) hi tn dn x.v x.m x.n := by
  obtain ⟨bs, bo, us, h1, h2, h3, h4, h5⟩ := h.ex
  obtain ⟨E, G⟩ := h5.start hlt hx
  exact ⟨bs, bo, us, h1, h2, h3, h4, E, G⟩
theorem BkG.end {w : World} {bk : Nat} {T : TypeId} {O : Nat → Prop} {xs : List En} {at_ lo hi tn dn : Nat} {g : Value} {m n : Nat} (h : BkG w bk T O xs at_ lo hi tn dn g m n) : BkI w bk T O xs at_ lo hi tn dn := by
  obtain ⟨bs, bo, us, h1, h2, h3, h4, E, G⟩ := h.ex
  exact ⟨bs, bo, us, h1, h2, h3, h4, E⟩
/-- So many entries come of one list while it grows to its i-th. -/
def cnt (i : Nat) : Nat := min (i - 1) 3 + (i - 1) / 16

set_option maxRecDepth 100000 in
set_option maxHeartbeats 3200000 in
theorem growBytes_any (bk : Nat) (T : TypeId) (O : Nat → Prop) (xs : List En) (lo tn dn : Nat) (w : World) (h : BkI w bk T O xs lo lo xs.length tn dn) (htn : tn ≤ 9000) (hlo : lo ≤ xs.length) (hc : xs.length + 9 * (xs.length - lo) ≤ 10 * tn) :
    Calls Try.prog 60 #[.pointer (some ⟨bk, 0, none⟩)] w fun e w' => e = .returned (.tuple #[]) ∧ ∃ xs', BkI w' bk T (fun b => O b ∨ w.heap.size ≤ b) xs' xs'.length xs'.length xs'.length tn dn ∧ Chg O w w' ∧ xs'.length ≤ 10 * tn := by
  obtain ⟨bs, bo, us, h1, h2, h3, h4, h5⟩ := h.ex
  obtain ⟨ba, bc, rfl, _⟩ := h3.own1.form
  have c0 : w.cell? ⟨bk, 0, none⟩ = some (.slice ba xs.length bc) := by rw [h3.blk.cell]; rfl
  have c2 : w.cell? ⟨bk, 2, none⟩ = some (.int .i64 (lo : Int)) := by rw [h3.blk.cell]; rfl
  have H0 : BkI w bk T (fun b => O b ∨ w.heap.size ≤ b) xs lo lo xs.length tn dn := h.wide fun b hb => .inl hb
  have H := Lib.hid H0
  clear H0
  generalize hN : xs.length = N at *
  clear h h1 h2 h3 h4 h5
  go_enter Try.func60, Try.ntmps60
  go_wp2_with fail
  go_loopw [3] (fun s3 wr => ∃ (kk : Nat) (ys : List En), lo ≤ kk ∧ kk ≤ N ∧ s3 = .int .i64 (kk : Int) ∧ ys.length = N + 9 * (kk - lo) ∧ BkI wr bk T (fun b => O b ∨ w.heap.size ≤ b) ys lo kk N tn dn ∧ Chg (fun b => O b ∨ w.heap.size ≤ b) w wr) (fun s3 _ => N - (intOf s3).toNat)
  case atStart => exact ⟨lo, xs, by omega, by omega, rfl, by omega, H.out, Chg.refl _ _⟩
  case round =>
    obtain ⟨kk, ys, hk1, hk2, rfl, hyl, I, C⟩ := hrel
    have HI := Lib.hid I
    have HC := Lib.hid C
    clear I C c0 c2 H
    by_cases hlt : kk < N
    · have hq : decide ((kk : Int) < (N : Int)) = true := by simp; omega
      obtain ⟨x, hx⟩ : ∃ x, ys[kk]? = some x := ⟨_, List.getElem?_eq_getElem (by omega)⟩
      obtain ⟨bs, bo, us, hu1, hu2, hB, hO, hE⟩ := HI.out.ex
      have hxb := hE.rd kk x hx
      have hxn := (hE.own kk x hx (Nat.le_refl _) hlt).2.1
      obtain ⟨Bs, bsc, rfl, cs, _⟩ := Own.at1 (i := kk) (u := x.v) hB.own1 (by simp [hx])
      obtain ⟨Bo, boc, rfl, co, _⟩ := Own.at1 (i := kk) (u := .int .i64 (x.m : Int)) hB.own2 (by simp [hx])
      have c0 : wr.cell? ⟨bk, 0, none⟩ = some (.slice (some ⟨Bs, 0, none⟩) ys.length bsc) := by rw [hB.blk.cell]; rfl
      have c1 : wr.cell? ⟨bk, 1, none⟩ = some (.slice (some ⟨Bo, 0, none⟩) ys.length boc) := by rw [hB.blk.cell]; rfl
      obtain ⟨hxr, hxf, hxm, _⟩ := hxb
      obtain ⟨xa, xc, hxv, _⟩ := hxr.form
      rw [marks_len] at hxv
      have HX := Lib.hid hx
      have hky : kk < ys.length := by omega
      clear hB hO hE hxr hxf hx
      go_wp2_with fail
      have G0 := HI.out.start hlt HX.out
      have HG0 := Lib.hid G0
      clear G0
      generalize hxv2 : x.v = xv at *
      generalize hxm2 : x.m = mv at *
      generalize hxn2 : x.n = nv at *
      subst hxv
      clear cs co c0 c1
      generalize hwo : wr = wo at *
      clear hwo wr
      go_loopw [4, 6] (fun s4 s6 wr => ∃ (i : Nat) (zs : List En), 1 ≤ i ∧ i ≤ 97 ∧ s6 = .int .i64 (i : Int) ∧ zs.length = ys.length + cnt i ∧ BkG wr bk T (fun b => O b ∨ w.heap.size ≤ b) zs lo (kk + 1) N tn dn s4 mv (nv + (i - 1)) ∧ Chg (fun b => O b ∨ w.heap.size ≤ b) wo wr) (fun _ s6 _ => 97 - (intOf s6).toNat)
      case atStart => exact ⟨1, ys, by omega, by omega, rfl, by simp [cnt], HG0.out, Chg.refl _ _⟩
      case round =>
        obtain ⟨i, zs, hi1, hi2, rfl, hzl, G, C2⟩ := hrel
        have HG0' := HG0
        clear HG0
        by_cases hi : i ≤ 96
        · have hqi : decide ((i : Int) ≤ 96) = true := by simp; omega
          obtain ⟨bs, bo, us, hu1, hu2, hB, hO, hE, hG⟩ := G.ex
          have hOw := hG.own
          obtain ⟨ga, gc, rfl, _⟩ := hOw.form
          have HGG := Lib.hid G
          have HC2 := Lib.hid C2
          have HOw := Lib.hid hOw
          clear G C2 hB hO hE hG hOw hu1 hu2
          clear bs bo us
          generalize hnn : nv + (i - 1) = nn at *
          have hnn' : nn ≤ 10000096 := by omega
          go_wp2_with fail
          (refine (at_any mv nn wr (by omega) (by omega)).mono ?_; rintro e w' ⟨rfl, hww⟩; rw [← hww]; clear hww w')
          have HOn0 : ∀ b, wr.heap.size ≤ b → O b ∨ w.heap.size ≤ b := fun b hb => .inr (by have h1 := HC.out.size; have h2 := HC2.out.size; omega)
          have HOn := Lib.hid HOn0
          clear HOn0
          go_wp2_with (first
            | ((with_reducible show wpList _ _ _ (⟨some 45, _, _, _, _, _⟩ :: _) _ _); refine wpl_append_kind rfl (.tmp 39) (.tmp 44) 22 rfl tyBytes (HOw.out.alloc _) (Sl.built1 _ _ _ rfl) rfl rfl (by unfold maxLen; omega) (by omega) ?_; intro g1 cap1 w1 O1 hk1; refine Shut.out ?_)
            | fail)
          show wpList _ _ _ _ _ _
          have O1' : Own w1 5 1 (.slice (some ⟨g1, 0, none⟩) (nn + 1) cap1) (nn + 1) (bcells (marks mv (nn + 1))) := by
            rw [marks_succ, bcells_append]
            exact O1
          obtain ⟨G1, C1⟩ := HGG.out.grow HOn.out O1' hk1
          have HG1 := Lib.hid G1
          have CA := HC2.out.trans C1 fun _ _ e => e
          have HCA := Lib.hid CA
          have HOn2 : RowKit.Hid (∀ b, w1.heap.size ≤ b → O b ∨ w.heap.size ≤ b) := by
            have h0 : ∀ b, w1.heap.size ≤ b → O b ∨ w.heap.size ≤ b := fun b hb => .inr (by have h1 := HC.out.size; have h2 := HCA.out.size; omega)
            exact Lib.hid h0
          clear G1 C1 CA O1 O1' hk1 HGG HC2 HOw HOn
          have hcnt : cnt (i + 1) = cnt i + (if i < 4 then 1 else 0) + (if i % 16 = 0 then 1 else 0) := by
            unfold cnt
            split <;> split <;> omega
          have hcb : cnt i ≤ 9 := by unfold cnt; omega
          have hnn1 : nv + (i + 1 - 1) = nn + 1 := by omega
          have Hcnt := Lib.hid hcnt
          have Hnn1 := Lib.hid hnn1
          clear hcnt hnn1
          by_cases h4 : i < 4
          · have hd4 : decide ((i : Int) < 4) = true := by simp; omega
            have hc1 : cnt (i + 1) = cnt i + 1 := by rw [Hcnt.out, if_pos h4, if_neg (by omega)]
            have Hc1 := Lib.hid hc1
            clear hc1
            obtain ⟨bs, bo, us, hu1, hu2, hB, hO, hE, hG⟩ := HG1.out.ex
            generalize hnb : zs.length = nb at *
            have HB := Lib.hid hB
            have HBO := Lib.hid hO
            have HE := Lib.hid hE
            have HG := Lib.hid hG
            have hnb9 : nb ≤ 99000 := by omega
            have hnbN : N ≤ nb := by omega
            have Hzl := Lib.hid hzl
            clear hB hO hE hG hzl
            have OW1 := HB.out.own1
            have OW2 := HB.out.own2
            have c0 : w1.cell? ⟨bk, 0, none⟩ = some bs := by rw [HB.out.blk.cell]; rfl
            have f0 := HB.out.blk.free 0
            go_wp2_with (first
              | ((with_reducible show wpList _ _ _ (⟨some 60, _, _, _, _, _⟩ :: _) _ _); refine wpl_append rfl (.tmp 57) (.tmp 59) 40 rfl tyBB' (OW1.alloc _) (Sl.built1 _ _ _ rfl) rfl rfl (by unfold maxLen; omega) (by omega) ?_; intro ao3 cap3 w3 O3 hgr3 hbl3; refine Shut.out ?_)
              | fail)
            show wpList _ _ _ _ _ _
            have C3 : Chg (fun k => bs.ownBlock = some k) w1 w3 := ((Chg.refl (fun k => bs.ownBlock = some k) w1).alloc _).grown hgr3 (fun k hk => .inr hk)
            have B4 := HB.out.blk.kept C3 (fun e => HB.out.ne1 e)
            have c4 : w3.cell? ⟨bk, 0, none⟩ = some bs := by rw [B4.cell]; rfl
            have f4 := B4.free 0
            have OW4 := OW2.kept C3 (fun k hk e => HB.out.ne12 k e hk)
            have B5 : Blk (w3.setCell ⟨bk, 0, none⟩ (.slice ao3 (nb + 1) cap3)) bk T (bookC (.slice ao3 (nb + 1) cap3) bo (lo : Int) (tn : Int) (dn : Int) us) := B4.set 0 _
            have C5 : Chg (fun k => k = bk) w3 (w3.setCell ⟨bk, 0, none⟩ (.slice ao3 (nb + 1) cap3)) := Chg.setCell (Chg.refl (fun k => k = bk) w3) (.inr (show (⟨bk, 0, none⟩ : Addr).block = bk from rfl)) _
            have OW5 := OW4.kept C5 (fun k hk e => HB.out.ne2 (by rw [hk, e]))
            have c5 : (w3.setCell ⟨bk, 0, none⟩ (.slice ao3 (nb + 1) cap3)).cell? ⟨bk, 1, none⟩ = some bo := by rw [B5.cell]; rfl
            have LB : bk < w1.heap.size := HB.out.blk.lt
            have N3 : ∀ k, (Value.slice ao3 (nb + 1) cap3).ownBlock = some k → k ≠ bk ∧ bo.ownBlock ≠ some k := by
              intro k hk
              rcases hbl3 with e | e
              · exact ⟨fun e2 => HB.out.ne1 (by rw [← e, hk, e2]), HB.out.ne12 k (by rw [← e, hk])⟩
              · rw [hk] at e
                injection e with e
                have hs : w1.heap.size ≤ k := by rw [e]; simp
                exact ⟨by omega, fun e2 => by have := OW2.lt k e2; omega⟩
            have M3 : Moved w1 bs (.slice ao3 (nb + 1) cap3) := by
              rcases hbl3 with e | e
              · exact .inl e
              · refine .inr ⟨_, e, ?_⟩
                simp
            have S3 : w1.heap.size ≤ w3.heap.size := C3.size
            have O5 := O3.kept C5 (fun k hk e => (N3 k hk).1 e)
            have S5 : w3.heap.size = (w3.setCell ⟨bk, 0, none⟩ (.slice ao3 (nb + 1) cap3)).heap.size := by simp
            have SL5 : ∀ T, Sl ((w3.setCell ⟨bk, 0, none⟩ (.slice ao3 (nb + 1) cap3)).alloc (.cells #[.int .i64 (mv : Int)] T)) 1 (.slice (some ⟨w3.heap.size, 0, none⟩) 1 1) 1 [.int .i64 (mv : Int)] := by
              intro T
              have h1 := Sl.built1 (w3.setCell ⟨bk, 0, none⟩ (.slice ao3 (nb + 1) cap3)) (.int .i64 (mv : Int)) T rfl
              rw [← S5] at h1
              exact h1
            have hB5 := Lib.hid B5
            have HC3 := Lib.hid C3
            have HC5 := Lib.hid C5
            have HO5 := Lib.hid O5
            have HS5 := Lib.hid S5
            clear B4 B5 C3 C5 OW4 c0 f0 O5 S5
            go_wp2_with (first
              | ((with_reducible show wpList _ _ _ (⟨some 70, _, _, _, _, _⟩ :: _) _ _); refine wpl_append rfl (.tmp 67) (.tmp 69) 58 rfl tyII' (OW5.alloc _) (SL5 _) rfl rfl (by unfold maxLen; omega) (by omega) ?_; intro ao6 cap6 w6 O6 hgr6 hbl6; refine Shut.out ?_)
              | fail)
            show wpList _ _ _ _ _ _
            have C6 : Chg (fun k => bo.ownBlock = some k) (w3.setCell ⟨bk, 0, none⟩ (.slice ao3 (nb + 1) cap3)) w6 := ((Chg.refl (fun k => bo.ownBlock = some k) (w3.setCell ⟨bk, 0, none⟩ (.slice ao3 (nb + 1) cap3))).alloc _).grown hgr6 (fun k hk => .inr hk)
            have B6 := hB5.out.kept C6 (fun e => HB.out.ne2 e)
            have c6 : w6.cell? ⟨bk, 1, none⟩ = some bo := by rw [B6.cell]; rfl
            have f6 := B6.free 1
            have B7 : Blk (w6.setCell ⟨bk, 1, none⟩ (.slice ao6 (nb + 1) cap6)) bk T (bookC (.slice ao3 (nb + 1) cap3) (.slice ao6 (nb + 1) cap6) (lo : Int) (tn : Int) (dn : Int) us) := B6.set 1 _
            have C7 : Chg (fun k => k = bk) w6 (w6.setCell ⟨bk, 1, none⟩ (.slice ao6 (nb + 1) cap6)) := Chg.setCell (Chg.refl (fun k => k = bk) w6) (.inr (show (⟨bk, 1, none⟩ : Addr).block = bk from rfl)) _
            have L5 := HO5.out.lt
            have N6 : ∀ k, (Value.slice ao6 (nb + 1) cap6).ownBlock = some k → k ≠ bk ∧ (Value.slice ao3 (nb + 1) cap3).ownBlock ≠ some k := by
              intro k hk
              rcases hbl6 with e | e
              · exact ⟨fun e2 => HB.out.ne2 (by rw [← e, hk, e2]), fun e2 => (N3 k e2).2 (by rw [← e, hk])⟩
              · rw [hk] at e
                injection e with e
                have hs : w3.heap.size ≤ k := by rw [e]; simp
                have hs2 := HS5.out
                exact ⟨by omega, fun e2 => by have := L5 k e2; omega⟩
            have M6 : Moved w1 bo (.slice ao6 (nb + 1) cap6) := by
              rcases hbl6 with e | e
              · exact .inl e
              · refine .inr ⟨_, e, ?_⟩
                simp
                omega
            have CB : Chg (fun b => b = bk ∨ bs.ownBlock = some b ∨ bo.ownBlock = some b) w1 (w6.setCell ⟨bk, 1, none⟩ (.slice ao6 (nb + 1) cap6)) :=
              (((HC3.out.mono (fun x _ e => .inr (.inl e))).trans HC5.out (fun x _ e => Or.inl e)).trans C6 (fun x _ e => .inr (.inr e))).trans C7 (fun x _ e => Or.inl e)
            have BK : Bk (w6.setCell ⟨bk, 1, none⟩ (.slice ao6 (nb + 1) cap6)) bk T (.slice ao3 (nb + 1) cap3) (.slice ao6 (nb + 1) cap6) (nb + 1) (zs.map En.v ++ [.slice (some ⟨g1, 0, none⟩) (nn + 1) cap1]) ((zs.map fun x => .int .i64 (x.m : Int)) ++ [.int .i64 (mv : Int)]) (lo : Int) (tn : Int) (dn : Int) us :=
              ⟨B7, (HO5.out.kept C6 (fun k hk e => (N3 k hk).2 e)).kept C7 (fun k hk e => (N3 k hk).1 e), O6.kept C7 (fun k hk e => (N6 k hk).1 e), fun e => (N3 _ e).1 rfl, fun e => (N6 _ e).1 rfl, fun k hk e => (N6 k e).2 hk⟩
            have HBG := Lib.hid (BkG.push HBO.out HE.out HG.out (by rw [hnb]; exact BK) CB M3 M6 hxm (by omega) (by omega) hu1 hu2 HOn2.out)
            have HCB := Lib.hid CB
            clear BK CB M3 M6 C6 C7 B6 B7 O6 O3 hgr3 hgr6 hbl3 hbl6 N3 N6 L5 SL5 OW1 OW2 OW5
            go_wp2_with fail
            go_roundw
            case rel => exact ⟨i + 1, zs ++ [⟨.slice (some ⟨g1, 0, none⟩) (nn + 1) cap1, mv, nn + 1⟩], by omega, by omega, by go_num, by have h9 := Hzl.out; rw [Hc1.out, List.length_append, hnb]; simp only [List.length_cons, List.length_nil]; omega, by rw [Hnn1.out]; exact HBG.out, HCA.out.trans HCB.out fun x _ e => by rcases e with e | e | e <;> first | exact HBO.out _ (.inl e) | exact HBO.out _ (.inr (.inl e)) | exact HBO.out _ (.inr (.inr e))⟩
            case measure => simp [intOf]; omega
          · have hd4 : decide ((i : Int) < 4) = false := by simp; omega
            by_cases h16 : i % 16 = 0
            · have hd16 : ((i : Int) % 16 == 0) = true := by simp; omega
              have hc1 : cnt (i + 1) = cnt i + 1 := by rw [Hcnt.out, if_neg h4, if_pos h16]
              have Hc1 := Lib.hid hc1
              clear hc1 h16
              obtain ⟨bs, bo, us, hu1, hu2, hB, hO, hE, hG⟩ := HG1.out.ex
              generalize hnb : zs.length = nb at *
              have HB := Lib.hid hB
              have HBO := Lib.hid hO
              have HE := Lib.hid hE
              have HG := Lib.hid hG
              have hnb9 : nb ≤ 99000 := by omega
              have hnbN : N ≤ nb := by omega
              have Hzl := Lib.hid hzl
              clear hB hO hE hG hzl
              have OW1 := HB.out.own1
              have OW2 := HB.out.own2
              have c0 : w1.cell? ⟨bk, 0, none⟩ = some bs := by rw [HB.out.blk.cell]; rfl
              have f0 := HB.out.blk.free 0
              go_wp2_with (first
                | ((with_reducible show wpList _ _ _ (⟨some 60, _, _, _, _, _⟩ :: _) _ _); refine wpl_append rfl (.tmp 57) (.tmp 59) 40 rfl tyBB' (OW1.alloc _) (Sl.built1 _ _ _ rfl) rfl rfl (by unfold maxLen; omega) (by omega) ?_; intro ao3 cap3 w3 O3 hgr3 hbl3; refine Shut.out ?_)
                | fail)
              show wpList _ _ _ _ _ _
              have C3 : Chg (fun k => bs.ownBlock = some k) w1 w3 := ((Chg.refl (fun k => bs.ownBlock = some k) w1).alloc _).grown hgr3 (fun k hk => .inr hk)
              have B4 := HB.out.blk.kept C3 (fun e => HB.out.ne1 e)
              have c4 : w3.cell? ⟨bk, 0, none⟩ = some bs := by rw [B4.cell]; rfl
              have f4 := B4.free 0
              have OW4 := OW2.kept C3 (fun k hk e => HB.out.ne12 k e hk)
              have B5 : Blk (w3.setCell ⟨bk, 0, none⟩ (.slice ao3 (nb + 1) cap3)) bk T (bookC (.slice ao3 (nb + 1) cap3) bo (lo : Int) (tn : Int) (dn : Int) us) := B4.set 0 _
              have C5 : Chg (fun k => k = bk) w3 (w3.setCell ⟨bk, 0, none⟩ (.slice ao3 (nb + 1) cap3)) := Chg.setCell (Chg.refl (fun k => k = bk) w3) (.inr (show (⟨bk, 0, none⟩ : Addr).block = bk from rfl)) _
              have OW5 := OW4.kept C5 (fun k hk e => HB.out.ne2 (by rw [hk, e]))
              have c5 : (w3.setCell ⟨bk, 0, none⟩ (.slice ao3 (nb + 1) cap3)).cell? ⟨bk, 1, none⟩ = some bo := by rw [B5.cell]; rfl
              have LB : bk < w1.heap.size := HB.out.blk.lt
              have N3 : ∀ k, (Value.slice ao3 (nb + 1) cap3).ownBlock = some k → k ≠ bk ∧ bo.ownBlock ≠ some k := by
                intro k hk
                rcases hbl3 with e | e
                · exact ⟨fun e2 => HB.out.ne1 (by rw [← e, hk, e2]), HB.out.ne12 k (by rw [← e, hk])⟩
                · rw [hk] at e
                  injection e with e
                  have hs : w1.heap.size ≤ k := by rw [e]; simp
                  exact ⟨by omega, fun e2 => by have := OW2.lt k e2; omega⟩
              have M3 : Moved w1 bs (.slice ao3 (nb + 1) cap3) := by
                rcases hbl3 with e | e
                · exact .inl e
                · refine .inr ⟨_, e, ?_⟩
                  simp
              have S3 : w1.heap.size ≤ w3.heap.size := C3.size
              have O5 := O3.kept C5 (fun k hk e => (N3 k hk).1 e)
              have S5 : w3.heap.size = (w3.setCell ⟨bk, 0, none⟩ (.slice ao3 (nb + 1) cap3)).heap.size := by simp
              have SL5 : ∀ T, Sl ((w3.setCell ⟨bk, 0, none⟩ (.slice ao3 (nb + 1) cap3)).alloc (.cells #[.int .i64 (mv : Int)] T)) 1 (.slice (some ⟨w3.heap.size, 0, none⟩) 1 1) 1 [.int .i64 (mv : Int)] := by
                intro T
                have h1 := Sl.built1 (w3.setCell ⟨bk, 0, none⟩ (.slice ao3 (nb + 1) cap3)) (.int .i64 (mv : Int)) T rfl
                rw [← S5] at h1
                exact h1
              have hB5 := Lib.hid B5
              have HC3 := Lib.hid C3
              have HC5 := Lib.hid C5
              have HO5 := Lib.hid O5
              have HS5 := Lib.hid S5
              clear B4 B5 C3 C5 OW4 c0 f0 O5 S5
              go_wp2_with (first
                | ((with_reducible show wpList _ _ _ (⟨some 70, _, _, _, _, _⟩ :: _) _ _); refine wpl_append rfl (.tmp 67) (.tmp 69) 58 rfl tyII' (OW5.alloc _) (SL5 _) rfl rfl (by unfold maxLen; omega) (by omega) ?_; intro ao6 cap6 w6 O6 hgr6 hbl6; refine Shut.out ?_)
                | fail)
              show wpList _ _ _ _ _ _
              have C6 : Chg (fun k => bo.ownBlock = some k) (w3.setCell ⟨bk, 0, none⟩ (.slice ao3 (nb + 1) cap3)) w6 := ((Chg.refl (fun k => bo.ownBlock = some k) (w3.setCell ⟨bk, 0, none⟩ (.slice ao3 (nb + 1) cap3))).alloc _).grown hgr6 (fun k hk => .inr hk)
              have B6 := hB5.out.kept C6 (fun e => HB.out.ne2 e)
              have c6 : w6.cell? ⟨bk, 1, none⟩ = some bo := by rw [B6.cell]; rfl
              have f6 := B6.free 1
              have B7 : Blk (w6.setCell ⟨bk, 1, none⟩ (.slice ao6 (nb + 1) cap6)) bk T (bookC (.slice ao3 (nb + 1) cap3) (.slice ao6 (nb + 1) cap6) (lo : Int) (tn : Int) (dn : Int) us) := B6.set 1 _
              have C7 : Chg (fun k => k = bk) w6 (w6.setCell ⟨bk, 1, none⟩ (.slice ao6 (nb + 1) cap6)) := Chg.setCell (Chg.refl (fun k => k = bk) w6) (.inr (show (⟨bk, 1, none⟩ : Addr).block = bk from rfl)) _
              have L5 := HO5.out.lt
              have N6 : ∀ k, (Value.slice ao6 (nb + 1) cap6).ownBlock = some k → k ≠ bk ∧ (Value.slice ao3 (nb + 1) cap3).ownBlock ≠ some k := by
                intro k hk
                rcases hbl6 with e | e
                · exact ⟨fun e2 => HB.out.ne2 (by rw [← e, hk, e2]), fun e2 => (N3 k e2).2 (by rw [← e, hk])⟩
                · rw [hk] at e
                  injection e with e
                  have hs : w3.heap.size ≤ k := by rw [e]; simp
                  have hs2 := HS5.out
                  exact ⟨by omega, fun e2 => by have := L5 k e2; omega⟩
              have M6 : Moved w1 bo (.slice ao6 (nb + 1) cap6) := by
                rcases hbl6 with e | e
                · exact .inl e
                · refine .inr ⟨_, e, ?_⟩
                  simp
                  omega
              have CB : Chg (fun b => b = bk ∨ bs.ownBlock = some b ∨ bo.ownBlock = some b) w1 (w6.setCell ⟨bk, 1, none⟩ (.slice ao6 (nb + 1) cap6)) :=
                (((HC3.out.mono (fun x _ e => .inr (.inl e))).trans HC5.out (fun x _ e => Or.inl e)).trans C6 (fun x _ e => .inr (.inr e))).trans C7 (fun x _ e => Or.inl e)
              have BK : Bk (w6.setCell ⟨bk, 1, none⟩ (.slice ao6 (nb + 1) cap6)) bk T (.slice ao3 (nb + 1) cap3) (.slice ao6 (nb + 1) cap6) (nb + 1) (zs.map En.v ++ [.slice (some ⟨g1, 0, none⟩) (nn + 1) cap1]) ((zs.map fun x => .int .i64 (x.m : Int)) ++ [.int .i64 (mv : Int)]) (lo : Int) (tn : Int) (dn : Int) us :=
                ⟨B7, (HO5.out.kept C6 (fun k hk e => (N3 k hk).2 e)).kept C7 (fun k hk e => (N3 k hk).1 e), O6.kept C7 (fun k hk e => (N6 k hk).1 e), fun e => (N3 _ e).1 rfl, fun e => (N6 _ e).1 rfl, fun k hk e => (N6 k e).2 hk⟩
              have HBG := Lib.hid (BkG.push HBO.out HE.out HG.out (by rw [hnb]; exact BK) CB M3 M6 hxm (by omega) (by omega) hu1 hu2 HOn2.out)
              have HCB := Lib.hid CB
              clear BK CB M3 M6 C6 C7 B6 B7 O6 O3 hgr3 hgr6 hbl3 hbl6 N3 N6 L5 SL5 OW1 OW2 OW5
              go_wp2_with fail
              go_roundw
              case rel => exact ⟨i + 1, zs ++ [⟨.slice (some ⟨g1, 0, none⟩) (nn + 1) cap1, mv, nn + 1⟩], by omega, by omega, by go_num, by have h9 := Hzl.out; rw [Hc1.out, List.length_append, hnb]; simp only [List.length_cons, List.length_nil]; omega, by rw [Hnn1.out]; exact HBG.out, HCA.out.trans HCB.out fun x _ e => by rcases e with e | e | e <;> first | exact HBO.out _ (.inl e) | exact HBO.out _ (.inr (.inl e)) | exact HBO.out _ (.inr (.inr e))⟩
              case measure => simp [intOf]; omega
            · have hd16 : ((i : Int) % 16 == 0) = false := beq_eq_false_iff_ne.2 (by omega)
              have hc1 : cnt (i + 1) = cnt i := by rw [Hcnt.out, if_neg h4, if_neg h16]; omega
              have Hc1 := Lib.hid hc1
              clear hc1 h16
              go_wp2_with fail
              go_roundw
              case rel => exact ⟨i + 1, zs, by omega, by omega, by go_num, by rw [Hc1.out]; exact hzl, by rw [Hnn1.out]; exact HG1.out, HCA.out⟩
              case measure => simp [intOf]; omega
        · have hqi : decide ((i : Int) ≤ 96) = false := by simp; omega
          obtain rfl : i = 97 := by omega
          have HGE := Lib.hid G.end
          have HCE := Lib.hid (HC.out.trans C2 fun _ _ e => e)
          have Hzl := Lib.hid hzl
          have Hyl := Lib.hid hyl
          clear G C2 hi hi1 hi2 HG0' hzl hyl
          go_wp2_with fail
          go_roundw
          case rel => exact ⟨kk + 1, zs, by omega, by omega, by go_num, by have h1 := Hzl.out; have h2 := Hyl.out; have h3 : cnt 97 = 9 := (by decide); omega, HGE.out, HCE.out⟩
          case measure => simp [intOf]; omega
    · have hq : decide ((kk : Int) < (N : Int)) = false := by simp; omega
      obtain rfl : kk = N := by omega
      obtain ⟨bs, bo, us, hu1, hu2, hB, hO, hE⟩ := HI.out.ex
      obtain ⟨ba2, bc2, rfl, _⟩ := hB.own1.form
      have c0 : wr.cell? ⟨bk, 0, none⟩ = some (.slice ba2 ys.length bc2) := by rw [hB.blk.cell]; rfl
      have c2 : wr.cell? ⟨bk, 2, none⟩ = some (.int .i64 (lo : Int)) := by rw [hB.blk.cell]; rfl
      have f2 := hB.blk.free 2
      have hset := hB.blk.set 2 (.int .i64 (ys.length : Int))
      have HB := Lib.hid hB
      have HE := Lib.hid hE
      have HO := Lib.hid hO
      have HS := Lib.hid hset
      have Hyl := Lib.hid hyl
      have hyb : ys.length ≤ 90000 := by omega
      have hyc : ys.length ≤ 10 * tn := by omega
      clear hB hE hO hset hyl hlt hk2
      generalize hY : ys.length = Y at *
      go_wp2_with fail
      refine bodyPost_end (results_none rfl _ _ _) rfl ?_
      have C3 : Chg (fun k => k = bk) wr (wr.setCell ⟨bk, 2, none⟩ (.int .i64 (Y : Int))) := Chg.setCell (Chg.refl (fun k => k = bk) wr) (.inr (show (⟨bk, 2, none⟩ : Addr).block = bk from rfl)) _
      refine ⟨rfl, ys, ?_, ?_, by rw [hY]; exact hyc⟩
      · rw [hY]
        refine ⟨_, bo, us, hu1, hu2, ⟨?_, by rw [hY]; exact HB.out.own1.kept C3 (fun k hk e => HB.out.ne1 (by rw [hk, e])), by rw [hY]; exact HB.out.own2.kept C3 (fun k hk e => HB.out.ne2 (by rw [hk, e])), HB.out.ne1, HB.out.ne2, HB.out.ne12⟩, HO.out, ?_⟩
        · exact HS.out
        · have E := HE.out.kept C3 (fun b hb => hb.2.1)
          exact ⟨E.rd, fun i x hx h1 h2 => by omega⟩
      · refine (HC.out.trans C3 (fun x _ e => ?_)).mono fun x hx e => ?_
        · rw [e]; exact HO.out _ (.inl rfl)
        · rcases e with e | e
          · exact e
          · omega
end Go.Proofs.Ytnfmeaifbankjaa
