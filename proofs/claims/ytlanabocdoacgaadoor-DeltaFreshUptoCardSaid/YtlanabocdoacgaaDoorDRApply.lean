import Derived.Test.YtlanabocdoacgaaDoorDPieces
set_option linter.unusedVariables false
namespace Go.Sat
open Go Go.RowKit
theorem Own.cellAt {w : World} {e : TypeId} {sz g n c : Nat} {xs : List Value} (h : Own w e sz (.slice (some ⟨g, 0, none⟩) n c) n xs) {j : Nat} {u : Value} (hu : xs[j]? = some u) : w.cell? ⟨g, j, none⟩ = some u := by
  have := World.ownsRow.cells h rfl j u hu
  rwa [addr_add, Nat.zero_add] at this
theorem goR_err (base : Nat) : ∀ (f : Nat) (s : RS) (room : Nat) (acc : List Pc) (e : Nat) (t : RS), goR base f s room acc = (.inl e, t) → e ≤ 73
  | 0, s, room, acc, e, t, h => by simp [goR] at h
  | f + 1, s, room, acc, e, t, h => by
    unfold goR at h
    split at h
    · simp at h
    · split at h
      · rename_i e' t' ho
        have := oneR_bad ho
        simp at h
        omega
      · exact goR_err base f _ _ _ e t h
theorem pcsR_err (base : Nat) (d : List UInt8) : (pcsR base d).2.2 ≤ 73 := by
  unfold pcsR
  simp only
  split
  · decide
  · split
    · decide
    · split
      · decide
      · split
        · decide
        · split
          · rename_i e t hg
            exact goR_err _ _ _ _ _ _ _ hg
          · split <;> simp
end Go.Sat
namespace Go.Proofs.YtlanabocdoacgaaDoor
open Go Go.RowKit Go.Sat
set_option maxRecDepth 100000 in
set_option maxHeartbeats 6400000 in
theorem rapply_any (x y : Value) (base d : List UInt8) (W : World) (hx : Rd W x base) (hy : Rd W y d) (hbl : base.length ≤ 2000000) (hdl : d.length ≤ 2000000) :
    Calls Tryd.prog 11 #[x, y] W (AppP W (appR base d)) := by
  have hxlt : ∀ k, rdb x = some k → k < W.heap.size := fun k hk => Rd.lt hx hk
  obtain ⟨xa, xc, rfl, _⟩ := hx.form
  have happ : appR base d = (if (pcsR base.length d).2.2 ≠ 0 then ([], (pcsR base.length d).2.2) else (flatP base (pcsR base.length d).1, 0)) := rfl
  have hpc := pieces_any y base.length d W hy hbl hdl
  have hf : (pcsR base.length d).2.2 ≤ 73 := pcsR_err base.length d
  generalize pcsR base.length d = r at *
  obtain ⟨l, n, f⟩ := r
  simp only at happ hf
  have HPC := Lib.hid hpc
  have HAPP := Lib.hid happ
  have HX := Lib.hid hx
  clear hpc happ hx hy
  go_enter Tryd.func11, Tryd.ntmps11
  go_wp2_with fail
  (refine HPC.out.mono ?_; rintro e w1 ⟨v, ps, rfl, M, C1⟩)
  by_cases hf0 : f = 0
  · have hq : ((f : Int) != 0) = false := by simp; omega
    have hr : appR base d = (flatP base l, 0) := by rw [HAPP.out, if_neg (by omega)]
    have HR := Lib.hid hr
    obtain ⟨va, vc, rfl, hvc⟩ := M.own.form
    have hsum := M.sum
    have hfew := M.few
    have HM := Lib.hid M
    have hvl := M.own.lt
    have HVL := Lib.hid hvl
    clear hr hf0 M hvl
    go_wp2_with fail
    go_loopw [9, 10] (fun s9 s10 wr => ∃ (i : Nat) (t : List UInt8), i ≤ ps.length ∧ s10 = .int .i64 (i : Int) ∧ t = flatP base ((ps.take i).map (·.1)) ∧ t.length + ((ps.drop i).map (·.1.len)).sum ≤ 65536 ∧ Own wr 5 1 s9 t.length (bcells t) ∧ (∀ k, s9.ownBlock = some k → w1.heap.size ≤ k) ∧ Chg (fun _ => False) w1 wr) (fun _ s10 _ => ps.length - (intOf s10).toNat)
    case atStart => exact ⟨0, [], by omega, rfl, rfl, by simpa using hsum, World.ownsRow_nil _ _ _ _, fun k hk => by simp [Value.ownBlock] at hk, Chg.refl _ _⟩
    case round =>
      obtain ⟨i, t, hi, rfl, ht, hsm, O, so, C⟩ := hrel
      obtain ⟨ta, tc, rfl, htc⟩ := O.form
      by_cases hlt : i < ps.length
      · have hq1 : decide (i < ps.length) = true := by simp; omega
        obtain ⟨g, rfl, hg⟩ := HM.out.own.addr (by omega)
        have hdrop : ps.drop i = ps[i] :: ps.drop (i + 1) := List.drop_eq_getElem_cons hlt
        have htake : flatP base ((ps.take (i + 1)).map (·.1)) = t ++ ps[i].1.bytes base := by rw [List.take_succ_eq_append_getElem hlt, List.map_append, ht, ← flatP_snoc]; rfl
        have hcell : ∀ j u, j < 3 → (pcQ ps[i])[j]? = some u → wr.cell? ⟨g, i * 3 + j, none⟩ = some u := fun j u hj hu => by
          rw [C.cell (p := ⟨g, i * 3 + j, none⟩) hg id]
          exact HM.out.own.cellAt (by rw [flat3 pcQ pcQ_length ps i j hlt hj]; exact hu)
        have hok := HM.out.ok ps[i] (List.getElem_mem hlt)
        have hfit := HM.out.fits ps[i] (List.getElem_mem hlt)
        rw [hdrop] at hsm
        obtain ⟨q, hqe⟩ : ∃ q, q = ps[i] := ⟨_, rfl⟩
        rw [← hqe] at hcell hok hfit hsm htake
        obtain ⟨p, yv⟩ := q
        simp only [List.map_cons, List.sum_cons] at hok hfit hsm htake hcell
        have HT := Lib.hid htake
        have HTT := Lib.hid ht
        clear hqe hdrop htake ht
        cases p with
        | new b =>
          simp only at hok
          have hsm2 : t.length + (b.length + ((ps.drop (i + 1)).map (·.1.len)).sum) ≤ 65536 := hsm
          obtain ⟨ba, bc, rfl, _⟩ := Rd.form hok
          have k0 := hcell 0 (.slice ba b.length bc) (by decide) rfl
          have k2 := hcell 2 (.int .i64 0) (by decide) rfl
          have hrb := Rd.kept hok C (fun _ _ => id)
          have HK2 := Lib.hid k2
          clear hcell k2 hok
          rw [Nat.add_zero] at k0
          go_wp2_with (first
            | ((with_reducible show wpList _ _ _ (⟨some 35, _, _, _, _, _⟩ :: _) _ _); refine wpl_append (o := ⟨some 35, _, _, _, _, _⟩) rfl (.tmp 29) (.tmp 34) 24 rfl tyBytes (O) (hrb) rfl rfl (by unfold maxLen; omega) (by omega) ?_; intro na nc w6 O6 hgr6 hblk6; have C6 : Chg (fun k => (Value.slice ta t.length tc).ownBlock = some k) wr w6 := (Chg.refl _ wr).grown hgr6 (fun q hq => .inr hq); have e2 : w6.cell? ⟨g, i * 3 + 2, none⟩ = some (.int .i64 0) := (by rw [C6.cell (p := ⟨g, i * 3 + 2, none⟩) (Nat.lt_of_lt_of_le hg C.size) (fun e => by have h' : (Value.slice ta t.length tc).ownBlock = some g := e; have := so g h'; omega)]; exact HK2.out))
            | fail)
          have CW6 : Chg (fun _ => False) w1 w6 := C.trans C6 (fun q hq h => by have := so q h; omega)
          have hwr := C.size
          have so6 : ∀ k, (Value.slice na (t.length + b.length) nc).ownBlock = some k → w1.heap.size ≤ k := fun k hk => by
            rcases hblk6 with h | h
            · rw [h] at hk; exact so k hk
            · rw [h] at hk; simp at hk; omega
          have HO6 := Lib.hid O6
          have HSO6 := Lib.hid so6
          have HCW6 := Lib.hid CW6
          clear O6 so6 CW6 C6 hgr6 hblk6 O so C hrb k0
          go_loopw [9, 11] (fun s9 s11 w7 => s11 = .int .i64 0 ∧ s9 = .slice na (t.length + b.length) nc ∧ w6 = w7) (fun _ s11 _ => 0 - (intOf s11).toNat)
          case atStart => exact ⟨rfl, rfl, rfl⟩
          case round =>
            obtain ⟨rfl, rfl, rfl⟩ := hrel
            go_wp2_with fail
            go_roundw
            case rel =>
              refine ⟨i + 1, flatP base ((ps.take (i + 1)).map (·.1)), by omega, by go_num, rfl, ?_, ?_, HSO6.out, HCW6.out⟩
              · rw [HT.out, List.length_append]; simp only [Pc.bytes]; omega
              · rw [HT.out]; exact HO6.out.cast (by simp [Pc.bytes]) (by simp [Pc.bytes])
            case measure => simp [intOf]; omega
        | copy a m =>
          simp only [Pc.fits] at hfit
          have hsm2 : t.length + (m + ((ps.drop (i + 1)).map (·.1.len)).sum) ≤ 65536 := hsm
          have k0 := hcell 0 (.slice none 0 0) (by decide) rfl
          have k1 := hcell 1 (.int .i64 (a : Int)) (by decide) rfl
          have k2 := hcell 2 (.int .i64 (m : Int)) (by decide) rfl
          have HK1 := Lib.hid k1
          have HK2 := Lib.hid k2
          clear hcell k2 k1 hok
          rw [Nat.add_zero] at k0
          have hnil : Sl wr 1 (.slice none 0 0) 0 [] := Rd.nil wr
          go_wp2_with (first
            | ((with_reducible show wpList _ _ _ (⟨some 35, _, _, _, _, _⟩ :: _) _ _); refine wpl_append (o := ⟨some 35, _, _, _, _, _⟩) rfl (.tmp 29) (.tmp 34) 24 rfl tyBytes (O) (hnil) rfl rfl (by unfold maxLen; omega) (by omega) ?_; intro na nc w6 O6 hgr6 hblk6; have C6 : Chg (fun k => (Value.slice ta t.length tc).ownBlock = some k) wr w6 := (Chg.refl _ wr).grown hgr6 (fun q hq => .inr hq))
            | fail)
          have CW6 : Chg (fun _ => False) w1 w6 := C.trans C6 (fun q hq h => by have := so q h; omega)
          have hwr := C.size
          have so6 : ∀ k, (Value.slice na (t.length + 0) nc).ownBlock = some k → w1.heap.size ≤ k := fun k hk => by
            rcases hblk6 with h | h
            · rw [h] at hk; exact so k hk
            · rw [h] at hk; simp at hk; omega
          have HK1' : Hid (w1.cell? ⟨g, i * 3 + 1, none⟩ = some (.int .i64 (a : Int))) := Lib.hid (by rw [← C.cell (p := ⟨g, i * 3 + 1, none⟩) hg id]; exact HK1.out)
          have HK2' : Hid (w1.cell? ⟨g, i * 3 + 2, none⟩ = some (.int .i64 (m : Int))) := Lib.hid (by rw [← C.cell (p := ⟨g, i * 3 + 2, none⟩) hg id]; exact HK2.out)
          have O7 : Own w6 5 1 (.slice na (t.length + 0) nc) (t ++ (base.drop a).take 0).length (bcells (t ++ (base.drop a).take 0)) := O6.cast (by simp) (by simp [bcells])
          clear O6 C6 hgr6 hblk6 O so C k0 HK1 HK2
          go_loopw [9, 11] (fun s9 s11 w7 => ∃ k : Nat, k ≤ m ∧ s11 = .int .i64 (k : Int) ∧ Own w7 5 1 s9 (t ++ (base.drop a).take k).length (bcells (t ++ (base.drop a).take k)) ∧ (∀ q, s9.ownBlock = some q → w1.heap.size ≤ q) ∧ Chg (fun _ => False) w1 w7) (fun _ s11 _ => m - (intOf s11).toNat)
          case atStart => exact ⟨0, by omega, rfl, O7, so6, CW6⟩
          case round =>
            clear O7 so6 CW6
            obtain ⟨k, hk, rfl, O, so, C⟩ := hrel
            obtain ⟨ba, bc, rfl, _⟩ := O.form
            have c2 : wr.cell? ⟨g, i * 3 + 2, none⟩ = some (.int .i64 (m : Int)) := by rw [C.cell (p := ⟨g, i * 3 + 2, none⟩) hg id]; exact HK2'.out
            by_cases hkm : k < m
            · have hq2 : decide (k < m) = true := by simp; omega
              have c1 : wr.cell? ⟨g, i * 3 + 1, none⟩ = some (.int .i64 (a : Int)) := by rw [C.cell (p := ⟨g, i * 3 + 1, none⟩) hg id]; exact HK1'.out
              obtain ⟨z, hz⟩ : ∃ z, z = a + k := ⟨_, rfl⟩
              have hzi : (a : Int) + (k : Int) = (z : Int) := by omega
              have hzb : z < base.length := by omega
              have hxr := (HX.out.kept C1 (fun _ _ => id)).kept C (fun _ _ => id)
              obtain ⟨xb, xo, xc', e1, _, _⟩ := hxr.addr (by omega)
              cases e1
              have c3 := hxr.cell hzb
              have hnx : t ++ (base.drop a).take (k + 1) = t ++ (base.drop a).take k ++ [base[z]] := by
                rw [List.take_succ_eq_append_getElem (by simp; omega), List.getElem_drop, List.append_assoc]
                congr 3
                simp [hz]
              have hlk : (t ++ (base.drop a).take k).length = t.length + k := by simp; omega
              have HNX := Lib.hid hnx
              have HLK := Lib.hid hlk
              generalize base[z] = bz at *
              have htl : t.length + k ≤ 65536 := by omega
              have hoL : (t ++ (base.drop a).take k).length ≤ 65536 := by omega
              generalize t ++ (base.drop a).take k = tk at *
              clear hnx hlk hxr hz
              go_wp2_with (first
                | ((with_reducible show wpList _ _ _ (⟨some 57, _, _, _, _, _⟩ :: _) _ _); refine wpl_append (o := ⟨some 57, _, _, _, _, _⟩) rfl (.tmp 45) (.tmp 56) 24 rfl tyBytes (O.alloc _) (Sl.built1 wr (.int .u8 (bz.toNat : Int)) _ rfl) rfl rfl (by unfold maxLen; omega) (by omega) ?_; intro ma mc w8 O8 hgr8 hblk8)
                | fail)
              have C8 : Chg (fun q => (Value.slice ba tk.length bc).ownBlock = some q) wr w8 := ((Chg.refl _ wr).alloc _).grown hgr8 (fun q hq => .inr hq)
              go_roundw
              case rel =>
                refine ⟨k + 1, by omega, by go_num, by rw [HNX.out]; exact O8.cast (by simp) (by simp [bcells]), fun q hq => ?_, C.trans C8 (fun q hq h => by have := so q h; omega)⟩
                rcases hblk8 with h | h
                · rw [h] at hq; exact so q hq
                · rw [h] at hq; simp at hq; have := C.size; omega
              case measure => simp [intOf]; omega
            · have hkm' : k = m := by omega
              have hq2 : decide (k < m) = false := by simp; omega
              have HKM := Lib.hid hkm'
              have HO := Lib.hid O
              clear hkm' O
              go_wp2_with fail
              go_roundw
              case rel =>
                refine ⟨i + 1, flatP base ((ps.take (i + 1)).map (·.1)), by omega, by go_num, rfl, ?_, ?_, so, C⟩
                · rw [HT.out, List.length_append]; simp only [Pc.bytes, List.length_take, List.length_drop]; omega
                · obtain rfl := HKM.out
                  rw [HT.out]; exact HO.out
              case measure => simp [intOf]; omega
      · have hii : i = ps.length := by omega
        have hq1 : decide (i < ps.length) = false := by simp; omega
        have htl : t = flatP base l := by rw [ht, hii, List.take_length, HM.out.fst]
        have HTL := Lib.hid htl
        have HO := Lib.hid O
        clear htl ht hii O
        go_wp2_with fail
        go_ret2
        rw [HR.out, ← HTL.out]
        exact ⟨_, rfl, HO.out, fun k hk => by have := so k hk; have := C1.size; omega, C1.trans C (fun _ _ h => h)⟩
  · have hq : ((f : Int) != 0) = true := by simp; omega
    have hr : appR base d = ([], f) := by rw [HAPP.out, if_pos hf0]
    have HR := Lib.hid hr
    clear hr
    go_wp2_with fail
    go_ret2
    rw [HR.out]
    exact AppP.bad C1
end Go.Proofs.YtlanabocdoacgaaDoor
