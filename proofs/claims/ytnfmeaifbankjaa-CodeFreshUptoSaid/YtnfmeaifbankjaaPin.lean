import Derived.Test.YtnfmeaifbankjaaRegion
import Derived.OrdersHeld
set_option linter.unusedVariables false
namespace Go.Sat
open Go

/-! ### A region that draws its order, in which loads stand beside calls: the loads that are pinned read blocks that no call of the region turns -/
/-- Every block of w0 stands in w, but for those of D. -/
def Same (D : Nat → Prop) (w0 w : World) : Prop := ∀ k o, w0.heap[k]? = some o → ¬ D k → w.heap[k]? = some o
theorem Same.refl (D : Nat → Prop) (w : World) : Same D w w := fun _ _ h _ => h
theorem Same.ext {D : Nat → Prop} {w0 w w' : World} (h : Same D w0 w) (he : Ext w w') : Same D w0 w' := fun k o h1 h2 => he k o (h k o h1 h2)
theorem Same.drew {D : Nat → Prop} {w0 w : World} (h : Same D w0 w) : Same D w0 w.drew := h
theorem Same.cell {D : Nat → Prop} {w0 w : World} (h : Same D w0 w) {p : Addr} {v : Value} (hc : w0.cell? p = some v) (hD : ¬ D p.block) : w.cell? p = some v := by
  have hlt := World.block_lt_of_cell? w0 p hc
  have hb := h p.block _ (Array.getElem?_eq_getElem hlt) hD
  rw [World.cell?_of_block (w := w0) (hb.trans (Array.getElem?_eq_getElem hlt).symm)]
  exact hc

def SegQ (K : Act → World → Prop) : Exit → Act → World → Prop
  | .normal, a, w => K a w
  | _, _, _ => False
theorem SegQ.normal {K : Act → World → Prop} {a : Act} {w : World} (h : K a w) : SegQ K .normal a w := h

section
variable {hd : Oper → Nat} {P : Program} {ops : Array Oper} {Q : Exit → Act → World → Prop} {S : World → Prop} {ck : List Nat} {pins : List Nat}

/-- The pinned operation z yields one value in every world that meets S. -/
def PinAt (P : Program) (ops : Array Oper) (S : World → Prop) (z : Nat) (a : Act) : Prop :=
  ∀ o, ops[z]? = some o → Region.wanted o (yielded ops a.tmps) = true → ∃ v, ∀ X, S X → (execOp a.eval o).run P X = .ok (.value v) X
def PinL (P : Program) (ops : Array Oper) (S : World → Prop) : List Nat → Act → Prop
  | [], _ => True
  | z :: r, a => PinAt P ops S z a ∧ PinL P ops S r a
theorem PinL.mem {a : Act} : ∀ {l : List Nat}, PinL P ops S l a → ∀ z ∈ l, PinAt P ops S z a
  | z :: r, h, y, hy => by
    rcases List.mem_cons.1 hy with rfl | hy
    · exact h.1
    · exact h.2.mem y hy
/-- Behind the region the pinned operations are known. -/
def PQ (P : Program) (ops : Array Oper) (S : World → Prop) (pins : List Nat) (Q : Exit → Act → World → Prop) : Exit → Act → World → Prop
  | .normal, a, w => PinL P ops S pins a ∧ Q .normal a w
  | e, a, w => Q e a w

/-- One operation, in the region's strict form; behind those of ck S is shown. -/
def wpC (hd : Oper → Nat) (P : Program) (ops : Array Oper) (Q : Exit → Act → World → Prop) (S : World → Prop) (ck : List Nat) (i : Nat) (K : Act → World → Prop) (a : Act) (w : World) : Prop :=
  wpOp P ops (TQ hd P ops Q) i (fun a1 w1 => (i ∈ ck → S w1) ∧ K a1 w1) a w
def wpCs (hd : Oper → Nat) (P : Program) (ops : Array Oper) (Q : Exit → Act → World → Prop) (S : World → Prop) (ck : List Nat) : List Nat → (Act → World → Prop) → Act → World → Prop
  | [], K => K
  | i :: r, K => wpC hd P ops Q S ck i (wpCs hd P ops Q S ck r K)
theorem wpC_mono {i : Nat} {K K' : Act → World → Prop} {a : Act} {w : World} (h : ∀ a w, K a w → K' a w) (hh : wpC hd P ops Q S ck i K a w) : wpC hd P ops Q S ck i K' a w :=
  wpOp_mono (fun a w hk => ⟨hk.1, h a w hk.2⟩) hh
theorem wpCs_drop : ∀ (l : List Nat) (a : Act) (w : World), wpCs hd P ops Q S ck l (fun a w => TQ hd P ops Q .normal a w) a w → wpOps P ops (TQ hd P ops Q) l a w
  | [], _, _, h => h
  | i :: r, a, w, h => by
    have h' : wpC hd P ops Q S ck i (wpCs hd P ops Q S ck r (fun a w => TQ hd P ops Q .normal a w)) a w := h
    rw [wpOps_cons]; exact wpOp_mono (fun a1 w1 hk => wpCs_drop r a1 w1 hk.2) h'

/-- Where it runs, it leaves the world as it was. -/
def StillAt (P : Program) (ops : Array Oper) (o : Oper) (a : Act) : Prop := Region.wanted o (yielded ops a.tmps) = true → ∃ s, Hands o a.eval s ∧ ∀ w v w1, s.run P w = .ok v w1 → w1 = w
theorem StillAt.calm {o : Oper} {a : Act} (h : Region.wanted o (yielded ops a.tmps) = true → calmAt P a.eval o = true) : StillAt P ops o a := fun hw => by
  obtain ⟨s, hh, hc⟩ := calm_hands (h hw)
  exact ⟨s, hh, fun w v w1 hr => (hc w v w1 hr).1⟩
theorem StillAt.load {o : Oper} {a : Act} (h : clsH hd o = 1) : StillAt P ops o a := fun _ => by
  obtain ⟨s, hh, hf⟩ := hands_load (P := P) (clsH_of h (by decide) (by decide)) a.eval
  exact ⟨s, hh, fun w v w1 hr => (hf w v w1 hr).1⟩
theorem StillAt.step {o ox : Oper} {a a1 : Act} (h : StillAt P ops o a) (hst : Step ox a a1) (hsi : ∀ cs b, o.op ≠ .select cs b) (hd : ∀ d, ox.dst = some d → d ∉ o.looksAt ops) : StillAt P ops o a1 := fun hw => by
  obtain ⟨e1, e2⟩ := hst.exec (ops := ops) hsi hd
  obtain ⟨s, hh, hs⟩ := h (by rw [← e2]; exact hw)
  exact ⟨s, by unfold Hands at hh ⊢; rw [e1]; exact hh, hs⟩
theorem wp_still {z : Nat} {o : Oper} {K : Act → World → Prop} {a : Act} {w : World} (hz : ops[z]? = some o) (hs : StillAt P ops o a) (h : wpOp P ops (TQ hd P ops Q) z K a w) :
    wpOp P ops (TQ hd P ops Q) z (fun a1 w1 => w1 = w ∧ K a1 w1) a w := by
  rw [strict_wp hz] at h ⊢
  split
  · rename_i hw
    rw [if_pos hw] at h
    obtain ⟨s, hh, hsm⟩ := hs hw
    obtain ⟨v, w1, hr, hk⟩ := hands_wp hh h
    exact wp_hands hh hr ⟨hsm _ _ _ hr, hk⟩
  · rename_i hw
    rw [if_neg hw] at h
    exact ⟨rfl, h⟩
theorem wp_grow {z : Nat} {o : Oper} {K : Act → World → Prop} {a : Act} {w : World} (hz : ops[z]? = some o) (hs : clsH hd o = 2) (h : wpOp P ops (TQ hd P ops Q) z K a w) :
    wpOp P ops (TQ hd P ops Q) z (fun a1 w1 => Ext w w1 ∧ K a1 w1) a w := by
  rw [strict_wp hz] at h ⊢
  split
  · rename_i hw
    rw [if_pos hw] at h
    obtain ⟨s, hh, hg⟩ := hands_alloc (P := P) (clsH_of hs (by decide) (by decide)) a.eval
    obtain ⟨v, w1, hr, hk⟩ := hands_wp hh h
    exact wp_hands hh hr ⟨hg _ _ _ hr, hk⟩
  · rename_i hw
    rw [if_neg hw] at h
    exact ⟨Ext.refl _, h⟩
theorem yieldsIf_wp {i : Nat} {o : Oper} {K : Act → World → Prop} {a : Act} {w : World} {v : Value} (hi : ops[i]? = some o) (hy : YieldsIf P ops S o v a) (hS : S w) :
    wpOp P ops (TQ hd P ops Q) i K a w ↔ K (a.put o.dst v) w := by
  refine ⟨fun h => ?_, fun h => hy.wpOp hi hS h⟩
  rw [strict_wp hi] at h
  rcases hy with ⟨hw, hv⟩ | ⟨hw, rfl⟩
  · rw [if_pos hw] at h; unfold Oper.wp at h; rw [hv w hS] at h; exact h
  · rw [if_neg (by simp [hw])] at h; exact h
theorem PinAt.yields {z : Nat} {o : Oper} {a : Act} (h : PinAt P ops S z a) (hz : ops[z]? = some o) : ∃ v, YieldsIf P ops S o v a := by
  by_cases hw : Region.wanted o (yielded ops a.tmps) = true
  · obtain ⟨v, hv⟩ := h o hz hw
    exact ⟨v, .inl ⟨hw, hv⟩⟩
  · exact ⟨undef, .inr ⟨by simpa using hw, rfl⟩⟩

/-- What the end says of a pinned operation holds here already. -/
theorem pin_here {l : List Nat} {a : Act} {w : World} {z : Nat} {oz : Oper} (hsel : ∀ cs b, oz.op ≠ .select cs b) (hz : ops[z]? = some oz) (hp : z ∈ pins) (h : wpOps P ops (TQ hd P ops (PQ P ops S pins Q)) l a w)
    (hst : ∀ y ∈ l, ∀ oy d, ops[y]? = some oy → oy.dst = some d → d ∉ oz.looksAt ops) : PinAt P ops S z a := by
  obtain ⟨af, wf, h1, h2⟩ := wpOps_end l a w h
  have h3 := (h1.2.1).mem z hp
  have hag : ∀ t ∈ oz.looksAt ops, af.tmps[t]? = a.tmps[t]? := fun t ht => h2 t fun y hy oy hoy hd => hst y hy oy t hoy hd ht
  have he : ∀ x ∈ oz.op.operands, af.eval x = a.eval x := fun x hx => by
    cases x with
    | tmp t =>
      have := hag t (List.mem_append_left _ (List.mem_filterMap.2 ⟨.tmp t, by simpa using hx, rfl⟩))
      simp [Act.eval, this]
    | _ => rfl
  have hw : Region.wanted oz (yielded ops af.tmps) = Region.wanted oz (yielded ops a.tmps) := by
    unfold Region.wanted
    cases hg : oz.guard with
    | none => rfl
    | some gw =>
      obtain ⟨g, want⟩ := gw
      have : yielded ops af.tmps g = yielded ops a.tmps g := by
        unfold yielded
        cases ht : (ops[g]?).bind (·.dst) with
        | none => rfl
        | some t =>
          have := hag t (by simp [Oper.looksAt, hg, ht])
          simp [this]
      simp only [this]
  have hex : execOp af.eval oz = execOp a.eval oz := execOp_congr oz hsel he
  intro o ho hwant
  obtain rfl : oz = o := by rw [hz] at ho; cases ho; rfl
  obtain ⟨v, hv⟩ := h3 oz hz (by rw [hw]; exact hwant)
  exact ⟨v, fun X hX => by rw [← hex]; exact hv X hX⟩

/-- Class 2, or of ck. -/
def Keeps (hd : Oper → Nat) (ck : List Nat) (i : Nat) (o : Oper) : Prop := clsH hd o = 2 ∨ i ∈ ck
theorem wp_keeps {i : Nat} {o : Oper} {K : Act → World → Prop} {a : Act} {w : World} (hi : ops[i]? = some o) (hk : Keeps hd ck i o) (hext : ∀ w w', S w → Ext w w' → S w') (hS : S w)
    (h : wpC hd P ops Q S ck i K a w) : wpC hd P ops Q S ck i (fun a1 w1 => S w1 ∧ K a1 w1) a w := by
  rcases hk with hk | hk
  · exact wpOp_mono (fun a1 w1 h1 => ⟨h1.2.1, hext _ _ hS h1.1, h1.2.2⟩) (wp_grow hi hk h)
  · exact wpOp_mono (fun a1 w1 h1 => ⟨h1.1, h1.1 hk, h1.2⟩) h

theorem swapC {x i : Nat} {ox oi : Oper} (hx : ops[x]? = some ox) (hi : ops[i]? = some oi) (hap : ox.apart ops oi = true)
    (hsx : ∀ cs b, ox.op ≠ .select cs b) (hsi : ∀ cs b, oi.op ≠ .select cs b) (hext : ∀ w w', S w → Ext w w' → S w') {K : Act → World → Prop} {a : Act} {w : World}
    (hc : (x ∉ ck ∧ i ∉ ck ∧ clsH hd ox = 1 ∧ (clsH hd oi = 1 ∨ clsH hd oi = 2)) ∨
      (x ∉ ck ∧ (Region.wanted ox (yielded ops a.tmps) = true → calmAt P a.eval ox = true)) ∨ (i ∉ ck ∧ (Region.wanted oi (yielded ops a.tmps) = true → calmAt P a.eval oi = true)) ∨
      (S w ∧ x ∉ ck ∧ PinAt P ops S x a ∧ Keeps hd ck i oi) ∨ (S w ∧ i ∉ ck ∧ PinAt P ops S i a ∧ Keeps hd ck x ox))
    (h : wpC hd P ops Q S ck x (wpC hd P ops Q S ck i K) a w) : wpC hd P ops Q S ck i (wpC hd P ops Q S ck x K) a w := by
  obtain ⟨h1, h2, h3⟩ := Oper.apart_spec hap
  have hap' : oi.apart ops ox = true := by
    unfold Oper.apart at hap ⊢
    cases hdx : ox.dst <;> cases hdi : oi.dst <;> simp only [hdx, hdi, Bool.and_eq_true, Bool.true_and, Bool.and_true, Bool.not_eq_true', bne_iff_ne, ne_eq, Option.some.injEq] at hap ⊢ <;> first | exact hap | exact trivial | simp_all
    exact fun e => hap e.symm
  rcases hc with ⟨nx, ni, hc⟩ | ⟨nx, hc⟩ | ⟨ni, hc⟩ | ⟨hS, nx, hpin, hk⟩ | ⟨hS, ni, hpin, hk⟩
  · have h' : wpOp P ops (TQ hd P ops Q) x (wpOp P ops (TQ hd P ops Q) i K) a w := wpOp_mono (fun a1 w1 h => wpOp_mono (fun a2 w2 h => h.2) h.2) h
    have h4 := swap hx hi hap hsx hsi (.inr (.inr hc)) h'
    exact wpOp_mono (fun a1 w1 h => ⟨fun e => absurd e ni, wpOp_mono (fun a2 w2 h => ⟨fun e => absurd e nx, h⟩) h⟩) h4
  · have h' : wpOp P ops (TQ hd P ops Q) x (wpC hd P ops Q S ck i K) a w := wpOp_mono (fun a1 w1 h => h.2) h
    have h4 := swap hx hi hap hsx hsi (.inl hc) h'
    refine wpOp_mono (fun a1 w1 h => ?_) (wp_frame hi h4)
    obtain ⟨hst, h⟩ := h
    have h5 := wp_still hx ((StillAt.calm hc).step hst hsx h3) h
    obtain ⟨a2, w2, rfl, hk, _⟩ := wp_some hx h5
    exact ⟨hk, wpOp_mono (fun a2 w2 h => ⟨fun e => absurd e nx, h.2.2⟩) h5⟩
  · have h' : wpOp P ops (TQ hd P ops Q) x (wpOp P ops (TQ hd P ops Q) i (fun a2 w2 => (x ∈ ck → S w2) ∧ K a2 w2)) a w := by
      refine wpOp_mono (fun a1 w1 h => ?_) (wp_frame hx h)
      obtain ⟨hst, hcx, h⟩ := h
      refine wpOp_mono (fun a2 w2 h => ?_) (wp_still hi ((StillAt.calm hc).step hst hsi h1) h)
      obtain ⟨rfl, _, hk⟩ := h
      exact ⟨hcx, hk⟩
    have h4 := swap hx hi hap hsx hsi (.inr (.inl hc)) h'
    exact wpOp_mono (fun a1 w1 h => ⟨fun e => absurd e ni, h⟩) h4
  · obtain ⟨v, hy⟩ := hpin.yields hx
    have hk1 := ((yieldsIf_wp hx hy hS).1 h).2
    have hk2 := wp_keeps hi hk hext hS hk1
    have hk3 := wpOp_putIf hi hap hsx hsi (fun c a w h => h) hy hk2
    refine wpOp_mono (fun a1 w1 h => ?_) hk3
    obtain ⟨hy1, hci, hS1, hK⟩ := h
    exact ⟨hci, (yieldsIf_wp hx hy1 hS1).2 ⟨fun e => absurd e nx, hK⟩⟩
  · obtain ⟨v, hy⟩ := hpin.yields hi
    refine (yieldsIf_wp hi hy hS).2 ⟨fun e => absurd e ni, ?_⟩
    refine put_wp hx hap' hsx (wpOp_mono (fun a1 w1 h => ?_) (wp_frame hx (wp_keeps hx hk hext hS h)))
    obtain ⟨hst, hcx, hS1, h⟩ := h
    obtain ⟨e1, e2⟩ := hst.exec (ops := ops) hsi h1
    exact ⟨hcx, ((yieldsIf_wp hi (hy.of_same e1 e2) hS1).1 h).2⟩

/-- What must be known of a world in which the operations of l are still to come. -/
def Inv (S : World → Prop) (pins l : List Nat) (w : World) : Prop := (∃ p ∈ pins, p ∈ l) → S w
theorem wp_inv {x : Nat} {ox : Oper} {r : List Nat} {K : Act → World → Prop} {a : Act} {w : World} (hx : ops[x]? = some ox) (hext : ∀ w w', S w → Ext w w' → S w')
    (hcalm : clsH hd ox = 0 → Region.wanted ox (yielded ops a.tmps) = true → calmAt P a.eval ox = true)
    (hpin : clsH hd ox = 3 → x ∉ ck → ∀ p ∈ pins, p ∉ r) (hcl : clsH hd ox = 0 ∨ clsH hd ox = 1 ∨ clsH hd ox = 2 ∨ clsH hd ox = 3) (hI : (∃ p ∈ pins, p ∈ r) → S w)
    (h : wpC hd P ops Q S ck x K a w) : wpC hd P ops Q S ck x (fun a1 w1 => Inv S pins r w1 ∧ K a1 w1) a w := by
  by_cases hp : ∃ p ∈ pins, p ∈ r
  · have hS := hI hp
    rcases hcl with h0 | h0 | h0 | h0
    · exact wpOp_mono (fun a1 w1 h => ⟨h.2.1, fun _ => by rw [h.1]; exact hS, h.2.2⟩) (wp_still hx (StillAt.calm (hcalm h0)) h)
    · exact wpOp_mono (fun a1 w1 h => ⟨h.2.1, fun _ => by rw [h.1]; exact hS, h.2.2⟩) (wp_still hx (StillAt.load h0) h)
    · exact wpOp_mono (fun a1 w1 h => ⟨h.2.1, fun _ => hext _ _ hS h.1, h.2.2⟩) (wp_grow hx h0 h)
    · by_cases hck : x ∈ ck
      · exact wpOp_mono (fun a1 w1 h => ⟨h.1, fun _ => h.1 hck, h.2⟩) h
      · obtain ⟨p, hp1, hp2⟩ := hp
        exact absurd hp2 (hpin h0 hck p hp1)
  · exact wpOp_mono (fun a1 w1 h => ⟨h.1, fun h => absurd h hp, h.2⟩) h
theorem clsH_le (hd : Oper → Nat) (o : Oper) : clsH hd o = 0 ∨ clsH hd o = 1 ∨ clsH hd o = 2 ∨ clsH hd o = 3 := by
  unfold clsH
  split
  · unfold cls
    split <;> (try simp)
    split <;> simp
  · simp
  · simp
end
section
variable {hd : Oper → Nat} {P : Program} {ops : Array Oper} {Q : Exit → Act → World → Prop} {S : World → Prop} {ck : List Nat} {pins : List Nat}
variable (hF : ∀ i o e, ops[i]? = some o → e ∈ o.after → Region.binds .any e = true → e.on < i)
  (hW : ∀ x i ox oi d, ops[x]? = some ox → ops[i]? = some oi → ox.dst = some d → d ∈ oi.looksAt ops → Reaches ops x i)
  (hP : ∀ x i ox oi, x < i → ops[x]? = some ox → ops[i]? = some oi → Reaches ops x i ∨ (ox.apart ops oi = true ∧
    (clsH hd ox = 0 ∨ clsH hd oi = 0 ∨ (clsH hd ox = 1 ∧ (clsH hd oi = 1 ∨ clsH hd oi = 2)) ∨ (x ∈ pins ∧ clsH hd ox = 1 ∧ Keeps hd ck i oi) ∨ (i ∈ pins ∧ clsH hd oi = 1 ∧ Keeps hd ck x ox))))
  (hS : Region.noSelect ops = true)
  (hck : ∀ i o, ops[i]? = some o → i ∈ ck → clsH hd o = 3)
  (hpn : ∀ i o, ops[i]? = some o → clsH hd o = 3 → i ∉ ck → ∀ p ∈ pins, Reaches ops p i)
  (hext : ∀ w w', S w → Ext w w' → S w')
include hF hW hP hS hck hpn hext

theorem moveC {i : Nat} {oi : Oper} {l2 : List Nat} (hi : ops[i]? = some oi) (h2 : ∀ y ∈ l2, i < y) : ∀ (l1 : List Nat), l1.Pairwise (· < ·) → (∀ x ∈ l1, x < i ∧ x < ops.size ∧ ¬ Reaches ops x i) → (∀ y ∈ l2, ¬ Reaches ops y i) →
    ∀ (a : Act) (w : World), Inv S pins (l1 ++ i :: l2) w → wpCs hd P ops (PQ P ops S pins Q) S ck (l1 ++ i :: l2) (fun a w => TQ hd P ops (PQ P ops S pins Q) .normal a w) a w →
      wpC hd P ops (PQ P ops S pins Q) S ck i (wpCs hd P ops (PQ P ops S pins Q) S ck (l1 ++ l2) (fun a w => TQ hd P ops (PQ P ops S pins Q) .normal a w)) a w := by
  intro l1
  induction l1 with
  | nil => intro _ _ _ a w _ h; exact h
  | cons x t ih =>
    intro hp h1 hr a w hI h
    obtain ⟨hxi, hxn, hxr⟩ := h1 x List.mem_cons_self
    obtain ⟨ox, hx⟩ : ∃ ox, ops[x]? = some ox := ⟨ops[x], Array.getElem?_eq_getElem hxn⟩
    obtain ⟨hap, hcl⟩ := (hP x i ox oi hxi hx hi).resolve_left hxr
    have hsel := Region.noSelect_spec hS
    have hnow : ∀ z oz, ops[z]? = some oz → (∀ y ∈ x :: t ++ i :: l2, ¬ Reaches ops y z) → ∀ y ∈ x :: t ++ i :: l2, ∀ oy d, ops[y]? = some oy → oy.dst = some d → d ∉ oz.looksAt ops :=
      fun z oz hz hn y hy oy d hoy hd hm => hn y hy (hW y z oy oz d hoy hz hd hm)
    have hx1 : ∀ y ∈ x :: t ++ i :: l2, ¬ Reaches ops y x := fun y hy hre => by
      have hlt := hre.lt hF
      rcases List.mem_append.1 hy with hy | hy
      · rcases List.mem_cons.1 hy with rfl | hy
        · omega
        · have := List.rel_of_pairwise_cons hp hy; omega
      · rcases List.mem_cons.1 hy with rfl | hy
        · omega
        · have := h2 y hy; omega
    have hi1 : ∀ y ∈ x :: t ++ i :: l2, ¬ Reaches ops y i := fun y hy hre => by
      rcases List.mem_append.1 hy with hy | hy
      · exact (h1 y hy).2.2 hre
      · rcases List.mem_cons.1 hy with rfl | hy
        · exact Nat.lt_irrefl _ (hre.lt hF)
        · exact hr y hy hre
    have hdrop := wpCs_drop _ _ _ h
    have c1 : clsH hd ox = 0 → Region.wanted ox (yielded ops a.tmps) = true → calmAt P a.eval ox = true := fun hc => calm_here hx hdrop (hnow x ox hx hx1) hc
    have c2 : clsH hd oi = 0 → Region.wanted oi (yielded ops a.tmps) = true → calmAt P a.eval oi = true := fun hc => calm_here hi hdrop (hnow i oi hi hi1) hc
    have h' : wpC hd P ops (PQ P ops S pins Q) S ck x (wpCs hd P ops (PQ P ops S pins Q) S ck (t ++ i :: l2) (fun a w => TQ hd P ops (PQ P ops S pins Q) .normal a w)) a w := h
    have hinv := wp_inv (r := t ++ i :: l2) (pins := pins) hx hext c1 (fun h3 hn p hpp hpr => by
        have := hpn x ox hx h3 hn p hpp
        exact hx1 p (List.mem_cons_of_mem _ hpr) this) (clsH_le hd ox) (fun ⟨p, q1, q2⟩ => hI ⟨p, q1, List.mem_cons_of_mem _ q2⟩) h'
    have h'' := wpC_mono (fun a1 w1 hk => ih (List.Pairwise.of_cons hp) (fun y hy => h1 y (List.mem_cons_of_mem _ hy)) hr a1 w1 hk.1 hk.2) hinv
    refine swapC hx hi hap (hsel x ox · · hx) (hsel i oi · · hi) hext ?_ h''
    rcases hcl with hc | hc | hc | ⟨q1, q2, q3⟩ | ⟨q1, q2, q3⟩
    · exact .inr (.inl ⟨fun e => by have := hck x ox hx e; omega, c1 hc⟩)
    · exact .inr (.inr (.inl ⟨fun e => by have := hck i oi hi e; omega, c2 hc⟩))
    · exact .inl ⟨fun e => by have := hck x ox hx e; omega, fun e => by have := hck i oi hi e; omega, hc⟩
    · exact .inr (.inr (.inr (.inl ⟨hI ⟨x, q1, List.mem_cons_self⟩, fun e => by have := hck x ox hx e; omega, pin_here (hsel x ox · · hx) hx q1 hdrop (hnow x ox hx hx1), q3⟩)))
    · exact .inr (.inr (.inr (.inr ⟨hI ⟨i, q1, List.mem_append_right _ List.mem_cons_self⟩, fun e => by have := hck i oi hi e; omega, pin_here (hsel i oi · · hi) hi q1 hdrop (hnow i oi hi hi1), q3⟩)))

theorem any_of_pin : ∀ (fuel : Nat) (listed : Array Bool) (a : Act) (w : World), listed.size = ops.size → DownClosed ops listed → (rest ops listed).length ≤ fuel → Inv S pins (rest ops listed) w →
    wpCs hd P ops (PQ P ops S pins Q) S ck (rest ops listed) (fun a w => TQ hd P ops (PQ P ops S pins Q) .normal a w) a w → wpAny P .any ops (TQ hd P ops (PQ P ops S pins Q)) fuel listed a w := by
  have hno : ∀ listed : Array Bool, listed.size = ops.size → Region.ready .any ops listed = [] → rest ops listed = [] := fun listed hsz hr => by
    cases hl : rest ops listed with
    | nil => rfl
    | cons i t =>
      exfalso
      have hmem : i ∈ rest ops listed := by rw [hl]; exact List.mem_cons_self
      have hsort : (rest ops listed).Pairwise (· < ·) := List.Pairwise.filter _ List.pairwise_lt_range
      obtain ⟨hin, hun⟩ := List.mem_filter.1 hmem
      have hin' := List.mem_range.1 hin
      have hun' : listed.getD i true = false := by simpa using hun
      have : i ∈ Region.ready .any ops listed := by
        rw [mem_ready]
        refine ⟨hun', ops[i], Array.getElem?_eq_getElem hin', fun e he hb => ?_⟩
        have hlt := hF i _ e (Array.getElem?_eq_getElem hin') he hb
        have hsz' : e.on < listed.size := by omega
        cases hq : listed.getD e.on true with
        | true => simpa [hsz'] using hq
        | false =>
          have : e.on ∈ rest ops listed := List.mem_filter.2 ⟨List.mem_range.2 (by omega), by simp only [hq]; rfl⟩
          rw [hl] at this hsort
          rcases List.mem_cons.1 this with h | h
          · omega
          · have := List.rel_of_pairwise_cons hsort h; omega
      rw [hr] at this
      cases this
  intro fuel
  induction fuel with
  | zero =>
    intro listed a w hsz _ hlen _ h
    have hz : rest ops listed = [] := List.eq_nil_of_length_eq_zero (by omega)
    rw [hz] at h
    refine ⟨?_, h⟩
    cases hr : Region.ready .any ops listed with
    | nil => rfl
    | cons i t =>
      exfalso
      have hm : i ∈ Region.ready .any ops listed := by rw [hr]; exact List.mem_cons_self
      obtain ⟨hun, o, ho, _⟩ := mem_ready.1 hm
      have : i ∈ rest ops listed := List.mem_filter.2 ⟨List.mem_range.2 (Array.getElem?_eq_some_iff.1 ho).1, by simp only [hun]; rfl⟩
      rw [hz] at this; cases this
  | succ fuel ih =>
    intro listed a w hsz hdc hlen hI h
    refine ⟨fun hr => by rw [hno listed hsz hr] at h; exact h, fun i hi => ?_⟩
    obtain ⟨hun, oi, hoi, hall⟩ := mem_ready.1 hi
    have hin : i < ops.size := (Array.getElem?_eq_some_iff.1 hoi).1
    have hrange : List.range ops.size = List.range i ++ i :: List.range' (i + 1) (ops.size - i - 1) := by
      rw [List.range_eq_range', List.range_eq_range', show ops.size = i + ((ops.size - i - 1) + 1) by omega, ← List.range'_append_1]
      simp only [Nat.zero_add, List.range'_succ]
      congr 3
      omega
    have hnr : ∀ y, listed.getD y true = false → y < ops.size → ¬ Reaches ops y i := fun y hy hyn hre => by
      have := hre.listed hdc (fun o e ho he hb => by rw [hoi] at ho; cases ho; exact hall e he hb)
      have hyl : y < listed.size := by omega
      simp [hyl] at hy this
      rw [hy] at this; cases this
    have hsplit : rest ops listed = (List.range i).filter (fun j => !listed.getD j true) ++ i :: (List.range' (i + 1) (ops.size - i - 1)).filter (fun j => !listed.getD j true) := by
      unfold rest
      rw [hrange, List.filter_append, List.filter_cons]
      simp only [hun]; rfl
    have hset : rest ops (listed.setIfInBounds i true) = (List.range i).filter (fun j => !listed.getD j true) ++ (List.range' (i + 1) (ops.size - i - 1)).filter (fun j => !listed.getD j true) := by
      unfold rest
      rw [hrange, List.filter_append, List.filter_cons]
      have hii : (listed.setIfInBounds i true).getD i true = true := by
        have : i < listed.size := by omega
        simp [this]
      simp only [hii, Bool.not_true, Bool.false_eq_true, if_false]
      congr 1
      · refine List.filter_congr fun j hj => ?_
        rw [getD_set_ne true (by have := List.mem_range.1 hj; omega)]
      · refine List.filter_congr fun j hj => ?_
        rw [getD_set_ne true (by have := List.mem_range'_1.1 hj; omega)]
    have hrest : ∀ y ∈ rest ops listed, listed.getD y true = false ∧ y < ops.size := fun y hy => by
      obtain ⟨h1, h2⟩ := List.mem_filter.1 hy
      exact ⟨by simpa using h2, List.mem_range.1 h1⟩
    have hcalm : clsH hd oi = 0 → Region.wanted oi (yielded ops a.tmps) = true → calmAt P a.eval oi = true := fun hc =>
      calm_here hoi (wpCs_drop _ _ _ h) (fun y hy oy d hoy hdd hm => hnr y (hrest y hy).1 (hrest y hy).2 (hW y i oy oi d hoy hoi hdd hm)) hc
    have hsub : ∀ p ∈ rest ops (listed.setIfInBounds i true), p ∈ rest ops listed := fun p hp => by
      rw [hset] at hp
      rw [hsplit]
      rcases List.mem_append.1 hp with h | h
      · exact List.mem_append_left _ h
      · exact List.mem_append_right _ (List.mem_cons_of_mem _ h)
    have hI' := hI
    rw [hsplit] at h hI
    have hm := moveC hF hW hP hS hck hpn hext hoi (fun y hy => by have := List.mem_range'_1.1 (List.mem_filter.1 hy).1; omega) _ (List.Pairwise.filter _ List.pairwise_lt_range)
      (fun x hx => by
        obtain ⟨hx1, hx2⟩ := List.mem_filter.1 hx
        have hx1' := List.mem_range.1 hx1
        exact ⟨hx1', by omega, hnr x (by simpa using hx2) (by omega)⟩)
      (fun y hy => by
        obtain ⟨hy1, hy2⟩ := List.mem_filter.1 hy
        have hy1' := List.mem_range'_1.1 hy1
        exact hnr y (by simpa using hy2) (by omega)) a w hI h
    rw [← hset] at hm
    have hm2 := wp_inv (r := rest ops (listed.setIfInBounds i true)) (pins := pins) hoi hext hcalm (fun h3 hn p hpp hpr => by
        have h4 := hrest p (hsub p hpr)
        exact hnr p h4.1 h4.2 (hpn i oi hoi h3 hn p hpp)) (clsH_le hd oi) (fun ⟨p, q1, q2⟩ => hI' ⟨p, q1, hsub p q2⟩) hm
    refine wpOp_mono (fun a1 w1 hk => ih _ a1 w1 (by simpa using hsz) ?_ ?_ hk.2.1 hk.2.2) hm2
    · intro j o e ho hj he hb
      by_cases hji : i = j
      · subst hji
        rw [hoi] at ho; cases ho
        exact getD_set_true (hall e he hb)
      · rw [getD_set_ne false hji] at hj
        exact getD_set_true (hdc j o e ho hj he hb)
    · rw [hset]
      rw [hsplit] at hlen
      simp only [List.length_append, List.length_cons] at hlen ⊢
      omega
end

section
variable {hd : Oper → Nat} {P : Program} {ops : Array Oper} {Q : Exit → Act → World → Prop} {S : World → Prop} {ck : List Nat} {pins : List Nat}
theorem toT {K0 K : Act → World → Prop} {i : Nat} {a : Act} {w : World} (h : wpOp P ops (SegQ K0) i K a w) : wpOp P ops (TQ hd P ops Q) i K a w := by
  unfold wpOp at h ⊢
  split
  · rename_i ho; simpa [ho] using h
  · rename_i o ho
    simp only [ho] at h
    split
    · rename_i hw
      rw [if_pos hw] at h
      rcases h with h | ⟨_, _, _, h⟩
      · refine .inl ?_
        unfold Oper.wp at h ⊢
        generalize (execOp a.eval o).run P w = r at *
        cases r with
        | ok n w' =>
          cases n <;> simp only [Oper.upon] at h ⊢
          case enter f args =>
            refine Calls.mono h fun e w'' he => ?_
            cases e with
            | returned u => exact he
            | panicked c => exact (he : False).elim
            | outgrown => obtain ⟨_, _, hx⟩ := he; exact (hx : False).elim
          all_goals exact h
        | halt x w' => cases x <;> simp only [Oper.upon] at h ⊢ <;> exact h
      · exact (h : False).elim
    · rename_i hw
      rw [if_neg hw] at h
      exact h
theorem wpList_step {Q : Exit → Act → World → Prop} {i : Nat} {o : Oper} {r : List Oper} {a : Act} {w : World} (ho : ops[i]? = some o) (h : wpList P ops Q (o :: r) a w) : wpOp P ops Q i (wpList P ops Q r) a w := by
  unfold wpOp
  simp only [ho]
  exact h
theorem wpCs_append (K : Act → World → Prop) : ∀ (l1 l2 : List Nat), wpCs hd P ops Q S ck (l1 ++ l2) K = wpCs hd P ops Q S ck l1 (wpCs hd P ops Q S ck l2 K)
  | [], _ => rfl
  | i :: l1, l2 => by
    show wpC hd P ops Q S ck i (wpCs hd P ops Q S ck (l1 ++ l2) K) = wpC hd P ops Q S ck i (wpCs hd P ops Q S ck l1 (wpCs hd P ops Q S ck l2 K))
    rw [wpCs_append K l1 l2]
theorem seg_last : ∀ (seg : List Oper) (k : Nat), (∀ j (h : j < seg.length), ops[k + j]? = some seg[j]) → (∀ i ∈ ck, ¬ (k ≤ i ∧ i < k + seg.length)) →
    ∀ a w, wpList P ops (TQ hd P ops Q) seg a w → wpCs hd P ops Q S ck (List.range' k seg.length) (fun a w => TQ hd P ops Q .normal a w) a w
  | [], _, _, _, _, _, h => h
  | o :: r, k, ho, hc, a, w, h => by
    have h1 := wpList_step (by have := ho 0 (by simp); simpa using this) h
    show wpC hd P ops Q S ck k (wpCs hd P ops Q S ck (List.range' (k + 1) r.length) _) a w
    refine wpOp_mono (fun a1 w1 hk => ⟨fun e => absurd ⟨Nat.le_refl k, by simp⟩ (hc k e), ?_⟩) h1
    exact seg_last r (k + 1) (fun j hj => by have := ho (j + 1) (by simpa using hj); rw [show k + 1 + j = k + (j + 1) from by omega, this]; simp) (fun i hi hh => hc i hi ⟨by omega, by simp; omega⟩) a1 w1 hk
theorem seg_some {K : Act → World → Prop} : ∀ (seg : List Oper) (k : Nat), seg ≠ [] → (∀ j (h : j < seg.length), ops[k + j]? = some seg[j]) → (∀ i ∈ ck, k ≤ i → i < k + seg.length → i = k + seg.length - 1) →
    ∀ a w, wpList P ops (SegQ fun a w => S w ∧ K a w) seg a w → wpCs hd P ops Q S ck (List.range' k seg.length) K a w
  | [], _, hn, _, _, _, _, _ => (hn rfl).elim
  | [o], k, _, ho, hc, a, w, h => by
    have h1 := toT (hd := hd) (Q := Q) (wpList_step (by have := ho 0 (by simp); simpa using this) h)
    show wpC hd P ops Q S ck k K a w
    exact wpOp_mono (fun a1 w1 hk => ⟨fun _ => hk.1, hk.2⟩) h1
  | o :: o2 :: r, k, _, ho, hc, a, w, h => by
    have h1 := toT (hd := hd) (Q := Q) (wpList_step (by have := ho 0 (by simp); simpa using this) h)
    show wpC hd P ops Q S ck k (wpCs hd P ops Q S ck (List.range' (k + 1) (o2 :: r).length) K) a w
    refine wpOp_mono (fun a1 w1 hk => ⟨fun e => ?_, ?_⟩) h1
    · have := hc k e (Nat.le_refl _) (by simp)
      simp at this
    · exact seg_some (o2 :: r) (k + 1) (by simp) (fun j hj => by have := ho (j + 1) (by simpa using hj); rw [show k + 1 + j = k + (j + 1) from by omega, this]; simp) (fun i hi h1 h2 => by have := hc i hi (by omega) (by simp at h2 ⊢; omega); simp at this ⊢; omega) a1 w1 hk

/-- The walk in the text's order, cut behind some operations: there S is to be shown. -/
def wpSegs (S : World → Prop) (P : Program) (ops : Array Oper) (QF : Exit → Act → World → Prop) : List Nat → List Oper → Act → World → Prop
  | [], l => wpList P ops QF l
  | n :: cs, l => wpList P ops (SegQ fun a w => S w ∧ wpSegs S P ops QF cs (l.drop n) a w) (l.take n)
def cutsAt : Nat → List Nat → List Nat
  | _, [] => []
  | k, n :: cs => (k + n - 1) :: cutsAt (k + n) cs
def cutsOk : List Nat → Nat → Bool
  | [], _ => true
  | n :: cs, m => decide (0 < n) && decide (n ≤ m) && cutsOk cs (m - n)
theorem cutsAt_ge : ∀ (cs : List Nat) (k m : Nat), cutsOk cs m = true → ∀ i ∈ cutsAt k cs, k ≤ i
  | [], _, _, _, _, h => by cases h
  | n :: cs, k, m, hok, i, h => by
    simp only [cutsOk, Bool.and_eq_true, decide_eq_true_eq] at hok
    rcases List.mem_cons.1 h with rfl | h
    · omega
    · have := cutsAt_ge cs (k + n) _ hok.2 i h; omega
theorem segs_wpCs : ∀ (cs : List Nat) (k : Nat) (l : List Oper), (∀ j (h : j < l.length), ops[k + j]? = some l[j]) → cutsOk cs l.length = true → (∀ i ∈ ck, k ≤ i → i ∈ cutsAt k cs) →
    ∀ a w, wpSegs S P ops (TQ hd P ops Q) cs l a w → wpCs hd P ops Q S ck (List.range' k l.length) (fun a w => TQ hd P ops Q .normal a w) a w
  | [], k, l, ho, _, hc, a, w, h => seg_last l k ho (fun i hi hh => by have := hc i hi hh.1; cases this) a w h
  | n :: cs, k, l, ho, hok, hc, a, w, h => by
    simp only [cutsOk, Bool.and_eq_true, decide_eq_true_eq] at hok
    obtain ⟨⟨h0, h1⟩, h2⟩ := hok
    have hlen : (l.take n).length = n := by simp; omega
    have hl : l.length = n + (l.length - n) := by omega
    rw [hl, ← List.range'_append_1, wpCs_append]
    have hseg := seg_some (hd := hd) (Q := Q) (S := S) (ck := ck) (K := wpSegs S P ops (TQ hd P ops Q) cs (l.drop n)) (l.take n) k (by intro e; rw [e] at hlen; simp at hlen; omega)
      (fun j hj => by rw [hlen] at hj; rw [ho j (by omega)]; simp) (fun i hi q1 q2 => by
        rw [hlen] at q2 ⊢
        rcases List.mem_cons.1 (hc i hi q1) with h | h
        · exact h
        · have := cutsAt_ge cs (k + n) _ h2 i h; omega) a w h
    rw [hlen] at hseg
    have hrest : ∀ a w, wpSegs S P ops (TQ hd P ops Q) cs (l.drop n) a w → wpCs hd P ops Q S ck (List.range' (k + n) (l.length - n)) (fun a w => TQ hd P ops Q .normal a w) a w := fun a w h => by
      have := segs_wpCs cs (k + n) (l.drop n) (fun j hj => by
        have := ho (n + j) (by simp at hj; omega)
        rw [show k + n + j = k + (n + j) from by omega, this]; simp) (by rw [List.length_drop]; exact h2) (fun i hi q1 => by
        rcases List.mem_cons.1 (hc i hi (by omega)) with h | h
        · omega
        · exact h) a w h
      rw [List.length_drop] at this
      exact this
    exact wpCs_mono (List.range' k n) hrest a w hseg
where
  wpCs_mono : ∀ (l : List Nat) {K K' : Act → World → Prop}, (∀ a w, K a w → K' a w) → ∀ a w, wpCs hd P ops Q S ck l K a w → wpCs hd P ops Q S ck l K' a w
    | [], _, _, hK, a, w, h => hK a w h
    | i :: l, K, K', hK, a, w, h => by
      have h' : wpC hd P ops Q S ck i (wpCs hd P ops Q S ck l K) a w := h
      exact wpC_mono (fun a w h => wpCs_mono l hK a w h) h'
end

/-- The static look: pins are loads that may stand beside the operations behind which the walk is cut. -/
def pinOk (hd : Oper → Nat) (pins ck : List Nat) (l : List Oper) : Bool :=
  let ms := masks l
  let n := l.length
  Region.noSelect l.toArray &&
  (List.range n).all fun i =>
    match l[i]? with
    | none => true
    | some oi =>
      ((oi.after.toList.all fun e => !Region.binds .any e || decide (e.on < i)) && (clsH hd oi == 3 || !(ck.contains i)) && (clsH hd oi != 3 || ck.contains i || pins.all fun p => (ms.getD i 0).testBit p)) &&
      (List.range n).all fun x =>
        match l[x]? with
        | none => true
        | some ox =>
          ((ms.getD i 0).testBit x || !(match ox.dst with | some d => (oi.looksAt l.toArray).contains d | none => false)) &&
          (!decide (x < i) || (ms.getD i 0).testBit x || (ox.apart l.toArray oi && (clsH hd ox == 0 || clsH hd oi == 0 || (clsH hd ox == 1 && (clsH hd oi == 1 || clsH hd oi == 2)) ||
            (pins.contains x && clsH hd ox == 1 && (clsH hd oi == 2 || ck.contains i)) || (pins.contains i && clsH hd oi == 1 && (clsH hd ox == 2 || ck.contains x)))))

/-- A REGION THAT DRAWS ITS ORDER, WALKED IN THE TEXT's, with pinned loads (their indices) and cuts (the lengths of the pieces that end with a call). -/
theorem wp_region_pinN (hd : Oper → Nat) (pins cuts : List Nat) (S : World → Prop) {P : Program} {Q : Exit → Act → World → Prop} {l : List Oper} {id : Nat} {a : Act} {w : World} (hm : P.follows .mixedOrders = true)
    (hok : (cutsOk cuts l.length && pinOk hd pins (cutsAt 0 cuts) l) = true) (hext : ∀ w w', S w → Ext w w' → S w') (h0 : S w.drew)
    (h : wpSegs S P l.toArray (TQ hd P l.toArray (PQ P l.toArray S pins Q)) cuts l a w.drew) : (Code.region id l.toArray true).wp P Q a w := by
  rw [Bool.and_eq_true] at hok
  obtain ⟨hcuts, hok⟩ := hok
  simp only [pinOk, Bool.and_eq_true, List.all_eq_true, List.mem_range] at hok
  obtain ⟨hS, hok⟩ := hok
  have get : ∀ {i o}, l.toArray[i]? = some o → i < l.length ∧ l[i]? = some o := fun {i o} h => by
    have h' : l[i]? = some o := by simpa using h
    exact ⟨(List.getElem?_eq_some_iff.1 h').1, h'⟩
  have hreach : ∀ i x, ((masks l).getD i 0).testBit x = true → Reaches l.toArray x i :=
    masks_reach (ops := l.toArray) l [] [] (by simp) rfl (fun i x h => by simp at h)
  have hone : ∀ i o, l.toArray[i]? = some o → ((∀ e ∈ o.after.toList, (!Region.binds .any e || decide (e.on < i)) = true) ∧ (clsH hd o == 3 || !((cutsAt 0 cuts).contains i)) = true) ∧ (clsH hd o != 3 || (cutsAt 0 cuts).contains i || pins.all fun p => ((masks l).getD i 0).testBit p) = true := fun i o ho => by
    obtain ⟨hi, ho'⟩ := get ho
    have h1 := hok i hi
    simp only [ho', Bool.and_eq_true, List.all_eq_true] at h1
    exact h1.1
  have hF : ∀ i o e, l.toArray[i]? = some o → e ∈ o.after → Region.binds .any e = true → e.on < i := fun i o e ho he hb => by
    have h2 := (hone i o ho).1.1 e (Array.mem_toList_iff.2 he)
    simpa [hb] using h2
  have hpair : ∀ i x oi ox, l.toArray[i]? = some oi → l.toArray[x]? = some ox → _ := fun i x oi ox hoi hox => by
    obtain ⟨hi, ho'⟩ := get hoi
    obtain ⟨hx, hx'⟩ := get hox
    have h1 := hok i hi
    simp only [ho', Bool.and_eq_true, List.all_eq_true, List.mem_range] at h1
    have h2 := h1.2 x hx
    simp only [hx', Bool.and_eq_true, Bool.or_eq_true] at h2
    exact h2
  refine wp_mono (wp_region_any hm (any_of_pin (hd := hd) (Q := Q) (S := S) (ck := cutsAt 0 cuts) (pins := pins) hF ?_ ?_ hS ?_ ?_ hext _ _ a w.drew (by simp) ?_ ?_ (fun _ => h0) ?_)) (fun e a w hq => ?_)
  · intro x i ox oi d hox hoi hd hmem
    rcases (hpair i x oi ox hoi hox).1 with h1 | h1
    · exact hreach i x h1
    · rw [hd] at h1; simp [hmem] at h1
  · intro x i ox oi hlt hox hoi
    rcases (hpair i x oi ox hoi hox).2 with (h1 | h1) | h1
    · simp [hlt] at h1
    · exact .inl (hreach i x h1)
    · refine .inr ⟨h1.1, ?_⟩
      rcases h1.2 with (((h2 | h2) | h2) | h2) | h2
      · exact .inl (by simpa using h2)
      · exact .inr (.inl (by simpa using h2))
      · exact .inr (.inr (.inl ⟨by simpa using h2.1, h2.2.imp (by simp) (by simp)⟩))
      · exact .inr (.inr (.inr (.inl ⟨by simpa using h2.1.1, by simpa using h2.1.2, h2.2.imp (by simp) (by simp)⟩)))
      · exact .inr (.inr (.inr (.inr ⟨by simpa using h2.1.1, by simpa using h2.1.2, h2.2.imp (by simp) (by simp)⟩)))
  · intro i o ho hc
    have h2 := (hone i o ho).1.2
    simpa [hc] using h2
  · intro i o ho h3 hc p hp
    have h2 := (hone i o ho).2
    have hc' : (cutsAt 0 cuts).contains i = false := by simpa using hc
    rw [h3, hc'] at h2
    simp only [bne_self_eq_false, Bool.false_or, List.all_eq_true] at h2
    exact hreach i p (h2 p hp)
  · intro i o e _ hl
    exfalso
    simp only [Array.getD_eq_getD_getElem?, Array.getElem?_replicate] at hl
    split at hl <;> simp at hl
  · unfold rest; exact Nat.le_trans (List.length_filter_le _ _) (by simp)
  · have : rest l.toArray (Array.replicate l.toArray.size false) = List.range l.toArray.size := by
      unfold rest
      refine List.filter_eq_self.2 fun j hj => ?_
      have := List.mem_range.1 hj
      simp at this
      simp [this]
    rw [this, List.range_eq_range', ← Array.length_toList]
    exact segs_wpCs cuts 0 l (fun j hj => by simp [hj]) hcuts (fun i hi _ => hi) a _ h
  · cases e <;> first | exact hq.2.2 | exact hq.elim | exact hq

theorem wp_region_pin (hd : Oper → Bool) (pins cuts : List Nat) (S : World → Prop) {P : Program} {Q : Exit → Act → World → Prop} {l : List Oper} {id : Nat} {a : Act} {w : World} (hm : P.follows .mixedOrders = true)
    (hok : (cutsOk cuts l.length && pinOk (hardN hd) pins (cutsAt 0 cuts) l) = true) (hext : ∀ w w', S w → Ext w w' → S w') (h0 : S w.drew)
    (h : wpSegs S P l.toArray (TQ (hardN hd) P l.toArray (PQ P l.toArray S pins Q)) cuts l a w.drew) : (Code.region id l.toArray true).wp P Q a w := wp_region_pinN (hardN hd) pins cuts S hm hok hext h0 h
/-- The same, all that a guard holds back left out. -/
theorem wp_region_pin_dead (hd : Oper → Bool) (g : Nat × Bool) (pins cuts : List Nat) (S : World → Prop) {P : Program} {Q : Exit → Act → World → Prop} {l : List Oper} {id : Nat} {a : Act} {w : World} (hm : P.follows .mixedOrders = true)
    (hok : (cutsOk cuts l.length && pinOk (deadN hd g) pins (cutsAt 0 cuts) l) = true) (hext : ∀ w w', S w → Ext w w' → S w') (h0 : S w.drew)
    (h : wpSegs S P l.toArray (TQ (deadN hd g) P l.toArray (PQ P l.toArray S pins Q)) cuts l a w.drew) : (Code.region id l.toArray true).wp P Q a w := wp_region_pinN (deadN hd g) pins cuts S hm hok hext h0 h
/-- A pinned load of one cell. -/
theorem PinAt.cell {P : Program} {ops : Array Oper} {D : Nat → Prop} {w0 : World} {z : Nat} {a : Act} {o : Oper} {t : TypeId} {x : Operand} {adr : Addr} {v : Value} (ho : ops[z]? = some o) (hop : o.op = .load t x) (hx : a.eval x = .pointer (some adr))
    (hc : w0.cell? adr = some v) (hD : ¬ D adr.block) (hl : ∀ X, X.cell? adr = some v → (Instr.loadAt t (.pointer (some adr))).run P X = .ok v X) : PinAt P ops (Same D w0) z a := by
  intro o' ho' _
  obtain rfl : o = o' := by rw [ho] at ho'; cases ho'; rfl
  refine ⟨v, fun X hX => ?_⟩
  unfold execOp
  rw [hop]
  simp only [hx, Sem.run_bind, hl X (hX.cell hc hD), Result.andThen_ok, Sem.run_pure]
end Go.Sat
