import Derived.WalkKit
import Derived.Orders
namespace Go.Sat
open Go

/-- Where it ends well, the world is as it was, and it ends so in every world. -/
def Calm {α : Type} (P : Program) (s : Sem α) : Prop := ∀ w n w1, s.run P w = .ok n w1 → w1 = w ∧ ∀ w', s.run P w' = .ok n w'

theorem Calm.pure {α : Type} {P : Program} (a : α) : Calm P (Pure.pure a : Sem α) := by
  intro w n w1 h; simp only [Sem.run_pure, Result.ok.injEq] at h; obtain ⟨rfl, rfl⟩ := h; exact ⟨rfl, fun _ => by simp [Sem.run_pure]⟩
theorem Calm.halt {α : Type} {P : Program} (x : Halt) : Calm P (Sem.halt x : Sem α) := by
  intro w n w1 h; simp [Sem.run] at h
theorem Calm.bind {α β : Type} {P : Program} {s : Sem α} {f : α → Sem β} (h : Calm P s) (k : ∀ a, Calm P (f a)) : Calm P (s >>= f) := by
  intro w n w1 hr
  rw [Sem.run_bind] at hr
  cases hs : s.run P w with
  | halt x w2 => rw [hs] at hr; simp [Result.andThen] at hr
  | ok a w2 =>
    rw [hs] at hr
    obtain ⟨rfl, ha⟩ := h _ _ _ hs
    obtain ⟨rfl, hb⟩ := k a _ _ _ hr
    exact ⟨rfl, fun w' => by rw [Sem.run_bind, ha w']; exact hb w'⟩
theorem Calm.program {P : Program} : Calm P program := by
  intro w n w1 h; simp only [Go.program, Sem.run, Result.ok.injEq] at h; obtain ⟨rfl, rfl⟩ := h; exact ⟨rfl, fun _ => rfl⟩
theorem Calm.typeInfo {P : Program} (t : TypeId) : Calm P (typeInfo t) := by
  unfold Go.typeInfo; refine Calm.bind Calm.program fun p => ?_
  split; exact Calm.pure _; exact Calm.halt _
theorem Calm.underlying {P : Program} (t : TypeId) : Calm P (underlying t) := by
  unfold Go.underlying; refine Calm.bind Calm.program fun p => ?_
  split; exact Calm.pure _; exact Calm.halt _
theorem Calm.sizeOf {P : Program} (t : TypeId) : Calm P (sizeOf t) := Calm.bind (Calm.typeInfo t) fun _ => Calm.pure _
theorem Calm.zeroValue {P : Program} (t : TypeId) : Calm P (zeroValue t) := by
  unfold Go.zeroValue; refine Calm.bind (Calm.typeInfo t) fun p => ?_
  split; exact Calm.pure _; exact Calm.halt _
theorem Calm.isAgg {P : Program} (t : TypeId) : Calm P (isAgg t) := by
  unfold Go.isAgg; refine Calm.bind (Calm.underlying t) fun p => ?_
  split <;> exact Calm.pure _
/-- It never ends well. -/
def Falls {α : Type} (P : Program) (s : Sem α) : Prop := ∀ w n w1, s.run P w ≠ .ok n w1
theorem Falls.calm {α : Type} {P : Program} {s : Sem α} (h : Falls P s) : Calm P s := fun w n w1 hr => absurd hr (h w n w1)
theorem Falls.halt {α : Type} {P : Program} (x : Halt) : Falls P (Sem.halt x : Sem α) := fun w n w1 h => by simp [Sem.run] at h
theorem Falls.bind {α β : Type} {P : Program} {s : Sem α} {f : α → Sem β} (k : ∀ a, Falls P (f a)) : Falls P (s >>= f) := by
  intro w n w1 hr
  rw [Sem.run_bind] at hr
  cases hs : s.run P w with
  | halt x w2 => rw [hs] at hr; simp [Result.andThen] at hr
  | ok a w2 => rw [hs] at hr; exact k a _ _ _ hr
theorem Falls.runtimePanic {α : Type} {P : Program} (e : RuntimeError) : Falls P (runtimePanic e : Sem α) := by
  unfold Go.runtimePanic
  refine Falls.bind fun p => ?_
  cases e <;> simp only [] <;> (repeat' (first | exact Falls.halt _ | refine Falls.bind fun _ => ?_))
theorem Falls.boundsPanic {α : Type} {P : Program} (k : IntKind) (x y : Int) (c : BoundsCode) : Falls P (boundsPanic k x y c : Sem α) := by
  unfold Go.boundsPanic
  simp only []
  split <;> exact Falls.bind fun _ => Falls.runtimePanic _

theorem Calm.asIntOf {P : Program} (v : Value) : Calm P (asIntOf v) := by
  unfold Go.asIntOf; split <;> first | exact Calm.pure _ | exact Calm.halt _
theorem Calm.asBool {P : Program} (v : Value) : Calm P (asBool v) := by
  unfold Go.asBool; split <;> first | exact Calm.pure _ | exact Calm.halt _
theorem Calm.asAgg {P : Program} (v : Value) : Calm P (asAgg v) := by
  unfold Go.asAgg; split <;> first | exact Calm.pure _ | exact Calm.halt _
theorem Calm.asAddr {P : Program} (v : Value) : Calm P (asAddr v) := by
  unfold Go.asAddr; split <;> first | exact Calm.pure _ | exact Calm.halt _ | exact (Falls.runtimePanic _).calm
theorem Calm.sureAddr {P : Program} (v : Value) : Calm P (Instr.sureAddr v) := by
  unfold Instr.sureAddr; split <;> first | exact Calm.pure _ | exact Calm.halt _
theorem Calm.part {P : Program} (t : TypeId) (cs : Array Value) (off : Nat) : Calm P (part t cs off) := by
  unfold Go.part
  refine Calm.bind (Calm.isAgg t) fun b => ?_
  split
  · exact Calm.bind (Calm.sizeOf _) fun _ => Calm.pure _
  · split <;> first | exact Calm.pure _ | exact Calm.halt _
theorem Calm.sliceBound {P : Program} (x : Value) (y : Nat) (c : BoundsCode) : Calm P (Instr.sliceBound x y c) := by
  unfold Instr.sliceBound
  refine Calm.bind (Calm.asIntOf x) fun ⟨k, i⟩ => ?_
  dsimp only
  split <;> first | exact Calm.pure _ | exact (Falls.boundsPanic _ _ _ _).calm
theorem Calm.sliceBounds {P : Program} (b : Bool) (len cap : Nat) (lo hi mx : Option Value) : Calm P (Instr.sliceBounds b len cap lo hi mx) := by
  unfold Instr.sliceBounds
  cases lo <;> cases hi <;> cases mx <;> simp only [] <;> (repeat' (first | exact Calm.pure _ | exact Calm.halt _ | exact Calm.sliceBound _ _ _ | refine Calm.bind ?_ fun _ => ?_))
theorem Calm.slice {P : Program} (t : TypeId) (x : Value) (lo hi mx : Option Value) : Calm P (Instr.slice t x lo hi mx) := by
  unfold Instr.slice
  refine Calm.bind (Calm.underlying t) fun d => ?_
  split
  · simp only []
    split
    · exact Calm.bind (Calm.halt _) fun _ => Calm.bind (Calm.sliceBounds _ _ _ _ _ _) fun _ => Calm.pure _
    · exact Calm.bind (Calm.sliceBounds _ _ _ _ _ _) fun _ => Calm.pure _
  · exact Calm.bind (Calm.sliceBounds _ _ _ _ _ _) fun _ => Calm.bind (Calm.sizeOf _) fun _ => Calm.pure _
  · refine Calm.bind (Calm.asAddr _) fun _ => Calm.bind (Calm.underlying _) fun d => ?_
    split
    · exact Calm.bind (Calm.sliceBounds _ _ _ _ _ _) fun _ => Calm.bind (Calm.sizeOf _) fun _ => Calm.pure _
    · exact Calm.halt _
  · exact Calm.halt _
theorem Calm.sliceAt {P : Program} (t : TypeId) (x : Value) (lo hi mx : Option Value) : Calm P (Instr.sliceAt t x lo hi mx) := by
  unfold Instr.sliceAt
  refine Calm.bind (Calm.underlying t) fun d => ?_
  split
  · exact Calm.bind (Calm.sureAddr _) fun _ => Calm.bind (Calm.sliceBounds _ _ _ _ _ _) fun _ => Calm.bind (Calm.sizeOf _) fun _ => Calm.pure _
  · exact Calm.slice _ _ _ _ _
theorem Calm.indexAt {P : Program} (t : TypeId) (x i : Value) : Calm P (Instr.indexAt t x i) := by
  unfold Instr.indexAt
  refine Calm.bind (Calm.asIntOf i) fun ⟨k, i⟩ => ?_
  dsimp only
  refine Calm.bind (Calm.underlying _) fun d => ?_
  have fin : ∀ (q : Option Addr × Nat × TypeId), Calm P (match q with | (base, len, elem) => (do
      let tiny := len ≤ 1 && (match ← Go.underlying t with | .array .. => true | _ => false)
      match base with
      | some a =>
        if 0 ≤ i ∧ i < len then Pure.pure (.pointer (some (a.add (i.toNat * (← Go.sizeOf elem)))))
        else if tiny then unsupported (.noEntry "op/indexAddr.an index out of range at an array of length 0 or 1 (ledger 616)")
        else boundsPanic k i len .index
      | none => boundsPanic k i 0 .index : Sem Value)) := by
    intro q
    obtain ⟨base, len, elem⟩ := q
    refine Calm.bind (Calm.underlying _) fun d => ?_
    repeat' (first | exact Calm.pure _ | exact Calm.halt _ | exact (Falls.boundsPanic _ _ _ _).calm | exact Calm.sizeOf _ | split | refine Calm.bind ?_ fun _ => ?_ | simp only [])
  split
  · exact Calm.bind (Calm.sureAddr _) fun q => Calm.bind (Calm.pure _) fun q => fin q
  · exact Calm.bind (Calm.pure _) fun q => fin q
  · exact Calm.bind (Calm.halt _) fun q => fin q
theorem Calm.index {P : Program} (t : TypeId) (x i : Value) : Calm P (Instr.index t x i) := by
  unfold Instr.index
  refine Calm.bind (Calm.asIntOf i) fun ⟨k, i⟩ => ?_
  dsimp only
  refine Calm.bind (Calm.underlying _) fun d => ?_
  repeat' (first | exact Calm.pure _ | exact Calm.halt _ | exact (Falls.boundsPanic _ _ _ _).calm | exact Calm.part _ _ _ | exact Calm.sizeOf _ | split | refine Calm.bind ?_ fun _ => ?_)
theorem Calm.field {P : Program} (t : TypeId) (x : Value) (i : Nat) : Calm P (Instr.field t x i) := by
  unfold Instr.field
  refine Calm.bind (Calm.underlying _) fun d => ?_
  repeat' (first | exact Calm.pure _ | exact Calm.halt _ | exact Calm.asAgg _ | exact Calm.part _ _ _ | split | refine Calm.bind ?_ fun _ => ?_)
theorem Calm.extract {P : Program} (t : Value) (i : Nat) : Calm P (Instr.extract t i) := by
  unfold Instr.extract
  repeat' (first | exact Calm.pure _ | exact Calm.halt _ | split)
theorem Calm.makeInterface {P : Program} (t : TypeId) (x : Value) : Calm P (Instr.makeInterface t x) := by
  unfold Instr.makeInterface
  refine Calm.bind (Calm.underlying _) fun d => ?_
  split <;> first | exact Calm.pure _ | exact Calm.halt _
theorem Calm.intArith {P : Program} (op : BinOp) (k : IntKind) (x y : Int) : Calm P (Op.intArith op k x y) := by
  unfold Op.intArith; split <;> first | exact Calm.pure _ | exact Calm.halt _
theorem Calm.intBits {P : Program} (op : BinOp) (k : IntKind) (x y : Int) : Calm P (Op.intBits op k x y) := by
  unfold Op.intBits; simp only []; split <;> first | exact Calm.pure _ | exact Calm.halt _
theorem Calm.intDiv {P : Program} (op : BinOp) (k : IntKind) (x y : Int) : Calm P (Op.intDiv op k x y) := by
  unfold Op.intDiv; repeat' (first | exact Calm.pure _ | exact Calm.halt _ | exact (Falls.runtimePanic _).calm | split)
theorem Calm.intCmp {P : Program} (op : BinOp) (x y : Int) : Calm P (Op.intCmp op x y) := by
  unfold Op.intCmp; split <;> first | exact Calm.pure _ | exact Calm.halt _
theorem Calm.shift {P : Program} (op : BinOp) (k : IntKind) (x : Int) (yk : IntKind) (y : Int) : Calm P (Op.shift op k x yk y) := by
  unfold Op.shift; simp only []; repeat' (first | exact Calm.pure _ | exact Calm.halt _ | exact (Falls.runtimePanic _).calm | split)
theorem Calm.stringOp {P : Program} (op : BinOp) (x y : ByteArray) : Calm P (Op.stringOp op x y) := by
  unfold Op.stringOp; simp only []; repeat' (first | exact Calm.pure _ | exact Calm.halt _ | split)
theorem Calm.unary {P : Program} (op : UnOp) (x : Value) : Calm P (Op.unary op x) := by
  unfold Op.unary; split <;> first | exact Calm.pure _ | exact Calm.halt _ | exact Calm.intArith _ _ _ _ | exact Calm.intBits _ _ _ _
theorem Calm.binOp_int {P : Program} (op : BinOp) (t : TypeId) (k k' : IntKind) (a b : Int) : Calm P (binOp op t (.int k a) (.int k' b)) := by
  cases op <;> simp only [Go.binOp] <;> repeat' (first | exact Calm.pure _ | exact Calm.halt _ | exact Calm.shift _ _ _ _ _ | exact Calm.intArith _ _ _ _ | exact Calm.intBits _ _ _ _ | exact Calm.intDiv _ _ _ _ | exact Calm.intCmp _ _ _ | split)
theorem Calm.binOp_string {P : Program} (op : BinOp) (t : TypeId) (a b : ByteArray) : Calm P (binOp op t (.string a) (.string b)) := by
  cases op <;> simp only [Go.binOp] <;> exact Calm.stringOp _ _ _
theorem Calm.eqGuard_int {P : Program} (op : BinOp) (t : TypeId) (x y : Operand) (k k' : IntKind) (a b : Int) : Calm P (eqGuard op t x y (.int k a) (.int k' b)) := by
  unfold eqGuard; simp only []; split <;> exact Calm.pure _
theorem Calm.eqGuard_string {P : Program} (op : BinOp) (t : TypeId) (x y : Operand) (a b : ByteArray) : Calm P (eqGuard op t x y (.string a) (.string b)) := by
  unfold eqGuard; simp only []; split <;> exact Calm.pure _
theorem Calm.convert_int {P : Program} (src dst : TypeId) (k : IntKind) (a : Int) (k' : IntKind) (hd : P.underlying dst = some (.int k')) : Calm P (convert src dst (.int k a)) := by
  unfold convert
  refine Calm.bind (Calm.underlying _) fun d => ?_
  intro w n w1 h
  have e : ∀ w : World, (Go.underlying dst).run P w = Result.ok (.int k') w := fun w => by simp [run_underlying hd]
  rw [Sem.run_bind, e w] at h
  simp only [Result.andThen_ok] at h
  have h2 : Calm P (Conv.intToInt k' a) := Calm.pure _
  obtain ⟨rfl, h3⟩ := h2 _ _ _ h
  exact ⟨rfl, fun w' => by rw [Sem.run_bind, e w']; exact h3 w'⟩
theorem Calm.fieldAt {P : Program} (s : TypeId) (x : Value) (i : Nat) (fs : Array Field) (f : Field) (hs : P.underlying s = some (.struct fs)) (hf : fs[i]? = some f) (hc : P.cellsOf f.type ≠ 0) : Calm P (Instr.fieldAt s x i) := by
  unfold Instr.fieldAt
  intro w n w1 h
  rw [Sem.run_bind] at h
  simp only [run_underlying hs, Result.andThen_ok, hf] at h
  have h2 : Calm P ((do let a ← Instr.sureAddr x; Pure.pure (Value.pointer (some (← fieldPlace a f)))) : Sem Value) := by
    refine Calm.bind (Calm.sureAddr _) fun a => Calm.bind ?_ fun _ => Calm.pure _
    unfold fieldPlace
    intro w n w1 h
    rw [Sem.run_bind] at h
    cases hi : P.info? f.type with
    | none => simp [Program.cellsOf, hi] at hc
    | some ti =>
      have e : ∀ w : World, (Go.sizeOf f.type).run P w = Result.ok ti.size w := fun w => by simp [Go.sizeOf, Go.typeInfo, hi]
      have hz : ti.size ≠ 0 := by simpa [Program.cellsOf, hi] using hc
      simp only [e, Result.andThen_ok, hz, if_false, Sem.run_pure, Result.ok.injEq] at h
      obtain ⟨rfl, rfl⟩ := h
      exact ⟨rfl, fun w' => by rw [Sem.run_bind, e w']; simp [hz]⟩
  obtain ⟨rfl, h3⟩ := h2 _ _ _ h
  exact ⟨rfl, fun w' => by rw [Sem.run_bind]; simp only [run_underlying hs, Result.andThen_ok, hf]; exact h3 w'⟩
theorem Calm.len {P : Program} (ats : Array TypeId) (ty : TypeId) (v : Value) (hv : (match v with | .map _ | .chan _ => false | _ => true) = true) : Calm P (Builtin.len_ ats ty #[v]) := by
  unfold Builtin.len_
  cases ha : ats[0]? with
  | none => exact Calm.halt _
  | some t =>
    have hv0 : (#[v] : Array Value)[0]? = some v := rfl
    simp only [hv0]
    refine Calm.bind (Calm.underlying _) fun d => ?_
    split <;> first | exact Calm.pure _ | exact Calm.halt _ | (simp at hv; done) | skip
    refine Calm.bind (Calm.underlying _) fun d => ?_
    split <;> first | exact Calm.pure _ | exact Calm.halt _

/-- What the operands hold makes the operation calm. -/
def calmAt (P : Program) (ρ : Operand → Value) (o : Oper) : Bool :=
  match o.op with
  | .move _ | .assign _ | .pick .. | .indexAddr .. | .index .. | .field .. | .extract .. | .slice .. | .makeInterface .. | .unOp .. => true
  | .nilCheck x => match ρ x with | .func .. => false | _ => true
  | .binOp _ _ x y _ => match ρ x, ρ y with | .int .., .int .. => true | .string _, .string _ => true | _, _ => false
  | .convert _ dst x => match ρ x, P.underlying dst with | .int .., some (.int _) => true | _, _ => false
  | .fieldAddr s _ i => match P.underlying s with | some (.struct fs) => (match fs[i]? with | some f => P.cellsOf f.type != 0 | none => false) | _ => false
  | .call c => match c.callee, c.args.toList with | .builtin .len, [x] => (match ρ x with | .map _ | .chan _ => false | _ => true) | _, _ => false
  | _ => false


/-- An operation that hands on a value: the run as one of a value. -/
def Hands (o : Oper) (ρ : Operand → Value) (s : Sem Value) : Prop := execOp ρ o = (do pure (Next.value (← s)))
theorem Hands.run {P : Program} {o : Oper} {ρ : Operand → Value} {s : Sem Value} (h : Hands o ρ s) {w w1 : World} {n : Next} (hr : (execOp ρ o).run P w = .ok n w1) : ∃ v, n = .value v ∧ s.run P w = .ok v w1 := by
  rw [h, Sem.run_bind] at hr
  cases hs : s.run P w with
  | halt x w2 => rw [hs] at hr; simp [Result.andThen] at hr
  | ok a w2 => rw [hs] at hr; simp only [Result.andThen_ok, Sem.run_pure, Result.ok.injEq] at hr; obtain ⟨rfl, rfl⟩ := hr; exact ⟨a, rfl, rfl⟩
theorem Hands.back {P : Program} {o : Oper} {ρ : Operand → Value} {s : Sem Value} (h : Hands o ρ s) {w w1 : World} {v : Value} (hr : s.run P w = .ok v w1) : (execOp ρ o).run P w = .ok (.value v) w1 := by
  rw [h, Sem.run_bind, hr]; rfl

theorem calm_hands {P : Program} {ρ : Operand → Value} {o : Oper} (h : calmAt P ρ o = true) : ∃ s, Hands o ρ s ∧ Calm P s := by
  unfold calmAt at h
  unfold Hands execOp
  split at h
  · rename_i x h1; rw [h1]; exact ⟨pure (ρ x), rfl, Calm.pure _⟩
  · rename_i x h1; rw [h1]; exact ⟨pure (ρ x), rfl, Calm.pure _⟩
  · rename_i c a b h1; rw [h1]; exact ⟨do pure (if ← asBool (ρ c) then ρ a else ρ b), by cases hc : ρ c <;> simp only [asBool, hc] <;> rfl, Calm.bind (Calm.asBool _) fun _ => Calm.pure _⟩
  · rename_i h1; rw [h1]; exact ⟨_, rfl, Calm.indexAt _ _ _⟩
  · rename_i h1; rw [h1]; exact ⟨_, rfl, Calm.index _ _ _⟩
  · rename_i h1; rw [h1]; exact ⟨_, rfl, Calm.field _ _ _⟩
  · rename_i h1; rw [h1]; exact ⟨_, rfl, Calm.extract _ _⟩
  · rename_i h1; rw [h1]; exact ⟨_, rfl, Calm.sliceAt _ _ _ _ _⟩
  · rename_i h1; rw [h1]; exact ⟨_, rfl, Calm.makeInterface _ _⟩
  · rename_i h1; rw [h1]; exact ⟨_, rfl, Calm.unary _ _⟩
  · rename_i x h1
    rw [h1]
    dsimp only
    cases hv : ρ x <;> simp only [hv] at h ⊢ <;> first | exact ⟨pure (ρ x), by rw [hv]; rfl, Calm.pure _⟩ | (cases h; done) | skip
    · rename_i q; cases q <;> first | exact ⟨pure (ρ x), by rw [hv]; rfl, Calm.pure _⟩ | exact ⟨runtimePanic .nilDeref, rfl, (Falls.runtimePanic _).calm⟩
    all_goals exact ⟨runtimePanic .nilDeref, rfl, (Falls.runtimePanic _).calm⟩
  · rename_i x y _ h1
    rw [h1]
    dsimp only
    split at h
    · rename_i k a k' b e1 e2; rw [e1, e2]; exact ⟨_, rfl, Calm.bind (Calm.eqGuard_int _ _ _ _ _ _ _ _) fun _ => Calm.binOp_int _ _ _ _ _ _⟩
    · rename_i a b e1 e2; rw [e1, e2]; exact ⟨_, rfl, Calm.bind (Calm.eqGuard_string _ _ _ _ _ _) fun _ => Calm.binOp_string _ _ _ _⟩
    · cases h
  · rename_i dst x h1
    rw [h1]
    dsimp only
    split at h
    · rename_i k a k' e1 e2; rw [e1]; exact ⟨_, rfl, Calm.convert_int _ _ _ _ _ e2⟩
    · cases h
  · rename_i s _ i h1
    rw [h1]
    dsimp only
    split at h
    · rename_i fs e1
      split at h
      · rename_i f e2
        exact ⟨_, rfl, Calm.fieldAt _ _ _ fs f e1 e2 (by simpa using h)⟩
      · cases h
    · cases h
  · rename_i c h1
    rw [h1]
    dsimp only
    split at h
    · rename_i x e1 e2
      obtain ⟨ce, ca, cat⟩ := c
      obtain ⟨ca⟩ := ca
      simp only at e1 e2
      subst e1 e2
      exact ⟨Builtin.len_ cat o.type #[ρ x], by simp [resolve, invoke, builtin], Calm.len _ _ _ h⟩
    · cases h
  · cases h
end Go.Sat
namespace Go.Sat
open Go Go.RowKit
/-- Every block of w stands in w'. -/
def Ext (w w' : World) : Prop := ∀ (k : Nat) (o : Obj), w.heap[k]? = some o → w'.heap[k]? = some o
theorem Ext.alloc (w : World) (o : Obj) : Ext w (w.alloc o) := fun k q h => by
  have hk : k < w.heap.size := (Array.getElem?_eq_some_iff.1 h).1
  exact (Below.heap_alloc w o k hk).trans h
theorem Ext.cell {w w' : World} (h : Ext w w') {a : Addr} {v : Value} (hc : w.cell? a = some v) : w'.cell? a = some v := by
  unfold World.cell? at *
  cases hb : w.heap[a.block]? with
  | none => simp [hb] at hc
  | some o => rw [h _ _ hb]; simpa [hb] using hc
theorem Ext.seen {p : Program} {w w' : World} (h : Ext w w') {at_ : Addr} {u : TypeId} {k : Addr} {b : Bool} {r : Array Value × TypeId × (Nat × Nat) × Nat × Value × List (Nat × Nat × List UInt8)} (hs : w.seen p at_ u k b = .ok r) : w'.seen p at_ u k b = .ok r := by
  unfold World.seen at *
  cases hb : w.heap[at_.block]? with
  | none =>
    exfalso
    simp only [hb] at hs
    revert hs
    repeat' split
    all_goals (intro hs; first | (cases hs; done) | (simp [Bind.bind, Except.bind, MonadExcept.throw, throwThe, MonadExceptOf.throw] at hs; done) | (revert hs; split <;> intro hs <;> simp [Bind.bind, Except.bind, MonadExcept.throw, throwThe, MonadExceptOf.throw] at hs))
  | some o => rw [h _ _ hb]; simpa [hb] using hs
/-- Where it ends well, the world is as it was, and it ends so in every world that holds the same blocks. -/
def Firm {α : Type} (P : Program) (s : Sem α) : Prop := ∀ w n w1, s.run P w = .ok n w1 → w1 = w ∧ ∀ w', Ext w w' → s.run P w' = .ok n w'
theorem Calm.firm {α : Type} {P : Program} {s : Sem α} (h : Calm P s) : Firm P s := fun w n w1 hr => ⟨(h w n w1 hr).1, fun w' _ => (h w n w1 hr).2 w'⟩
theorem Firm.bind {α β : Type} {P : Program} {s : Sem α} {f : α → Sem β} (h : Firm P s) (k : ∀ a, Firm P (f a)) : Firm P (s >>= f) := by
  intro w n w1 hr
  rw [Sem.run_bind] at hr
  cases hs : s.run P w with
  | halt x w2 => rw [hs] at hr; simp [Result.andThen] at hr
  | ok a w2 =>
    rw [hs] at hr
    obtain ⟨rfl, ha⟩ := h _ _ _ hs
    obtain ⟨rfl, hb⟩ := k a _ _ _ hr
    exact ⟨rfl, fun w' he => by rw [Sem.run_bind, ha w' he]; exact hb w' he⟩
theorem Firm.load {P : Program} (a : Addr) (m : Go.Mode) : Firm P (load a m) := by
  intro w n w1 h
  rw [run_load] at h
  cases hc : w.cell? a with
  | some v =>
    simp only [hc, Result.ok.injEq] at h
    obtain ⟨rfl, rfl⟩ := h
    exact ⟨rfl, fun w' he => by rw [run_load, he.cell hc]⟩
  | none =>
    simp only [hc] at h
    cases hf : w.farLoad P a (m == .atomic) with
    | error e => simp [hf] at h
    | ok r =>
      obtain ⟨v, l⟩ := r
      simp only [hf, Result.ok.injEq] at h
      obtain ⟨rfl, rfl⟩ := h
      refine ⟨rfl, fun w' he => ?_⟩
      unfold World.farLoad at hf
      cases hb : w.heap[a.block]? with
      | none => simp [hb] at hf
      | some o =>
        cases o with
        | view at_ u =>
          simp only [hb] at hf
          have hb' := he _ _ hb
          have hc' : w'.cell? a = none := by simp [World.cell?, hb']
          rw [run_load, hc']
          have hv : w'.viewLoad P at_ u a (m == .atomic) = w.viewLoad P at_ u a (m == .atomic) := by
            unfold World.viewLoad
            cases hs : w.seen P at_ u a (m == .atomic) with
            | error e => unfold World.viewLoad at hf; rw [hs] at hf; simp [Bind.bind, Except.bind] at hf
            | ok r => rw [Ext.seen he hs]
          simp only [World.farLoad, hb', hv]
          cases hq : w.viewLoad P at_ u a (m == .atomic) with
          | error e => simp [hq] at hf
          | ok r => simp only [hq] at hf; cases hf; rfl
        | _ => simp [hb] at hf
theorem Firm.loadCellsFrom {P : Program} (a : Addr) (n : Nat) : ∀ (i : Nat) (acc : Array Value), Firm P (loadCellsFrom a i n acc) := by
  induction n with
  | zero => intro i acc; exact (Calm.pure _).firm
  | succ n ih => intro i acc; exact Firm.bind (Firm.load _ _) fun v => ih _ _
theorem Firm.loadAt {P : Program} (t : TypeId) (x : Value) : Firm P (Instr.loadAt t x) := by
  unfold Instr.loadAt loadVar
  refine Firm.bind (Calm.sureAddr _).firm fun a => Firm.bind (Calm.isAgg _).firm fun b => ?_
  split
  · exact Firm.bind (Calm.sizeOf _).firm fun n => Firm.bind (Firm.loadCellsFrom _ _ _ _) fun _ => (Calm.pure _).firm
  · exact Firm.load _ _

/-- It makes blocks and turns none. -/
def Grows {α : Type} (P : Program) (s : Sem α) : Prop := ∀ w n w1, s.run P w = .ok n w1 → Ext w w1
theorem Ext.refl (w : World) : Ext w w := fun _ _ h => h
theorem Calm.grows {α : Type} {P : Program} {s : Sem α} (h : Calm P s) : Grows P s := fun w n w1 hr => by rw [(h w n w1 hr).1]; exact Ext.refl _
theorem Grows.bind {α β : Type} {P : Program} {s : Sem α} {f : α → Sem β} (h : Grows P s) (k : ∀ a, Grows P (f a)) : Grows P (s >>= f) := by
  intro w n w1 hr
  rw [Sem.run_bind] at hr
  cases hs : s.run P w with
  | halt x w2 => rw [hs] at hr; simp [Result.andThen] at hr
  | ok a w2 => rw [hs] at hr; exact fun q o ho => k a _ _ _ hr q o (h _ _ _ hs q o ho)
theorem Grows.newRow {P : Program} (t : TypeId) (cs : Array Value) : Grows P (newRow t cs) := by
  intro w n w1 h
  simp only [Go.newRow, Sem.run_bind, run_newObj, Result.andThen_ok, Sem.run_pure, Result.ok.injEq] at h
  obtain ⟨_, rfl⟩ := h
  exact Ext.alloc _ _
theorem Grows.alloc {P : Program} (t : TypeId) : Grows P (Instr.alloc t true (.tuple #[])) := by
  unfold Instr.alloc
  refine Grows.bind (Calm.zeroValue _).grows fun z => ?_
  simp only []
  exact Grows.bind (Grows.newRow _ _) fun _ => (Calm.pure _).grows
theorem Grows.box {P : Program} (t : TypeId) (v : Value) : Grows P (Instr.box t v) := Grows.bind (Grows.newRow _ _) fun _ => (Calm.pure _).grows
theorem Grows.buildSlice {P : Program} (t : TypeId) (n : Nat) (ps : Array (Nat × Value)) : Grows P (Instr.buildSlice t n ps) := by
  unfold Instr.buildSlice
  refine Grows.bind (Calm.underlying _).grows fun d => ?_
  split
  · rename_i e
    refine Grows.bind (Calm.sizeOf _).grows fun sz => ?_
    simp only []
    have fin : ∀ zero : Array Value, Grows P ((do
        let some cells := Instr.fill (fun i => some (i * sz, sz)) ((Array.range (n * sz)).map (zero[· % zero.size]!)) ps.toList | stuck "buildSlice: a part of the wrong size"
        pure (.slice (some (← Go.newRow e cells)) n n)) : Sem Value) := by
      intro zero
      split
      · exact Grows.bind (Grows.newRow _ _) fun _ => (Calm.pure _).grows
      · exact (Calm.halt _).grows
    split
    · refine Grows.bind (Calm.halt _).grows fun _ => ?_
      split
      · exact Grows.bind (Calm.pure _).grows fun z => fin z
      · exact Grows.bind (Calm.zeroValue _).grows fun z => Grows.bind (Calm.pure _).grows fun z => fin z
    · split
      · exact Grows.bind (Calm.pure _).grows fun z => fin z
      · exact Grows.bind (Calm.zeroValue _).grows fun z => Grows.bind (Calm.pure _).grows fun z => fin z
  · exact (Calm.halt _).grows

/-- 0: calm by its operands; 1: a load; 2: it makes a block; 3: any other. -/
def cls (o : Oper) : Nat :=
  match o.op with
  | .move _ | .assign _ | .pick .. | .indexAddr .. | .index .. | .field .. | .extract .. | .slice .. | .makeInterface .. | .unOp .. | .nilCheck _ | .binOp .. | .convert .. | .fieldAddr .. => 0
  | .call c => match c.callee with | .builtin .len => 0 | _ => 3
  | .load .. => 1
  | .alloc _ | .box .. | .buildSlice .. => 2
  | _ => 3

theorem hands_load {P : Program} {o : Oper} (h : cls o = 1) (ρ : Operand → Value) : ∃ s, Hands o ρ s ∧ Firm P s := by
  unfold cls at h
  split at h
  all_goals try (cases h; done)
  · split at h <;> cases h
  · rename_i t a h1
    exact ⟨Instr.loadAt t (ρ a), by unfold Hands execOp; rw [h1], Firm.loadAt _ _⟩
theorem hands_alloc {P : Program} {o : Oper} (h : cls o = 2) (ρ : Operand → Value) : ∃ s, Hands o ρ s ∧ Grows P s := by
  unfold cls at h
  split at h
  all_goals try (cases h; done)
  · split at h <;> cases h
  · rename_i t h1
    exact ⟨_, by unfold Hands execOp; rw [h1], Grows.alloc _⟩
  · rename_i t a h1
    exact ⟨_, by unfold Hands execOp; rw [h1], Grows.box _ _⟩
  · rename_i t n ps h1
    exact ⟨_, by unfold Hands execOp; rw [h1], Grows.buildSlice _ _ _⟩
/-- cls, but for the operations that are named hard (1: these are never taken for calm), or dead (2: these are not wanted, by their guards). -/
def clsH (hd : Oper → Nat) (o : Oper) : Nat := match hd o with | 0 => cls o | 1 => 3 | _ => 0
/-- Hard as a Bool says. -/
def hardN (hd : Oper → Bool) (o : Oper) : Nat := if hd o = true then 1 else 0
/-- Hard as a Bool says, dead by the guard. -/
def deadN (hd : Oper → Bool) (g : Nat × Bool) (o : Oper) : Nat := if o.guard = some g then 2 else if hd o = true then 1 else 0
theorem clsH_of {hd : Oper → Nat} {o : Oper} {n : Nat} (h : clsH hd o = n) (hn : n ≠ 3) (h0 : n ≠ 0) : cls o = n := by
  unfold clsH at h
  split at h
  · exact h
  · exact (hn h.symm).elim
  · exact (h0 h.symm).elim
section
variable {hd : Oper → Nat} {P : Program} {ops : Array Oper} {Q : Exit → Act → World → Prop}

/-- Every operation that is calm by its operands is, at this frame. -/
def calmAll (hd : Oper → Nat) (P : Program) (ops : Array Oper) (a : Act) : Bool :=
  ops.toList.all fun o => clsH hd o != 0 || !(Region.wanted o (yielded ops a.tmps)) || calmAt P a.eval o
/-- Behind the region the frame is calm; there is no way out by a panic. -/
def TQ (hd : Oper → Nat) (P : Program) (ops : Array Oper) (Q : Exit → Act → World → Prop) : Exit → Act → World → Prop
  | .normal, a, w => calmAll hd P ops a = true ∧ Q .normal a w
  | .panic _, _, _ => False
  | .outgrown, _, _ => False
  | e, a, w => Q e a w
theorem TQ.normal {a : Act} {w : World} (h1 : calmAll hd P ops a = true) (h2 : Q .normal a w) : TQ hd P ops Q .normal a w := ⟨h1, h2⟩

theorem strict_wp {i : Nat} {o : Oper} {K : Act → World → Prop} {a : Act} {w : World} (hi : ops[i]? = some o) :
    wpOp P ops (TQ hd P ops Q) i K a w ↔ if Region.wanted o (yielded ops a.tmps) = true then o.wp P a w K (TQ hd P ops Q) else K (a.put o.dst undef) w := by
  unfold wpOp
  simp only [hi]
  split
  · exact ⟨fun h => h.resolve_right (fun ⟨_, _, _, h⟩ => h), fun h => .inl h⟩
  · exact Iff.rfl
theorem hands_wp {o : Oper} {K : Act → World → Prop} {a : Act} {w : World} {s : Sem Value} (hh : Hands o a.eval s) (h : o.wp P a w K (TQ hd P ops Q)) :
    ∃ v w1, s.run P w = .ok v w1 ∧ K (a.put o.dst v) w1 := by
  unfold Oper.wp at h
  cases hr : (execOp a.eval o).run P w with
  | ok n w1 =>
    obtain ⟨v, rfl, hs⟩ := hh.run hr
    rw [hr] at h
    exact ⟨v, w1, hs, h⟩
  | halt x w1 => rw [hr] at h; cases x <;> exact (h : False).elim
theorem wp_hands {o : Oper} {K : Act → World → Prop} {a : Act} {w w1 : World} {s : Sem Value} {v : Value} (hh : Hands o a.eval s) (hs : s.run P w = .ok v w1) (h : K (a.put o.dst v) w1) :
    o.wp P a w K Q := by
  unfold Oper.wp; rw [hh.back hs]; exact h
/-- What an operation does to the frame. -/
def Step (o : Oper) (a a1 : Act) : Prop := ∃ u ds, a1 = ({ a with defers := ds } : Act).put o.dst u
theorem wp_frame {i : Nat} {o : Oper} {K : Act → World → Prop} {a : Act} {w : World} (hi : ops[i]? = some o) (h : wpOp P ops (TQ hd P ops Q) i K a w) :
    wpOp P ops (TQ hd P ops Q) i (fun a1 w1 => Step o a a1 ∧ K a1 w1) a w := by
  rw [strict_wp hi] at h ⊢
  split
  · rename_i hw
    rw [if_pos hw] at h
    unfold Oper.wp at h ⊢
    generalize (execOp a.eval o).run P w = r at *
    cases r with
    | ok n w' =>
      cases n <;> simp only [Oper.upon] at h ⊢
      case value u => exact ⟨⟨u, a.defers, rfl⟩, h⟩
      case skip => exact ⟨⟨_, a.defers, rfl⟩, h⟩
      case defer d => exact ⟨⟨_, _, rfl⟩, h⟩
      case enter f args =>
        refine Calls.mono h fun e w'' he => ?_
        cases e with
        | returned u => exact ⟨⟨u, a.defers, rfl⟩, he⟩
        | panicked c => exact he
        | outgrown => exact he
      case row row args => exact Rows.mono h fun u w'' he => ⟨⟨u, a.defers, rfl⟩, he⟩
    | halt x w' => cases x <;> simp only [Oper.upon] at h ⊢ <;> exact h
  · rename_i hw
    rw [if_neg hw] at h
    exact ⟨⟨_, a.defers, rfl⟩, h⟩
theorem wp_some {i : Nat} {o : Oper} {K : Act → World → Prop} {a : Act} {w : World} (hi : ops[i]? = some o) (h : wpOp P ops (TQ hd P ops Q) i K a w) : ∃ a1 w1, K a1 w1 := by
  rw [strict_wp hi] at h
  split at h
  · unfold Oper.wp at h
    generalize (execOp a.eval o).run P w = r at *
    cases r with
    | ok n w' =>
      cases n <;> simp only [Oper.upon] at h
      case value u => exact ⟨_, _, h⟩
      case skip => exact ⟨_, _, h⟩
      case defer d => exact ⟨_, _, h⟩
      case enter f args =>
        obtain ⟨e, w1, _, he, _⟩ := h []
        cases e with
        | returned u => exact ⟨_, _, he⟩
        | panicked c => exact he.elim
        | outgrown => obtain ⟨_, _, hx⟩ := he; exact hx.elim
      case row row args =>
        obtain ⟨v, w1, hr, _⟩ := h default []
        exact ⟨_, _, hr⟩
    | halt x w' => cases x <;> exact (h : False).elim
  · exact ⟨_, _, h⟩

/-- The frame's slots that an operation looks at stand as they did. -/
theorem Step.exec {o oi : Oper} {a a1 : Act} (h : Step o a a1) (hsi : ∀ cs b, oi.op ≠ .select cs b) (hd : ∀ d, o.dst = some d → d ∉ oi.looksAt ops) :
    execOp a1.eval oi = execOp a.eval oi ∧ Region.wanted oi (yielded ops a1.tmps) = Region.wanted oi (yielded ops a.tmps) := by
  obtain ⟨u, ds, rfl⟩ := h
  exact ⟨execOp_put oi hsi { a with defers := ds } o.dst u hd, wanted_put oi { a with defers := ds } o.dst u hd⟩

theorem yields_wp {i : Nat} {o : Oper} {K : Act → World → Prop} {a : Act} {w : World} {v : Value} (hi : ops[i]? = some o) (hy : Yields P ops o v a) :
    wpOp P ops (TQ hd P ops Q) i K a w ↔ K (a.put o.dst v) w := by
  refine ⟨fun h => ?_, fun h => hy.wpOp hi h⟩
  rw [strict_wp hi] at h
  rcases hy with ⟨hw, hv⟩ | ⟨hw, rfl⟩
  · rw [if_pos hw] at h; unfold Oper.wp at h; rw [hv w] at h; exact h
  · rw [if_neg (by simp [hw])] at h; exact h
/-- The slot of an operation that is apart is written before it as behind it. -/
theorem put_wp {j : Nat} {oi oj : Oper} {v : Value} (hj : ops[j]? = some oj) (hap : oi.apart ops oj = true) (hsj : ∀ cs b, oj.op ≠ .select cs b)
    {K : Act → World → Prop} {a : Act} {w : World} (h : wpOp P ops (TQ hd P ops Q) j (fun a1 w1 => K (a1.put oi.dst v) w1) a w) :
    wpOp P ops (TQ hd P ops Q) j K (a.put oi.dst v) w := by
  obtain ⟨h1, h2, h3⟩ := Oper.apart_spec hap
  rw [strict_wp hj] at h ⊢
  rw [wanted_put oj a oi.dst v h1]
  split
  · rename_i hw
    rw [if_pos hw] at h
    unfold Oper.wp at h ⊢
    rw [execOp_put oj hsj a oi.dst v h1]
    generalize (execOp a.eval oj).run P w = r at *
    cases r with
    | ok n w' =>
      cases n <;> simp only [Oper.upon] at h ⊢
      case value u => rw [Act.put_comm a v u h2]; exact h
      case skip => rw [Act.put_comm a v undef h2]; exact h
      case defer d =>
        rw [Act.put_defers, Act.put_comm _ v undef h2]
        exact h
      case enter f args =>
        refine Calls.mono h fun e w'' he => ?_
        cases e with
        | returned u => show K _ _; rw [Act.put_comm a v u h2]; exact he
        | panicked c => exact he
        | outgrown => exact he
      case row row args => exact Rows.mono h fun u w'' he => by rw [Act.put_comm a v u h2]; exact he
    | halt x w' => cases x <;> simp only [Oper.upon] at h ⊢ <;> exact h
  · rename_i hw
    rw [if_neg hw] at h
    rw [Act.put_comm a v undef h2]; exact h

/-- x stands in the text before i: i may be run first. -/
theorem swap {x i : Nat} {ox oi : Oper} (hx : ops[x]? = some ox) (hi : ops[i]? = some oi) (hap : ox.apart ops oi = true)
    (hsx : ∀ cs b, ox.op ≠ .select cs b) (hsi : ∀ cs b, oi.op ≠ .select cs b) {K : Act → World → Prop} {a : Act} {w : World}
    (hc : (Region.wanted ox (yielded ops a.tmps) = true → calmAt P a.eval ox = true) ∨ (Region.wanted oi (yielded ops a.tmps) = true → calmAt P a.eval oi = true) ∨ (clsH hd ox = 1 ∧ (clsH hd oi = 1 ∨ clsH hd oi = 2)))
    (h : wpOp P ops (TQ hd P ops Q) x (wpOp P ops (TQ hd P ops Q) i K) a w) : wpOp P ops (TQ hd P ops Q) i (wpOp P ops (TQ hd P ops Q) x K) a w := by
  obtain ⟨h1, h2, h3⟩ := Oper.apart_spec hap
  have hap' : oi.apart ops ox = true := by
    unfold Oper.apart at hap ⊢
    cases hdx : ox.dst <;> cases hdi : oi.dst <;> simp only [hdx, hdi, Bool.and_eq_true, Bool.true_and, Bool.and_true, Bool.not_eq_true', bne_iff_ne, ne_eq, Option.some.injEq] at hap ⊢ <;> first | exact hap | exact trivial | simp_all
    exact fun e => hap e.symm
  have of_x : ∀ v, Yields P ops ox v a → wpOp P ops (TQ hd P ops Q) i (wpOp P ops (TQ hd P ops Q) x K) a w := fun v hy => by
    have hk := (yields_wp hx hy).1 h
    refine wpOp_mono (fun a1 w1 h4 => ?_) (wpOp_put hi hap hsx hsi (fun c a w h => h) hy hk)
    exact (yields_wp hx h4.1).2 h4.2
  have of_i : (∀ a1 w1, Step ox a a1 → wpOp P ops (TQ hd P ops Q) i K a1 w1 → ∃ v, Yields P ops oi v a) → wpOp P ops (TQ hd P ops Q) i (wpOp P ops (TQ hd P ops Q) x K) a w := fun hy => by
    have hf := wp_frame hx h
    obtain ⟨a1, w1, hst, hk⟩ := wp_some hx hf
    obtain ⟨v, hv⟩ := hy a1 w1 hst hk
    refine (yields_wp hi hv).2 (put_wp hx hap' hsx (wpOp_mono (fun a1 w1 h4 => ?_) hf))
    obtain ⟨e1, e2⟩ := h4.1.exec (ops := ops) hsi h1
    exact (yields_wp hi (hv.of_same e1 e2)).1 h4.2
  by_cases hwx : Region.wanted ox (yielded ops a.tmps) = true
  case neg => exact of_x undef (.inr ⟨by simpa using hwx, rfl⟩)
  by_cases hwi : Region.wanted oi (yielded ops a.tmps) = true
  case neg => exact of_i fun _ _ _ _ => ⟨undef, .inr ⟨by simpa using hwi, rfl⟩⟩
  rcases hc with hc | hc | ⟨hcx, hci⟩
  · obtain ⟨s, hh, hcalm⟩ := calm_hands (hc hwx)
    have h' := h
    rw [strict_wp hx, if_pos hwx] at h'
    obtain ⟨v, w1, hs, _⟩ := hands_wp hh h'
    exact of_x v (.inl ⟨hwx, fun w' => hh.back (by obtain ⟨rfl, h5⟩ := hcalm _ _ _ hs; exact h5 w')⟩)
  · obtain ⟨s, hh, hcalm⟩ := calm_hands (hc hwi)
    refine of_i fun a1 w1 hst hk => ?_
    obtain ⟨e1, e2⟩ := hst.exec (ops := ops) hsi h1
    rw [strict_wp hi, e2, if_pos hwi] at hk
    obtain ⟨v, w2, hs, _⟩ := hands_wp (s := s) (by unfold Hands at hh ⊢; rw [e1]; exact hh) hk
    exact ⟨v, .inl ⟨hwi, fun w' => hh.back (by obtain ⟨rfl, h5⟩ := hcalm _ _ _ hs; exact h5 w')⟩⟩
  · obtain ⟨sx, hhx, hfx⟩ := hands_load (P := P) (clsH_of hcx (by decide) (by decide)) a.eval
    rw [strict_wp hx, if_pos hwx] at h
    obtain ⟨v, w1, hs, hk⟩ := hands_wp hhx h
    obtain ⟨rfl, hall⟩ := hfx _ _ _ hs
    obtain ⟨si, hhi, hgi⟩ : ∃ s, Hands oi a.eval s ∧ ∀ v w2, s.run P w1 = .ok v w2 → Ext w1 w2 := by
      rcases hci with hci | hci
      · obtain ⟨s, q1, q2⟩ := hands_load (P := P) (clsH_of hci (by decide) (by decide)) a.eval
        exact ⟨s, q1, fun v w2 hr => by rw [(q2 _ _ _ hr).1]; exact Ext.refl _⟩
      · obtain ⟨s, q1, q2⟩ := hands_alloc (P := P) (clsH_of hci (by decide) (by decide)) a.eval
        exact ⟨s, q1, fun v w2 hr => q2 _ _ _ hr⟩
    have e1 := execOp_put (ops := ops) oi hsi a ox.dst v h1
    have e2 := wanted_put (ops := ops) oi a ox.dst v h1
    rw [strict_wp hi, e2, if_pos hwi] at hk
    obtain ⟨u, w2, hsi2, hk2⟩ := hands_wp (s := si) (by unfold Hands at hhi ⊢; rw [e1]; exact hhi) hk
    rw [strict_wp hi, if_pos hwi]
    refine wp_hands hhi hsi2 ?_
    have e3 := execOp_put (ops := ops) ox hsx a oi.dst u h3
    have e4 := wanted_put (ops := ops) ox a oi.dst u h3
    rw [strict_wp hx, e4, if_pos hwx]
    refine wp_hands (s := sx) (by unfold Hands at hhx ⊢; rw [e3]; exact hhx) (hall w2 (hgi _ _ hsi2)) ?_
    rw [← Act.put_comm a v u h2]
    exact hk2
end
section
variable {hd : Oper → Nat} {P : Program} {ops : Array Oper} {Q : Exit → Act → World → Prop}

/-- The operations that must stand before an operation, as bits. -/
def maskOf (acc : List Nat) (o : Oper) : Nat := o.after.toList.foldl (fun s e => if Region.binds .any e then s ||| 2 ^ e.on ||| acc.getD e.on 0 else s) 0
def masks (l : List Oper) : List Nat := l.foldl (fun acc o => acc ++ [maskOf acc o]) []
inductive Reaches (ops : Array Oper) : Nat → Nat → Prop
  | one {i : Nat} {o : Oper} {e : Edge} : ops[i]? = some o → e ∈ o.after → Region.binds .any e = true → Reaches ops e.on i
  | far {i x : Nat} {o : Oper} {e : Edge} : ops[i]? = some o → e ∈ o.after → Region.binds .any e = true → Reaches ops x e.on → Reaches ops x i
theorem fold_mask (acc : List Nat) (x : Nat) (l : List Edge) : ∀ s, (l.foldl (fun s e => if Region.binds .any e then s ||| 2 ^ e.on ||| acc.getD e.on 0 else s) s).testBit x = true →
    s.testBit x = true ∨ ∃ e ∈ l, Region.binds .any e = true ∧ (x = e.on ∨ (acc.getD e.on 0).testBit x = true) := by
  induction l with
  | nil => intro s h; exact .inl h
  | cons e l ih =>
    intro s h
    simp only [List.foldl_cons] at h
    rcases ih _ h with h' | ⟨e', he', hb, h'⟩
    · split at h'
      · rename_i hb
        simp only [Nat.testBit_or, Bool.or_eq_true, Nat.testBit_two_pow, decide_eq_true_eq] at h'
        rcases h' with (h' | h') | h'
        · exact .inl h'
        · exact .inr ⟨e, List.mem_cons_self, hb, .inl h'.symm⟩
        · exact .inr ⟨e, List.mem_cons_self, hb, .inr h'⟩
      · exact .inl h'
    · exact .inr ⟨e', List.mem_cons_of_mem _ he', hb, h'⟩
theorem masks_reach (l2 : List Oper) : ∀ (l1 : List Oper) (acc : List Nat), ops.toList = l1 ++ l2 → acc.length = l1.length → (∀ i x, (acc.getD i 0).testBit x = true → Reaches ops x i) →
    ∀ i x, ((l2.foldl (fun acc o => acc ++ [maskOf acc o]) acc).getD i 0).testBit x = true → Reaches ops x i := by
  induction l2 with
  | nil => intro l1 acc _ _ h; exact h
  | cons o l2 ih =>
    intro l1 acc hl hlen h
    simp only [List.foldl_cons]
    refine ih (l1 ++ [o]) (acc ++ [maskOf acc o]) (by rw [hl]; simp) (by simp [hlen]) fun i x hx => ?_
    rcases Nat.lt_trichotomy i acc.length with hi | hi | hi
    · rw [List.getD_eq_getElem?_getD, List.getElem?_append_left hi, ← List.getD_eq_getElem?_getD] at hx
      exact h i x hx
    · subst hi
      simp only [List.getD_eq_getElem?_getD, List.getElem?_concat_length, Option.getD_some] at hx
      have ho : ops[acc.length]? = some o := by
        rw [← Array.getElem?_toList, hl, hlen]
        simp
      rcases fold_mask acc x _ 0 hx with h0 | ⟨e, he, hb, h1 | h1⟩
      · simp at h0
      · subst h1; exact .one ho (Array.mem_toList_iff.1 he) hb
      · exact .far ho (Array.mem_toList_iff.1 he) hb (h _ _ h1)
    · rw [List.getD_eq_getElem?_getD, List.getElem?_eq_none (by simp; omega)] at hx
      simp at hx
/-- What must be listed is. -/
def DownClosed (ops : Array Oper) (listed : Array Bool) : Prop := ∀ i o e, ops[i]? = some o → listed.getD i false = true → e ∈ o.after → Region.binds .any e = true → listed.getD e.on false = true
theorem Reaches.listed {listed : Array Bool} (hd : DownClosed ops listed) {x i : Nat} (h : Reaches ops x i) : (∀ o e, ops[i]? = some o → e ∈ o.after → Region.binds .any e = true → listed.getD e.on false = true) → listed.getD x false = true := by
  induction h with
  | one ho he hb => intro hall; exact hall _ _ ho he hb
  | far ho he hb _ ih => intro hall; exact ih fun o e' ho' he' hb' => hd _ _ _ ho' (hall _ _ ho he hb) he' hb'

/-- The text's own order serves for all: what is looked at, closed. -/
def pairOk (hd : Oper → Nat) (ox oi : Oper) : Bool := ox.apart #[] oi && (clsH hd ox == 0 || clsH hd oi == 0 || (clsH hd ox == 1 && (clsH hd oi == 1 || clsH hd oi == 2)))
def textOk (hd : Oper → Nat) (l : List Oper) : Bool :=
  let ms := masks l
  let n := l.length
  Region.noSelect l.toArray &&
  (List.range n).all fun i =>
    match l[i]? with
    | none => true
    | some oi =>
      (oi.after.toList.all fun e => !Region.binds .any e || decide (e.on < i)) &&
      (List.range n).all fun x =>
        match l[x]? with
        | none => true
        | some ox =>
          ((ms.getD i 0).testBit x || !(match ox.dst with | some d => (oi.looksAt l.toArray).contains d | none => false)) &&
          (!decide (x < i) || (ms.getD i 0).testBit x || (ox.apart l.toArray oi && (clsH hd ox == 0 || clsH hd oi == 0 || (clsH hd ox == 1 && (clsH hd oi == 1 || clsH hd oi == 2)))))
end
section
variable {hd : Oper → Nat} {P : Program} {ops : Array Oper} {Q : Exit → Act → World → Prop}

theorem Reaches.lt (hF : ∀ i o e, ops[i]? = some o → e ∈ o.after → Region.binds .any e = true → e.on < i) {x i : Nat} (h : Reaches ops x i) : x < i := by
  induction h with
  | one ho he hb => exact hF _ _ _ ho he hb
  | far ho he hb _ ih => exact Nat.lt_trans ih (hF _ _ _ ho he hb)

theorem calmAt_congr {ρ ρ' : Operand → Value} {o : Oper} (h : ∀ x ∈ o.op.operands, ρ x = ρ' x) : calmAt P ρ o = calmAt P ρ' o := by
  unfold calmAt
  cases ho : o.op <;> (try simp only []) <;> try rfl
  all_goals (simp only [ho, Op.operands, Call.operands] at h)
  · rw [h _ (by simp)]
  · rw [h _ (by simp), h _ (by simp)]
  · rw [h _ (by simp)]
  · rename_i c
    obtain ⟨ce, ca, cat⟩ := c
    cases ce <;> (try simp only []) <;> try rfl
    rename_i b
    cases b <;> (try simp only []) <;> try rfl
    cases hl : ca.toList with
    | nil => rfl
    | cons x t =>
      cases t with
      | cons y t => rfl
      | nil => simp only []; rw [h x (by simp [← Array.mem_toList_iff, hl])]

/-- The run to the end leaves what nobody writes. -/
theorem wpOps_end (l : List Nat) : ∀ (a : Act) (w : World), wpOps P ops (TQ hd P ops Q) l a w →
    ∃ af wf, TQ hd P ops Q .normal af wf ∧ ∀ t, (∀ y ∈ l, ∀ o, ops[y]? = some o → o.dst ≠ some t) → af.tmps[t]? = a.tmps[t]? := by
  induction l with
  | nil => intro a w h; exact ⟨a, w, h, fun _ _ => rfl⟩
  | cons i l ih =>
    intro a w h
    rw [wpOps_cons] at h
    cases ho : ops[i]? with
    | none =>
      have h' : wpOps P ops (TQ hd P ops Q) l a w := by unfold wpOp at h; simpa [ho] using h
      obtain ⟨af, wf, h1, h2⟩ := ih a w h'
      exact ⟨af, wf, h1, fun t ht => h2 t fun y hy => ht y (List.mem_cons_of_mem _ hy)⟩
    | some o =>
      obtain ⟨a1, w1, ⟨u, ds, rfl⟩, hk⟩ := wp_some ho (wp_frame ho h)
      obtain ⟨af, wf, h1, h2⟩ := ih _ w1 hk
      refine ⟨af, wf, h1, fun t ht => (h2 t fun y hy => ht y (List.mem_cons_of_mem _ hy)).trans ?_⟩
      have hne := ht i List.mem_cons_self o ho
      cases hd : o.dst with
      | none => rfl
      | some d =>
        have : d ≠ t := fun e => hne (by rw [hd, e])
        simp [Act.put, Array.getElem?_setIfInBounds_ne this]

/-- What the end says of an operation holds here already. -/
theorem calm_here {l : List Nat} {a : Act} {w : World} {z : Nat} {oz : Oper} (hz : ops[z]? = some oz) (h : wpOps P ops (TQ hd P ops Q) l a w)
    (hst : ∀ y ∈ l, ∀ oy d, ops[y]? = some oy → oy.dst = some d → d ∉ oz.looksAt ops) (hcl : clsH hd oz = 0) : Region.wanted oz (yielded ops a.tmps) = true → calmAt P a.eval oz = true := by
  obtain ⟨af, wf, h1, h2⟩ := wpOps_end l a w h
  have h3 := h1.1
  simp only [calmAll, List.all_eq_true] at h3
  have h4 := h3 oz (Array.mem_toList_iff.2 (Array.mem_of_getElem? hz))
  have hag : ∀ t ∈ oz.looksAt ops, af.tmps[t]? = a.tmps[t]? := fun t ht => h2 t fun y hy oy hoy hd => hst y hy oy t hoy hd ht
  have he : ∀ x ∈ oz.op.operands, af.eval x = a.eval x := fun x hx => by
    cases x with
    | tmp t =>
      have := hag t (List.mem_append_left _ (List.mem_filterMap.2 ⟨.tmp t, by simpa using hx, rfl⟩))
      simp [Act.eval, this]
    | _ => rfl
  have hw : Region.wanted oz (yielded ops af.tmps) = Region.wanted oz (yielded ops a.tmps) := by
    unfold Region.wanted
    cases hg : oz.guard with
    | none => rfl
    | some gw =>
      obtain ⟨g, want⟩ := gw
      have : yielded ops af.tmps g = yielded ops a.tmps g := by
        unfold yielded
        cases ht : (ops[g]?).bind (·.dst) with
        | none => rfl
        | some t =>
          have := hag t (by simp [Oper.looksAt, hg, ht])
          simp [this]
      simp only [this]
  rw [hw, calmAt_congr he, hcl] at h4
  intro hwant
  simpa [hwant] using h4

variable (hF : ∀ i o e, ops[i]? = some o → e ∈ o.after → Region.binds .any e = true → e.on < i)
  (hW : ∀ x i ox oi d, ops[x]? = some ox → ops[i]? = some oi → ox.dst = some d → d ∈ oi.looksAt ops → Reaches ops x i)
  (hP : ∀ x i ox oi, x < i → ops[x]? = some ox → ops[i]? = some oi → Reaches ops x i ∨ (ox.apart ops oi = true ∧ (clsH hd ox = 0 ∨ clsH hd oi = 0 ∨ (clsH hd ox = 1 ∧ (clsH hd oi = 1 ∨ clsH hd oi = 2)))))
  (hS : Region.noSelect ops = true)
include hF hW hP hS

theorem move {i : Nat} {oi : Oper} {l2 : List Nat} (hi : ops[i]? = some oi) (h2 : ∀ y ∈ l2, i < y) : ∀ (l1 : List Nat), l1.Pairwise (· < ·) → (∀ x ∈ l1, x < i ∧ x < ops.size ∧ ¬ Reaches ops x i) → (∀ y ∈ l2, ¬ Reaches ops y i) →
    ∀ (a : Act) (w : World), wpOps P ops (TQ hd P ops Q) (l1 ++ i :: l2) a w → wpOp P ops (TQ hd P ops Q) i (wpOps P ops (TQ hd P ops Q) (l1 ++ l2)) a w := by
  intro l1
  induction l1 with
  | nil => intro _ _ _ a w h; rwa [List.nil_append, wpOps_cons] at h
  | cons x t ih =>
    intro hp h1 hr a w h
    obtain ⟨hxi, hxn, hxr⟩ := h1 x List.mem_cons_self
    obtain ⟨ox, hx⟩ : ∃ ox, ops[x]? = some ox := ⟨ops[x], Array.getElem?_eq_getElem hxn⟩
    obtain ⟨hap, hcl⟩ := (hP x i ox oi hxi hx hi).resolve_left hxr
    have hsel := Region.noSelect_spec hS
    have hnow : ∀ z oz, ops[z]? = some oz → (∀ y ∈ x :: t ++ i :: l2, ¬ Reaches ops y z) → ∀ y ∈ x :: t ++ i :: l2, ∀ oy d, ops[y]? = some oy → oy.dst = some d → d ∉ oz.looksAt ops :=
      fun z oz hz hn y hy oy d hoy hd hm => hn y hy (hW y z oy oz d hoy hz hd hm)
    have hx1 : ∀ y ∈ x :: t ++ i :: l2, ¬ Reaches ops y x := fun y hy hre => by
      have hlt := hre.lt hF
      rcases List.mem_append.1 hy with hy | hy
      · rcases List.mem_cons.1 hy with rfl | hy
        · omega
        · have := List.rel_of_pairwise_cons hp hy; omega
      · rcases List.mem_cons.1 hy with rfl | hy
        · omega
        · have := h2 y hy; omega
    have hi1 : ∀ y ∈ x :: t ++ i :: l2, ¬ Reaches ops y i := fun y hy hre => by
      rcases List.mem_append.1 hy with hy | hy
      · exact (h1 y hy).2.2 hre
      · rcases List.mem_cons.1 hy with rfl | hy
        · exact Nat.lt_irrefl _ (hre.lt hF)
        · exact hr y hy hre
    have c1 := calm_here hx h (hnow x ox hx hx1)
    have c2 := calm_here hi h (hnow i oi hi hi1)
    have h' : wpOp P ops (TQ hd P ops Q) x (wpOps P ops (TQ hd P ops Q) (t ++ i :: l2)) a w := by
      rw [← wpOps_cons]; exact h
    have h'' := wpOp_mono (fun a1 w1 hk => ih (List.Pairwise.of_cons hp) (fun y hy => h1 y (List.mem_cons_of_mem _ hy)) hr a1 w1 hk) h'
    have h3 := swap hx hi hap (hsel x ox · · hx) (hsel i oi · · hi) (by
      rcases hcl with hc | hc | hc
      · exact .inl (c1 hc)
      · exact .inr (.inl (c2 hc))
      · exact .inr (.inr hc)) h''
    exact wpOp_mono (fun a1 w1 hk => by rw [List.cons_append, wpOps_cons]; exact hk) h3

def rest (ops : Array Oper) (listed : Array Bool) : List Nat := (List.range ops.size).filter fun i => !listed.getD i true

theorem any_of_text : ∀ (fuel : Nat) (listed : Array Bool) (a : Act) (w : World), listed.size = ops.size → DownClosed ops listed → (rest ops listed).length ≤ fuel →
    wpOps P ops (TQ hd P ops Q) (rest ops listed) a w → wpAny P .any ops (TQ hd P ops Q) fuel listed a w := by
  have hno : ∀ listed : Array Bool, listed.size = ops.size → Region.ready .any ops listed = [] → rest ops listed = [] := fun listed hsz hr => by
    cases hl : rest ops listed with
    | nil => rfl
    | cons i t =>
      exfalso
      have hmem : i ∈ rest ops listed := by rw [hl]; exact List.mem_cons_self
      have hsort : (rest ops listed).Pairwise (· < ·) := List.Pairwise.filter _ List.pairwise_lt_range
      obtain ⟨hin, hun⟩ := List.mem_filter.1 hmem
      have hin' := List.mem_range.1 hin
      have hun' : listed.getD i true = false := by simpa using hun
      have : i ∈ Region.ready .any ops listed := by
        rw [mem_ready]
        refine ⟨hun', ops[i], Array.getElem?_eq_getElem hin', fun e he hb => ?_⟩
        have hlt := hF i _ e (Array.getElem?_eq_getElem hin') he hb
        have hsz' : e.on < listed.size := by omega
        cases hq : listed.getD e.on true with
        | true => simpa [hsz'] using hq
        | false =>
          have : e.on ∈ rest ops listed := List.mem_filter.2 ⟨List.mem_range.2 (by omega), by simp only [hq]; rfl⟩
          rw [hl] at this hsort
          rcases List.mem_cons.1 this with h | h
          · omega
          · have := List.rel_of_pairwise_cons hsort h; omega
      rw [hr] at this
      cases this
  intro fuel
  induction fuel with
  | zero =>
    intro listed a w hsz _ hlen h
    have hz : rest ops listed = [] := List.eq_nil_of_length_eq_zero (by omega)
    rw [hz] at h
    refine ⟨?_, h⟩
    cases hr : Region.ready .any ops listed with
    | nil => rfl
    | cons i t =>
      exfalso
      have hm : i ∈ Region.ready .any ops listed := by rw [hr]; exact List.mem_cons_self
      obtain ⟨hun, o, ho, _⟩ := mem_ready.1 hm
      have : i ∈ rest ops listed := List.mem_filter.2 ⟨List.mem_range.2 (Array.getElem?_eq_some_iff.1 ho).1, by simp only [hun]; rfl⟩
      rw [hz] at this; cases this
  | succ fuel ih =>
    intro listed a w hsz hdc hlen h
    refine ⟨fun hr => by rw [hno listed hsz hr] at h; exact h, fun i hi => ?_⟩
    obtain ⟨hun, oi, hoi, hall⟩ := mem_ready.1 hi
    have hin : i < ops.size := (Array.getElem?_eq_some_iff.1 hoi).1
    have hrange : List.range ops.size = List.range i ++ i :: List.range' (i + 1) (ops.size - i - 1) := by
      rw [List.range_eq_range', List.range_eq_range', show ops.size = i + ((ops.size - i - 1) + 1) by omega, ← List.range'_append_1]
      simp only [Nat.zero_add, List.range'_succ]
      congr 3
      omega
    have hnr : ∀ y, listed.getD y true = false → y < ops.size → ¬ Reaches ops y i := fun y hy hyn hre => by
      have := hre.listed hdc (fun o e ho he hb => by rw [hoi] at ho; cases ho; exact hall e he hb)
      have hyl : y < listed.size := by omega
      simp [hyl] at hy this
      rw [hy] at this; cases this
    have hsplit : rest ops listed = (List.range i).filter (fun j => !listed.getD j true) ++ i :: (List.range' (i + 1) (ops.size - i - 1)).filter (fun j => !listed.getD j true) := by
      unfold rest
      rw [hrange, List.filter_append, List.filter_cons]
      simp only [hun]; rfl
    have hset : rest ops (listed.setIfInBounds i true) = (List.range i).filter (fun j => !listed.getD j true) ++ (List.range' (i + 1) (ops.size - i - 1)).filter (fun j => !listed.getD j true) := by
      unfold rest
      rw [hrange, List.filter_append, List.filter_cons]
      have hii : (listed.setIfInBounds i true).getD i true = true := by
        have : i < listed.size := by omega
        simp [this]
      simp only [hii, Bool.not_true, Bool.false_eq_true, if_false]
      congr 1
      · refine List.filter_congr fun j hj => ?_
        rw [getD_set_ne true (by have := List.mem_range.1 hj; omega)]
      · refine List.filter_congr fun j hj => ?_
        rw [getD_set_ne true (by have := List.mem_range'_1.1 hj; omega)]
    rw [hsplit] at h
    have hm := move hF hW hP hS hoi (fun y hy => by have := List.mem_range'_1.1 (List.mem_filter.1 hy).1; omega) _ (List.Pairwise.filter _ List.pairwise_lt_range)
      (fun x hx => by
        obtain ⟨hx1, hx2⟩ := List.mem_filter.1 hx
        have hx1' := List.mem_range.1 hx1
        exact ⟨hx1', by omega, hnr x (by simpa using hx2) (by omega)⟩)
      (fun y hy => by
        obtain ⟨hy1, hy2⟩ := List.mem_filter.1 hy
        have hy1' := List.mem_range'_1.1 hy1
        exact hnr y (by simpa using hy2) (by omega)) a w h
    refine wpOp_mono (fun a1 w1 hk => ih _ a1 w1 (by simpa using hsz) ?_ ?_ (by rw [hset]; exact hk)) hm
    · intro j o e ho hj he hb
      by_cases hji : i = j
      · subst hji
        rw [hoi] at ho; cases ho
        exact getD_set_true (hall e he hb)
      · rw [getD_set_ne false hji] at hj
        exact getD_set_true (hdc j o e ho hj he hb)
    · rw [hset]
      rw [hsplit] at hlen
      simp only [List.length_append, List.length_cons] at hlen ⊢
      omega
end

/-- A REGION THAT DRAWS ITS ORDER, WALKED IN THE TEXT's. -/
theorem wp_region_butN (hd : Oper → Nat) {P : Program} {Q : Exit → Act → World → Prop} {l : List Oper} {id : Nat} {a : Act} {w : World} (hm : P.follows .mixedOrders = true) (hok : textOk hd l = true)
    (h : wpList P l.toArray (TQ hd P l.toArray Q) l a w.drew) : (Code.region id l.toArray true).wp P Q a w := by
  have hn : l.toArray.toList = l := rfl
  simp only [textOk, Bool.and_eq_true, List.all_eq_true, List.mem_range] at hok
  obtain ⟨hS, hok⟩ := hok
  have get : ∀ {i o}, l.toArray[i]? = some o → i < l.length ∧ l[i]? = some o := fun {i o} h => by
    have h' : l[i]? = some o := by simpa using h
    exact ⟨(List.getElem?_eq_some_iff.1 h').1, h'⟩
  have hreach : ∀ i x, ((masks l).getD i 0).testBit x = true → Reaches l.toArray x i :=
    masks_reach (ops := l.toArray) l [] [] (by simp) rfl (fun i x h => by simp at h)
  have hF : ∀ i o e, l.toArray[i]? = some o → e ∈ o.after → Region.binds .any e = true → e.on < i := fun i o e ho he hb => by
    obtain ⟨hi, ho'⟩ := get ho
    have h1 := hok i hi
    simp only [ho', Bool.and_eq_true, List.all_eq_true] at h1
    have h2 := h1.1 e (Array.mem_toList_iff.2 he)
    simpa [hb] using h2
  have hpair : ∀ i x oi ox, l.toArray[i]? = some oi → l.toArray[x]? = some ox → _ := fun i x oi ox hoi hox => by
    obtain ⟨hi, ho'⟩ := get hoi
    obtain ⟨hx, hx'⟩ := get hox
    have h1 := hok i hi
    simp only [ho', Bool.and_eq_true, List.all_eq_true, List.mem_range] at h1
    have h2 := h1.2 x hx
    simp only [hx', Bool.and_eq_true, Bool.or_eq_true] at h2
    exact h2
  refine wp_mono (wp_region_any hm (any_of_text (hd := hd) (Q := Q) hF ?_ ?_ hS _ _ a w.drew (by simp) ?_ ?_ ?_)) (fun e a w hq => ?_)
  · intro x i ox oi d hox hoi hd hmem
    rcases (hpair i x oi ox hoi hox).1 with h1 | h1
    · exact hreach i x h1
    · rw [hd] at h1; simp [hmem] at h1
  · intro x i ox oi hlt hox hoi
    rcases (hpair i x oi ox hoi hox).2 with (h1 | h1) | h1
    · simp [hlt] at h1
    · exact .inl (hreach i x h1)
    · refine .inr ⟨h1.1, ?_⟩
      rcases h1.2 with (h2 | h2) | h2
      · exact .inl (by simpa using h2)
      · exact .inr (.inl (by simpa using h2))
      · exact .inr (.inr ⟨by simpa using h2.1, h2.2.imp (by simp) (by simp)⟩)
  · intro i o e _ hl
    exfalso
    simp only [Array.getD_eq_getD_getElem?, Array.getElem?_replicate] at hl
    split at hl <;> simp at hl
  · unfold rest; exact Nat.le_trans (List.length_filter_le _ _) (by simp)
  · have : rest l.toArray (Array.replicate l.toArray.size false) = List.range l.toArray.size := by
      unfold rest
      refine List.filter_eq_self.2 fun j hj => ?_
      have := List.mem_range.1 hj
      simp at this
      simp [this]
    rw [this, List.range_eq_range', ← Array.length_toList, wpOps_eq_wpList l.toArray.toList 0 (by simp)]
    exact h
  · cases e <;> first | exact hq.2 | exact hq.elim | exact hq
theorem wp_region_but (hd : Oper → Bool) {P : Program} {Q : Exit → Act → World → Prop} {l : List Oper} {id : Nat} {a : Act} {w : World} (hm : P.follows .mixedOrders = true) (hok : textOk (hardN hd) l = true)
    (h : wpList P l.toArray (TQ (hardN hd) P l.toArray Q) l a w.drew) : (Code.region id l.toArray true).wp P Q a w := wp_region_butN (hardN hd) hm hok h
/-- A region that draws its order, all that a guard holds back left out. -/
theorem wp_region_dead (hd : Oper → Bool) (g : Nat × Bool) {P : Program} {Q : Exit → Act → World → Prop} {l : List Oper} {id : Nat} {a : Act} {w : World} (hm : P.follows .mixedOrders = true) (hok : textOk (deadN hd g) l = true)
    (h : wpList P l.toArray (TQ (deadN hd g) P l.toArray Q) l a w.drew) : (Code.region id l.toArray true).wp P Q a w := wp_region_butN (deadN hd g) hm hok h
theorem wp_region_text {P : Program} {Q : Exit → Act → World → Prop} {l : List Oper} {id : Nat} {a : Act} {w : World} (hm : P.follows .mixedOrders = true) (hok : textOk (fun _ => 0) l = true)
    (h : wpList P l.toArray (TQ (fun _ => 0) P l.toArray Q) l a w.drew) : (Code.region id l.toArray true).wp P Q a w := wp_region_butN (fun _ => 0) hm hok h
end Go.Sat
