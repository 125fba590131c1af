import Derived.Test.YtafgeppdchnceaaDoorHash
import Derived.KernelRfl
set_option linter.unusedVariables false
/-! A million letters, reckoned by the kernel. -/
namespace Go.Sat
open Go
namespace Sha
theorem rot_parts (x A B n : Nat) (hx : x < 4294967296) (hA : A = 2 ^ n) (hB : B = 2 ^ (32 - n)) (hAB : A * B = 4294967296) : x * 4294967297 / A % 4294967296 = rotr x n := by
  have hA0 : 0 < A := by rw [hA]; exact Nat.pow_pos (by decide)
  have hB0 : 0 < B := by rw [hB]; exact Nat.pow_pos (by decide)
  have h1 : x * 4294967297 / A = x * B + x / A := by
    rw [show (4294967297 : Nat) = A * B + 1 from by rw [hAB], Nat.mul_add, Nat.mul_one, Nat.add_comm, show x * (A * B) = A * (x * B) from by rw [Nat.mul_left_comm], Nat.add_mul_div_left _ _ hA0, Nat.add_comm]
  have hd : x / A < B := (Nat.div_lt_iff_lt_mul hA0).2 (by rw [Nat.mul_comm, hAB]; exact hx)
  have hm : x % A < A := Nat.mod_lt _ hA0
  have h2 : x * B % 4294967296 = B * (x % A) := by
    rw [← hAB, Nat.mul_comm x B, Nat.mul_comm A B, Nat.mul_mod_mul_left]
  have h3 : x * B = 4294967296 * (x / A) + B * (x % A) := by
    have e : x = A * (x / A) + x % A := (Nat.div_add_mod x A).symm
    have : x * B = (A * (x / A) + x % A) * B := by rw [← e]
    rw [this, Nat.add_mul, Nat.mul_right_comm, hAB, Nat.mul_comm (x % A) B]
  have h4 : B * (x % A) + x / A < 4294967296 := by
    have : B * (x % A + 1) ≤ B * A := Nat.mul_le_mul_left B hm
    rw [Nat.mul_add, Nat.mul_one, Nat.mul_comm B A, hAB] at this
    omega
  have h5 : (x * B + x / A) % 4294967296 = B * (x % A) + x / A := by
    rw [h3, Nat.add_assoc, Nat.mul_add_mod, Nat.mod_eq_of_lt h4]
  rw [h1, h5]
  unfold rotr
  rw [← hA, ← hB, h2, Nat.or_comm, hB]
  exact Nat.two_pow_add_eq_or_of_lt (by rw [← hB]; exact hd) _
theorem xor3_mod (a b c : Nat) : (a ^^^ b ^^^ c) % 4294967296 = (a % 4294967296) ^^^ (b % 4294967296) ^^^ (c % 4294967296) := by
  have h := fun a b => Nat.xor_mod_two_pow (a := a) (b := b) (n := 32)
  rw [show (4294967296 : Nat) = 2 ^ 32 from rfl, h, h]
theorem S1_fast (e : Nat) (h : e < 4294967296) : (e * 4294967297 / 64 ^^^ e * 4294967297 / 2048 ^^^ e * 4294967297 / 33554432) % 4294967296 = S1 e := by
  rw [xor3_mod, rot_parts e 64 67108864 6 h rfl rfl rfl, rot_parts e 2048 2097152 11 h rfl rfl rfl, rot_parts e 33554432 128 25 h rfl rfl rfl]; rfl
theorem S0_fast (a : Nat) (h : a < 4294967296) : (a * 4294967297 / 4 ^^^ a * 4294967297 / 8192 ^^^ a * 4294967297 / 4194304) % 4294967296 = S0 a := by
  rw [xor3_mod, rot_parts a 4 1073741824 2 h rfl rfl rfl, rot_parts a 8192 524288 13 h rfl rfl rfl, rot_parts a 4194304 1024 22 h rfl rfl rfl]; rfl
namespace Fast
def force (n : Nat) (k : Nat → Bool) : Bool := Nat.rec (k 0) (fun m _ => k (Nat.succ m)) n
theorem force_eq (n : Nat) (k : Nat → Bool) : force n k = k n := by cases n <;> rfl
abbrev Fin8 := Nat → Nat → Nat → Nat → Nat → Nat → Nat → Nat → Bool
noncomputable def rounds (l : List Nat) (fin : Fin8) : Fin8 :=
  List.rec (motive := fun _ => Fin8) fin
    (fun k _ ih a b c d e f g h =>
      force (Nat.mul e 4294967297) fun y => force (Nat.mod (Nat.add (Nat.add (Nat.add h (Nat.mod (Nat.xor (Nat.xor (Nat.div y 64) (Nat.div y 2048)) (Nat.div y 33554432)) 4294967296)) (Nat.xor (Nat.land e f) (Nat.land (Nat.xor 4294967295 e) g))) k) 4294967296) fun p =>
      force (Nat.mul a 4294967297) fun z => force (Nat.mod (Nat.add (Nat.add p (Nat.mod (Nat.xor (Nat.xor (Nat.div z 4) (Nat.div z 8192)) (Nat.div z 4194304)) 4294967296)) (Nat.xor (Nat.xor (Nat.land a b) (Nat.land a c)) (Nat.land b c))) 4294967296) fun a' =>
      force (Nat.mod (Nat.add d p) 4294967296) fun e' => ih a' a b c e' e f g) l
noncomputable def blocks (kw : List Nat) (n : Nat) (fin : Fin8) : Fin8 :=
  Nat.rec (motive := fun _ => Fin8) fin
    (fun _ ih a b c d e f g h => rounds kw (fun a' b' c' d' e' f' g' h' =>
      force (Nat.mod (Nat.add a a') 4294967296) fun a => force (Nat.mod (Nat.add b b') 4294967296) fun b => force (Nat.mod (Nat.add c c') 4294967296) fun c => force (Nat.mod (Nat.add d d') 4294967296) fun d =>
      force (Nat.mod (Nat.add e e') 4294967296) fun e => force (Nat.mod (Nat.add f f') 4294967296) fun f => force (Nat.mod (Nat.add g g') 4294967296) fun g => force (Nat.mod (Nat.add h h') 4294967296) fun h => ih a b c d e f g h) a b c d e f g h) n
def same (a1 b1 c1 d1 e1 f1 g1 h1 : Nat) : Fin8 := fun a b c d e f g h => Nat.beq a a1 && Nat.beq b b1 && Nat.beq c c1 && Nat.beq d d1 && Nat.beq e e1 && Nat.beq f f1 && Nat.beq g g1 && Nat.beq h h1
def app (fin : Fin8) (v : V8) : Bool := fin v.a v.b v.c v.d v.e v.f v.g v.h
def rnd1 (v : V8) (k : Nat) : V8 := rnd v k 0
def ok (v : V8) : Prop := ∀ x ∈ v.list, x < 4294967296
theorem rounds_cons (k : Nat) (l : List Nat) (fin : Fin8) (a b c d e f g h : Nat) : rounds (k :: l) fin a b c d e f g h =
    rounds l fin (((h + (e * 4294967297 / 64 ^^^ e * 4294967297 / 2048 ^^^ e * 4294967297 / 33554432) % 4294967296 + ch e f g + k) % 4294967296 + (a * 4294967297 / 4 ^^^ a * 4294967297 / 8192 ^^^ a * 4294967297 / 4194304) % 4294967296 + maj a b c) % 4294967296) a b c
      ((d + (h + (e * 4294967297 / 64 ^^^ e * 4294967297 / 2048 ^^^ e * 4294967297 / 33554432) % 4294967296 + ch e f g + k) % 4294967296) % 4294967296) e f g := by
  have h1 : rounds (k :: l) fin a b c d e f g h = force (e * 4294967297) fun y => force ((h + (y / 64 ^^^ y / 2048 ^^^ y / 33554432) % 4294967296 + ch e f g + k) % 4294967296) fun p =>
      force (a * 4294967297) fun z => force ((p + (z / 4 ^^^ z / 8192 ^^^ z / 4194304) % 4294967296 + maj a b c) % 4294967296) fun a' =>
      force ((d + p) % 4294967296) fun e' => rounds l fin a' a b c e' e f g := rfl
  rw [h1]
  simp only [force_eq]
theorem rnd1_eq (v : V8) (k : Nat) : rnd1 v k = ⟨((v.h + S1 v.e + ch v.e v.f v.g + k) % 4294967296 + (S0 v.a + maj v.a v.b v.c) % 4294967296) % 4294967296, v.a, v.b, v.c, (v.d + (v.h + S1 v.e + ch v.e v.f v.g + k) % 4294967296) % 4294967296, v.e, v.f, v.g⟩ := by
  simp only [rnd1, rnd, Nat.add_zero]
theorem mod_three (P S M : Nat) : (P + (S + M) % 4294967296) % 4294967296 = (P + S + M) % 4294967296 := by omega
theorem rnd1_eq' (v : V8) (k : Nat) : rnd1 v k = ⟨((v.h + S1 v.e + ch v.e v.f v.g + k) % 4294967296 + S0 v.a + maj v.a v.b v.c) % 4294967296, v.a, v.b, v.c, (v.d + (v.h + S1 v.e + ch v.e v.f v.g + k) % 4294967296) % 4294967296, v.e, v.f, v.g⟩ := by
  rw [rnd1_eq, mod_three]
theorem app_mk (fin : Fin8) (a b c d e f g h : Nat) : app fin ⟨a, b, c, d, e, f, g, h⟩ = fin a b c d e f g h := rfl
theorem rounds_step (fin : Fin8) (k : Nat) (l : List Nat) (v : V8) (hv : ok v) : app (rounds (k :: l) fin) v = app (rounds l fin) (rnd1 v k) := by
  obtain ⟨a, b, c, d, e, f, g, h⟩ := v
  simp only [ok, V8.list, List.mem_cons, List.not_mem_nil, or_false, forall_eq_or_imp, forall_eq] at hv
  obtain ⟨ha, hb, hc, hd, he, hf, hg, hh⟩ := hv
  have e1 := S1_fast e he
  have e2 := S0_fast a ha
  rw [rnd1_eq', app_mk, app_mk, rounds_cons, e1, e2]
theorem rounds_eq (fin : Fin8) (l : List Nat) : ∀ (v : V8), ok v → app (rounds l fin) v = app fin (l.foldl rnd1 v) := by
  induction l with
  | nil => intro v _; rfl
  | cons k l ih =>
    intro v hv
    rw [rounds_step fin k l v hv, List.foldl_cons]
    exact ih (rnd1 v k) (rnd_lt hv k 0)
def step (kw : List Nat) (v : V8) : V8 := v.add (kw.foldl rnd1 v)
theorem add_ok (v u : V8) : ok (v.add u) := by
  simp only [ok, V8.add, V8.list, List.mem_cons, List.not_mem_nil, or_false, forall_eq_or_imp, forall_eq]
  exact ⟨Nat.mod_lt _ (by decide), Nat.mod_lt _ (by decide), Nat.mod_lt _ (by decide), Nat.mod_lt _ (by decide), Nat.mod_lt _ (by decide), Nat.mod_lt _ (by decide), Nat.mod_lt _ (by decide), Nat.mod_lt _ (by decide)⟩
def iter (kw : List Nat) : Nat → V8 → V8
  | 0, v => v
  | n + 1, v => iter kw n (step kw v)
theorem iter_add (kw : List Nat) : ∀ (n m : Nat) (v : V8), iter kw (n + m) v = iter kw m (iter kw n v)
  | 0, m, v => by rw [Nat.zero_add]; rfl
  | n + 1, m, v => by rw [Nat.add_right_comm]; exact iter_add kw n m (step kw v)
theorem blocks_succ (kw : List Nat) (fin : Fin8) (n : Nat) (a b c d e f g h : Nat) : blocks kw (n + 1) fin a b c d e f g h = rounds kw (fun a' b' c' d' e' f' g' h' => blocks kw n fin ((a + a') % 4294967296) ((b + b') % 4294967296) ((c + c') % 4294967296) ((d + d') % 4294967296) ((e + e') % 4294967296) ((f + f') % 4294967296) ((g + g') % 4294967296) ((h + h') % 4294967296)) a b c d e f g h := by
  have h1 : blocks kw (n + 1) fin a b c d e f g h = rounds kw (fun a' b' c' d' e' f' g' h' =>
      force ((a + a') % 4294967296) fun a => force ((b + b') % 4294967296) fun b => force ((c + c') % 4294967296) fun c => force ((d + d') % 4294967296) fun d =>
      force ((e + e') % 4294967296) fun e => force ((f + f') % 4294967296) fun f => force ((g + g') % 4294967296) fun g => force ((h + h') % 4294967296) fun h => blocks kw n fin a b c d e f g h) a b c d e f g h := rfl
  rw [h1]
  simp only [force_eq]
theorem blocks_eq (kw : List Nat) (fin : Fin8) : ∀ (n : Nat) (v : V8), ok v → app (blocks kw n fin) v = app fin (iter kw n v)
  | 0, v, _ => rfl
  | n + 1, v, hv => by
    have ih := blocks_eq kw fin n (step kw v) (add_ok _ _)
    have e := rounds_eq (fun a' b' c' d' e' f' g' h' => blocks kw n fin ((v.a + a') % 4294967296) ((v.b + b') % 4294967296) ((v.c + c') % 4294967296) ((v.d + d') % 4294967296) ((v.e + e') % 4294967296) ((v.f + f') % 4294967296) ((v.g + g') % 4294967296) ((v.h + h') % 4294967296)) kw v hv
    have s : app (blocks kw (n + 1) fin) v = app (rounds kw (fun a' b' c' d' e' f' g' h' => blocks kw n fin ((v.a + a') % 4294967296) ((v.b + b') % 4294967296) ((v.c + c') % 4294967296) ((v.d + d') % 4294967296) ((v.e + e') % 4294967296) ((v.f + f') % 4294967296) ((v.g + g') % 4294967296) ((v.h + h') % 4294967296))) v := blocks_succ kw fin n v.a v.b v.c v.d v.e v.f v.g v.h
    rw [s, e]
    exact ih
theorem of_same {kw : List Nat} {n : Nat} {v : V8} (hv : ok v) (a1 b1 c1 d1 e1 f1 g1 h1 : Nat) (h : app (blocks kw n (same a1 b1 c1 d1 e1 f1 g1 h1)) v = true) : iter kw n v = ⟨a1, b1, c1, d1, e1, f1, g1, h1⟩ := by
  rw [blocks_eq kw _ n v hv] at h
  generalize iter kw n v = u at h
  obtain ⟨a, b, c, d, e, f, g, i⟩ := u
  simp only [app, same, Bool.and_eq_true, Nat.beq_eq] at h
  obtain ⟨⟨⟨⟨⟨⟨⟨rfl, rfl⟩, rfl⟩, rfl⟩, rfl⟩, rfl⟩, rfl⟩, rfl⟩ := h
  rfl
theorem rnds_fold (K w : List Nat) (v : V8) : ∀ n, rnds K w v n = ((List.range n).map fun t => K.getD t 0 + w.getD t 0).foldl rnd1 v
  | 0 => rfl
  | n + 1 => by
    rw [List.range_succ, List.map_append, List.foldl_append, ← rnds_fold K w v n]
    simp only [rnds, List.map_cons, List.map_nil, List.foldl_cons, List.foldl_nil, rnd1, rnd, Nat.add_assoc, Nat.add_zero]
theorem mix_step (K : List Nat) (v : V8) (b : List UInt8) : mix K v b = step ((List.range 64).map fun t => K.getD t 0 + (sched (words b 16) 48).getD t 0) v := by
  unfold mix step
  rw [rnds_fold]
/-- The rounds' words over a block of the letter a. -/
def kwA : List Nat := [2750124281, 3533219314, 4683095344, 5554781446, 2595759036, 3142742866, 4087407621, 4504535094, 5258152953, 1944370274, 2240997151, 3060653860, 3558850261, 3795850079, 4248659976, 4881994453, 7962470397, 8149304770, 1109373709, 1449834259, 1332383432, 1811277571, 5697566716, 4336890837, 4651386783, 7023905028, 4167673427, 6075095564, 3506461443, 6222891004, 3100717738, 957412701, 3211936012, 2525724465, 5192624004, 2750766458, 3733122911, 5785415788, 5302099131, 4510137934, 4494867471, 3051847127, 6841751890, 5493434369, 5416391400, 6288792078, 4206943767, 1385611443, 2838015846, 4615462549, 2870002303, 4911289699, 3868675357, 5105900214, 4192983651, 4114851946, 2567787456, 3518289627, 3043469264, 3431775655, 2875437985, 3700493388, 7133747437, 3572068108]
theorem kwA_eq : ((List.range 64).map fun t => k0.getD t 0 + (sched (words (List.replicate 64 97) 16) 48).getD t 0) = kwA := by kernel_rfl
theorem mixA (v : V8) : mix k0 v (List.replicate 64 97) = step kwA v := by rw [mix_step, kwA_eq]
theorem iter_last (kw : List Nat) : ∀ (n : Nat) (v : V8), iter kw (n + 1) v = step kw (iter kw n v)
  | 0, _ => rfl
  | n + 1, v => iter_last kw n (step kw v)
theorem stateA : ∀ n : Nat, state k0 h0 (List.replicate (64 * n) 97) = iter kwA n h0
  | 0 => rfl
  | n + 1 => by
    have h := (state_full k0 h0 (List.replicate (64 * n) 97) (List.replicate 64 97) (by simp)).1
    have hr : rem (List.replicate (64 * n) (97 : UInt8)) = [] := List.eq_nil_of_length_eq_zero (by rw [rem_len]; simp)
    rw [List.replicate_append_replicate, hr, List.nil_append, stateA n, mixA] at h
    rw [iter_last, ← h]; rfl
end Fast
end Sha
end Go.Sat
