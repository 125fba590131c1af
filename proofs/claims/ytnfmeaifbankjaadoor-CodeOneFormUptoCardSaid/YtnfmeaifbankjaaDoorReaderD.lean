import Derived.Test.YtnfmeaifbankjaaDoorReader2
set_option linter.unusedVariables false
namespace Go.Proofs.YtnfmeaifbankjaaDoor
open Go Go.RowKit Go.Sat
set_option maxRecDepth 100000 in
theorem rdu8_any (pb : Nat) (v : Value) (T : TypeId) (s : RS) (w : World) (h : IsR w pb v T met s) :
    Calls Tryd.prog 35 #[.pointer (some ⟨pb, 0, none⟩)] w fun e w' => e = .returned (.int .u8 (s.fixed 1).1) ∧ RStep w pb v T met (s.fixed 1).2 w' := by
  have hlt := RS.fixed_lt s 1
  go_enter Tryd.func35, Tryd.ntmps35
  go_wp2_with (go_at_call 49; refine (rdfixed_any pb v T s 1 _ h (by omega)).mono ?_; rintro e w1 ⟨rfl, hR⟩)
  go_ret
  exact ⟨rfl, hR⟩
set_option maxRecDepth 100000 in
theorem rdu64_any (pb : Nat) (v : Value) (T : TypeId) (s : RS) (w : World) (h : IsR w pb v T met s) :
    Calls Tryd.prog 20 #[.pointer (some ⟨pb, 0, none⟩)] w fun e w' => e = .returned (.int .u64 (s.fixed 8).1) ∧ RStep w pb v T met (s.fixed 8).2 w' := by
  go_enter Tryd.func20, Tryd.ntmps20
  go_wp2_with (go_at_call 49; refine (rdfixed_any pb v T s 8 _ h (by omega)).mono ?_; rintro e w1 ⟨rfl, hR⟩)
  go_ret
  exact ⟨rfl, hR⟩
end Go.Proofs.YtnfmeaifbankjaaDoor
