/- The laws on single numbers, walked: each returns true and writes nothing that was there. Under no condition. -/
import Derived.Test.YtifcacjjmgjnhaaCa
import Derived.WalkSmall
namespace Go.Proofs.Ytifcacjjmgjnhaa
open Go Go.RowKit
set_option linter.unusedVariables false
set_option linter.unusedSimpArgs false

theorem lt_of_wf32 {b : Nat} (h : (Lit.float .f32 b).wf = true) : b < 2 ^ 32 := by simpa [Lit.wf] using h
theorem lt_of_wf64 {b : Nat} (h : (Lit.float .f64 b).wf = true) : b < 2 ^ 64 := by simpa [Lit.wf] using h

theorem walk_FnExactConstants (w : World) :
    Calls Try.prog 3 #[] w fun e w' => e = .returned (.bool true) ∧ Below w.heap.size w w' := by
  go_enter Try.func3, Try.ntmps3
  go_wp2
  go_ret
  exact ⟨rfl, Below.refl _ _⟩

theorem walk_FnExactBitsOf (x : Nat) (w : World) (wf : (Lit.float .f32 x).wf = true) :
    Calls Try.prog 4 #[.float .f32 x] w fun e w' => e = .returned (.bool true) ∧ Below w.heap.size w w' := by
  have hx := lt_of_wf32 wf
  clear wf
  go_enter Try.func4, Try.ntmps4
  go_wp2_with (first | go_at_call 15; go_in | (go_at_call 40; refine (spec_l01Bits _ _ hx).mono ?_; rintro e w' ⟨rfl, rfl⟩) | (go_at_call 16; refine (impl_BitsOf _ _ hx).mono ?_; rintro e w' ⟨rfl, rfl⟩))
  go_ret
  exact ⟨rfl, Below.refl _ _⟩

end Go.Proofs.Ytifcacjjmgjnhaa
