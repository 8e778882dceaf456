/- The laws on single numbers, walked: each returns true and writes nothing that was there. Under no condition. -/
import Derived.Test.YtifcacjjmgjnhaaCd
import Derived.WalkSmall
namespace Go.Proofs.Ytifcacjjmgjnhaa
open Go Go.RowKit
set_option linter.unusedVariables false
set_option linter.unusedSimpArgs false

theorem lt_of_wf32 {b : Nat} (h : (Lit.float .f32 b).wf = true) : b < 2 ^ 32 := by simpa [Lit.wf] using h
theorem lt_of_wf64 {b : Nat} (h : (Lit.float .f64 b).wf = true) : b < 2 ^ 64 := by simpa [Lit.wf] using h

theorem walk_FnExactConstants (w : World) :
    Calls Try.prog 3 #[] w fun e w' => e = .returned (.bool true) ∧ Below w.heap.size w w' := by
  go_enter Try.func3, Try.ntmps3
  go_wp2
  go_ret
  exact ⟨rfl, Below.refl _ _⟩

theorem walk_FnExactBitsOf (x : Nat) (w : World) (wf : (Lit.float .f32 x).wf = true) :
    Calls Try.prog 4 #[.float .f32 x] w fun e w' => e = .returned (.bool true) ∧ Below w.heap.size w w' := by
  have hx := lt_of_wf32 wf
  clear wf
  go_enter Try.func4, Try.ntmps4
  go_wp2_with (first | (go_at_call 15; go_in) | (go_at_call 40; refine (spec_l01Bits _ _ hx).mono ?_; rintro e w' ⟨rfl, rfl⟩) | (go_at_call 16; refine (impl_BitsOf _ _ hx).mono ?_; rintro e w' ⟨rfl, rfl⟩))
  all_goals (go_ret; exact ⟨rfl, by first | exact Below.refl _ _ | exact below_drewN (Below.refl _ _) _⟩)

theorem walk_FnExactIsSubnormal (x : Nat) (w : World) (wf : (Lit.float .f32 x).wf = true) :
    Calls Try.prog 5 #[.float .f32 x] w fun e w' => e = .returned (.bool true) ∧ Below w.heap.size w w' := by
  have hx := lt_of_wf32 wf
  clear wf
  go_enter Try.func5, Try.ntmps5
  go_wp2_with (first | (go_at_call 17; refine (spec_IsSubnormal _ _ hx).mono ?_; rintro e w' ⟨rfl, rfl⟩) | (go_at_call 18; refine (impl_IsSubnormal _ _).mono ?_; rintro e w' ⟨n0, rfl, rfl⟩))
  all_goals (go_ret; exact ⟨rfl, by first | exact Below.refl _ _ | exact below_drewN (Below.refl _ _) _⟩)

theorem walk_FnExactIsName (s : ByteArray) (w : World) (hs : s.size ≤ maxLen) :
    Calls Try.prog 6 #[.string s] w fun e w' => e = .returned (.bool true) ∧ Below w.heap.size w w' := by
  go_enter Try.func6, Try.ntmps6
  go_wp2_with (first | (go_at_call 19; refine (spec_IsName _ _ hs).mono ?_; rintro e w' ⟨rfl, rfl⟩) | (go_at_call 20; refine (impl_IsName _ _ hs).mono ?_; rintro e w' ⟨rfl, rfl⟩))
  all_goals (go_ret; exact ⟨rfl, by first | exact Below.refl _ _ | exact below_drewN (Below.refl _ _) _⟩)

theorem walk_FnExactSameNumber (x y : Nat) (w : World) (wf : (Lit.float .f32 x).wf = true) (wg : (Lit.float .f32 y).wf = true) :
    Calls Try.prog 7 #[.float .f32 x, .float .f32 y] w fun e w' => e = .returned (.bool true) ∧ Below w.heap.size w w' := by
  have hx := lt_of_wf32 wf
  have hy := lt_of_wf32 wg
  clear wf wg
  go_enter Try.func7, Try.ntmps7
  go_wp2_with (first | (go_at_call 21; refine (spec_SameNumber _ _ _ hx hy).mono ?_; rintro e w' ⟨rfl, rfl⟩) | (go_at_call 22; refine (impl_SameNumber _ _ _ hx hy).mono ?_; rintro e w' ⟨n0, rfl, rfl⟩))
  all_goals (go_ret; exact ⟨rfl, by first | exact Below.refl _ _ | exact below_drewN (Below.refl _ _) _⟩)

theorem walk_FnExactFromBits (m : Int) (w : World) (wf : (Lit.int .i64 m).wf = true) :
    Calls Try.prog 8 #[.int .i64 m] w fun e w' => e = .returned (.bool true) ∧ Below w.heap.size w w' := by
  go_enter Try.func8, Try.ntmps8
  go_wp2_with (first | (go_at_call 23; refine (spec_FromBits _ _).mono ?_; rintro e w' ⟨rfl, rfl⟩) | (go_at_call 24; refine (impl_FromBits _ _).mono ?_; rintro e w' ⟨rfl, rfl⟩) | (refine wpList_farith rfl _ _ _ _ _ rfl rfl _ _ _ rfl rfl ?_; rintro r n ⟨hr⟩ hl; simp only [fbin] at hr) | (refine wpList_fwid rfl _ _ _ rfl _ rfl (by rw [Try.underlying23]; rfl) Try.underlying31 ?_; rintro r n ⟨hr⟩ hl) | (go_at_call 25; refine (sameFloat_true _ _ _ ⟨by simp only [fwid, fconv, *]⟩).mono ?_; rintro e w' ⟨n5, rfl, rfl⟩))
  all_goals (go_ret; exact ⟨rfl, by first | exact Below.refl _ _ | exact below_drewN (Below.refl _ _) _⟩)

theorem walk_FnExactCheckOf (m : Int) (s : ByteArray) (w : World) (wf : (Lit.int .i64 m).wf = true) (hs : s.size ≤ maxLen) :
    Calls Try.prog 9 #[.int .i64 m, .string s] w fun e w' => e = .returned (.bool true) ∧ Below w.heap.size w w' := by
  go_enter Try.func9, Try.ntmps9
  go_wp2_with (first | (go_at_call 26; refine (spec_CheckOf _ _ _ hs).mono ?_; rintro e w' ⟨rfl, rfl⟩) | (go_at_call 27; refine (impl_CheckOf _ _ _ hs).mono ?_; rintro e w' ⟨rfl, rfl⟩))
  all_goals (go_ret; exact ⟨rfl, by first | exact Below.refl _ _ | exact below_drewN (Below.refl _ _) _⟩)

theorem walk_FnExactIsFinite (x : Nat) (w : World) (wf : (Lit.float .f32 x).wf = true) :
    Calls Try.prog 10 #[.float .f32 x] w fun e w' => e = .returned (.bool true) ∧ Below w.heap.size w w' := by
  have hx := lt_of_wf32 wf
  clear wf
  go_enter Try.func10, Try.ntmps10
  go_wp2_with (first | (go_at_call 28; go_in) | (go_at_call 51; refine (spec_l01Finite _ _).mono ?_; rintro e w' ⟨n0, rfl, rfl⟩) | (go_at_call 29; refine (impl_IsFinite _ _).mono ?_; rintro e w' ⟨n0, rfl, rfl⟩))
  all_goals (go_ret; exact ⟨rfl, by first | exact Below.refl _ _ | exact below_drewN (Below.refl _ _) _⟩)

theorem walk_FnExactFlushNumber (x : Nat) (w : World) (wf : (Lit.float .f32 x).wf = true) :
    Calls Try.prog 11 #[.float .f32 x] w fun e w' => e = .returned (.bool true) ∧ Below w.heap.size w w' := by
  have hx := lt_of_wf32 wf
  clear wf
  go_enter Try.func11, Try.ntmps11
  go_wp2_with (first | (go_at_call 30; go_in) | (go_at_call 53; refine (spec_l01Flush _ _ hx).mono ?_; rintro e w' ⟨rfl, rfl⟩) | (go_at_call 31; refine (impl_FlushNumber _ _ hx).mono ?_; rintro e w' ⟨r0, n0, rfl, ⟨hs⟩, rfl⟩) | (refine wpList_farith rfl _ _ _ _ _ rfl rfl _ _ _ rfl rfl ?_; rintro r n ⟨hr⟩ hl; simp only [fbin] at hr) | (refine wpList_fwid rfl _ _ _ rfl _ rfl (by rw [Try.underlying23]; rfl) Try.underlying31 ?_; rintro r n ⟨hr⟩ hl) | (go_at_call 25; refine (sameFloat_true _ _ _ ⟨by simp only [fwid, fconv, *]⟩).mono ?_; rintro e w' ⟨n5, rfl, rfl⟩))
  all_goals (go_ret; exact ⟨rfl, by first | exact Below.refl _ _ | exact below_drewN (Below.refl _ _) _⟩)

theorem walk_FnExactRootNumber (x : Nat) (w : World) (wf : (Lit.float .f32 x).wf = true) :
    Calls Try.prog 14 #[.float .f32 x] w fun e w' => e = .returned (.bool true) ∧ Below w.heap.size w w' := by
  have hx := lt_of_wf32 wf
  clear wf
  go_enter Try.func14, Try.ntmps14
  go_wp2_with (first | (go_at_call 38; go_in) | (go_at_call 58; refine (spec_l01Sqrt _ _).mono ?_; rintro e w' ⟨r0, n0, rfl, ⟨hs⟩, hl0, rfl⟩) | (go_at_call 39; refine (impl_RootNumber _ _).mono ?_; rintro e w' ⟨r0, n0, rfl, ⟨hs⟩, hl0, rfl⟩) | (refine wpList_farith rfl _ _ _ _ _ rfl rfl _ _ _ rfl rfl ?_; rintro r n ⟨hr⟩ hl; simp only [fbin] at hr) | (refine wpList_fwid rfl _ _ _ rfl _ rfl (by rw [Try.underlying23]; rfl) Try.underlying31 ?_; rintro r n ⟨hr⟩ hl) | (go_at_call 25; refine (sameFloat_true _ _ _ ⟨by simp only [fwid, fconv, *]⟩).mono ?_; rintro e w' ⟨n5, rfl, rfl⟩))
  all_goals (go_ret; exact ⟨rfl, by first | exact Below.refl _ _ | exact below_drewN (Below.refl _ _) _⟩)

end Go.Proofs.Ytifcacjjmgjnhaa
