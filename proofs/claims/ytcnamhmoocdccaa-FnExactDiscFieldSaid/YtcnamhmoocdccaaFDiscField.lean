/- The law on FnExactDiscField, walked. Under no condition. -/
import Derived.Test.YtcnamhmoocdccaaDd
import Derived.Test.YtcnamhmoocdccaaLm
namespace Go.Proofs.Ytcnamhmoocdccaa
open Go Go.RowKit
set_option linter.unusedVariables false
set_option linter.unusedSimpArgs false

set_option maxHeartbeats 4000000 in
theorem core_FnExactDiscField (x y : Int) (r ok : Bool) (n : Nat) (V : Nat → Nat) (ax ay : Int) (ar : Bool) (bx bY bq : Nat) (hn : n ≤ 1048576)
    (hspec : ∀ w, Calls Try.prog 27 #[.int .i64 ax, .int .i64 ay, .bool ar, .float .f32 bx, .float .f32 bY, .float .f32 bq] w (FieldOut x y r ok n V w)) (himpl : ∀ w, Calls Try.prog 28 #[.int .i64 ax, .int .i64 ay, .bool ar, .float .f32 bx, .float .f32 bY, .float .f32 bq] w (FieldOut x y r ok n V w)) (w : World) :
    Calls Try.prog 8 #[.int .i64 ax, .int .i64 ay, .bool ar, .float .f32 bx, .float .f32 bY, .float .f32 bq] w fun e w' => e = .returned (.bool true) ∧ Below w.heap.size w w' := by
  have e1 : (ok != ok) = false := by simp
  have HS := Lib.hid hspec
  have HI := Lib.hid himpl
  clear hspec himpl
  go_enter Try.func8, Try.ntmps8
  go_wp2_with fail
  refine (HS.out _).mono ?_
  rintro e w1 ⟨v0, vs0, rfl, k1, F0, n0, s0⟩
  obtain ⟨a0, c0, rfl, h0⟩ := F0.at n0
  have Z0 := Lib.hid s0
  replace h0 := h0.keep (keep_own w1 (.cells #[.int .i64 x, .int .i64 y, .bool r, .slice a0 n c0] 46))
  have K := keep_trans k1 (keep_own w1 (.cells #[.int .i64 x, .int .i64 y, .bool r, .slice a0 n c0] 46))
  have A := box_in w1 x y r (.slice a0 n c0) 46
  clear F0 s0 k1
  go_wp2_with fail
  generalize w1.alloc (.cells #[.int .i64 x, .int .i64 y, .bool r, .slice a0 n c0] 46) = C at *
  generalize w1.heap.size = bA at *
  have KC := Below.refl C.heap.size C
  refine (HI.out _).mono ?_
  rintro e w2 ⟨v1, vs1, rfl, k2, F1, n1, s1⟩
  obtain ⟨a1, c1, rfl, h1⟩ := F1.at n1
  have Z1 := Lib.hid s1
  replace KC := keep_trans KC k2
  have B := box_in w2 x y r (.slice a1 n c1) 46
  have k3 := keep_own w2 (.cells #[.int .i64 x, .int .i64 y, .bool r, .slice a1 n c1] 46)
  have hne := F1.lt
  replace F1 := F1.keep k3
  replace h1 := h1.keep k3
  replace KC := keep_trans KC k3
  clear k2 s1 k3
  have c' := A.keep KC
  obtain ⟨_, p0, p1, p2, p3⟩ := c'
  have c' := B
  obtain ⟨_, b0, b1, b2, b3⟩ := c'
  go_wp2_with fail
  refine (laws_eqField x y r _ _ n _ _ vs1 vs0 _ h1 (h0.keep KC) hn (fun i hi => (Z1.out i hi).trans (Z0.out i hi).symm)).mono ?_
  rintro e w3 ⟨rfl, k3⟩
  replace KC := keep_trans KC k3
  replace F1 := F1.keep k3
  replace B := B.keep k3
  clear p0 p1 p2 p3 b0 b1 b2 b3 h1 k3
  have c' := B
  obtain ⟨_, b0, b1, b2, b3⟩ := c'
  go_wp2_with fail
  refine (laws_markField x y r C.heap.size _ vs1 1 _ F1 (by rw [n1]; exact hn) (by omega) (by omega) KC.size).mono ?_
  rw [n1]
  rintro e w4 ⟨rfl, g4, G1⟩
  replace KC := below_grown KC g4 (fun k e => (hne k e).1)
  replace B := B.grown g4 (fun e => by have := (hne _ e).2; omega)
  have h1 := G1.holds
  rw [marks_length] at h1
  clear F1 b0 b1 b2 b3 g4
  have c' := B
  obtain ⟨_, b0, b1, b2, b3⟩ := c'
  go_wp2_with fail
  refine (laws_heldField x y r a1 n c1 1 _ h1 hn (by omega) (by omega)).mono ?_
  rintro e w5 ⟨rfl, k5⟩
  replace KC := keep_trans KC k5
  replace B := B.keep k5
  replace h1 := h1.keep k5
  clear b0 b1 b2 b3 k5
  go_wp2_with fail
  refine (HI.out _).mono ?_
  rintro e w6 ⟨v2, vs2, rfl, k6, F2, n2, s2⟩
  obtain ⟨a2, c2, rfl, h2⟩ := F2.at n2
  have Z2 := Lib.hid s2
  have k7 := keep_own w6 (.cells #[.int .i64 x, .int .i64 y, .bool r, .slice a2 n c2] 46)
  have D := box_in w6 x y r (.slice a2 n c2) 46
  replace h2 := h2.keep k7
  replace h1 := (h1.keep k6).keep k7
  replace B := (B.keep k6).keep k7
  replace KC := keep_trans (keep_trans KC k6) k7
  clear F2 s2 k6 k7
  obtain ⟨_, p0, p1, p2, p3⟩ := A.keep KC
  have c' := D
  obtain ⟨_, d0, d1, d2, d3⟩ := c'
  go_wp2_with fail
  refine (laws_eqField x y r _ _ n _ _ vs2 vs0 _ h2 (h0.keep KC) hn (fun i hi => (Z2.out i hi).trans (Z0.out i hi).symm)).mono ?_
  rintro e w8 ⟨rfl, k8⟩
  replace KC := keep_trans KC k8
  replace B := B.keep k8
  replace h1 := h1.keep k8
  clear p0 p1 p2 p3 d0 d1 d2 d3 h2 k8
  have c' := B
  obtain ⟨_, b0, b1, b2, b3⟩ := c'
  go_wp2_with fail
  refine (laws_heldField x y r a1 n c1 1 _ h1 hn (by omega) (by omega)).mono ?_
  rintro e w9 ⟨rfl, k9⟩
  replace KC := keep_trans KC k9
  clear b0 b1 b2 b3 k9
  go_wp2
  go_ret
  exact ⟨rfl, keep_trans K KC⟩

theorem walk_FnExactDiscField (ax ay : Int) (ar : Bool) (bx bY bq : Nat) (w : World) (_ : (Lit.int .i64 ax).wf = true) (_ : (Lit.int .i64 ay).wf = true) (_ : (Lit.float .f32 bx).wf = true) (_ : (Lit.float .f32 bY).wf = true) (_ : (Lit.float .f32 bq).wf = true) : Calls Try.prog 8 #[.int .i64 ax, .int .i64 ay, .bool ar, .float .f32 bx, .float .f32 bY, .float .f32 bq] w fun e w' => e = .returned (.bool true) ∧ Below w.heap.size w w' := by
  cases hv : discB ax ay bx bY bq with
  | true =>
    have hs : sizeB ax ay = true := by simp [discB] at hv; exact hv.1.1.1
    obtain ⟨⟨hx1, hx2⟩, hy1, hy2⟩ := size_bounds hs
    obtain ⟨X, rfl⟩ : ∃ X : Nat, ax = X := ⟨ax.toNat, by omega⟩
    obtain ⟨Y, rfl⟩ : ∃ Y : Nat, ay = Y := ⟨ay.toNat, by omega⟩
    have hle : X * Y ≤ 16 * 16 := Nat.mul_le_mul (by omega) (by omega)
    exact core_FnExactDiscField X Y ar true (X * Y) (discV X Y ar bx bY bq) X Y ar bx bY bq (by omega) (fun w => spec_DiscField_yes X Y ar bx bY bq w hv) (fun w => impl_DiscField_yes X Y ar bx bY bq w hv) w
  | false => exact core_FnExactDiscField 0 0 false false 0 (fun _ => 0) ax ay ar bx bY bq (by omega) (fun w => spec_DiscField_no ax ay ar bx bY bq _ w hv) (fun w => impl_DiscField_no ax ay ar bx bY bq _ w hv) w

end Go.Proofs.Ytcnamhmoocdccaa
