/- Laws on fields, walked: each returns true and writes nothing that was there. Under no condition. -/
import Derived.Test.YtbcocjakpnhmaaaFe
import Derived.Deep.RegionWith
namespace Go.Proofs.Ytbcocjakpnhmaaa
open Go Go.RowKit
set_option linter.unusedVariables false
set_option linter.unusedSimpArgs false

/-- What is told of a field that came in. -/
def FieldIn (w : World) (a : Option Addr) (len cap : Nat) (xs : List Nat) : Prop := FRow .f32 w a len cap xs

theorem left_neg {len : Nat} (h : 1048576 < len) : leftV len = -1 := by unfold leftV; rw [if_neg (by omega)]
theorem left_pos {len : Nat} (h : len ≤ 1048576) : leftV len = 1048576 - len := by unfold leftV; rw [if_pos h]

theorem box_in (w : World) (x y : Int) (r : Bool) (s : Value) (t : TypeId) : FieldAt (w.alloc (.cells #[.int .i64 x, .int .i64 y, .bool r, s] t)) w.heap.size x y r s :=
  ⟨by simp, by go_simp, by go_simp, by go_simp, by go_simp⟩
theorem keep_alloc (w : World) (o : Obj) : Below w.heap.size w (w.alloc o) := (Below.refl w.heap.size w).alloc (Nat.le_refl _) o

set_option maxHeartbeats 1000000 in
theorem walk_FnExactValidField (x y : Int) (r : Bool) (a : Option Addr) (len cap : Nat) (xs : List Nat) (w : World) (hr : FRow .f32 w a len cap xs) :
    Calls Try.prog 5 #[.agg #[.int .i64 x, .int .i64 y, .bool r, .slice a len cap]] w fun e w' => e = .returned (.bool true) ∧ Below w.heap.size w w' := by
  obtain ⟨hs, hlen, hcap, hmax, hfit⟩ := hr
  have hcap2 : len ≤ 9223372036854775807 := by unfold maxLen at hmax; omega
  clear hlen hfit hmax hcap
  by_cases h20 : len ≤ 1048576
  · have hleft := left_pos h20
    have K := keep_alloc w (.cells #[.int .i64 x, .int .i64 y, .bool r, .slice a len cap] 34)
    have A := box_in w x y r (.slice a len cap) 34
    replace hs := hs.keep K
    go_enter Try.func5, Try.ntmps5
    go_wp2_with fail
    refine (laws_szField x y r a len cap _ hcap2).mono ?_
    rintro e w1 ⟨rfl, k1⟩
    rw [hleft]
    clear hleft
    replace hs := hs.keep k1
    replace A := A.keep k1
    replace K := keep_trans K k1
    clear k1
    have A' := A
    obtain ⟨_, a0, a1, a2, a3⟩ := A'
    go_wp2_with fail
    refine (laws_toField x y r a len cap xs _ hs h20).mono ?_
    rintro e w2 ⟨B2, cur2, rfl, k2, hB2, o2, z2, c2⟩
    replace hs := hs.keep k2
    replace A := A.keep k2
    replace K := keep_trans K k2
    clear a0 a1 a2 a3 k2
    go_wp2_with fail
    refine (spec_ValidField x y r _ len len _ hcap2).mono ?_
    rintro e w3 ⟨rfl, k3⟩
    replace hs := hs.keep k3
    replace A := A.keep k3
    replace K := keep_trans K k3
    clear k3 o2
    have A' := A
    obtain ⟨_, a0, a1, a2, a3⟩ := A'
    go_wp2_with fail
    refine (laws_toField x y r a len cap xs _ hs h20).mono ?_
    rintro e w4 ⟨B4, cur4, rfl, k4, hB4, o4, z4, c4⟩
    have h4 := o4.holds c4
    replace hs := hs.keep k4
    replace A := A.keep k4
    replace K := keep_trans K k4
    clear a0 a1 a2 a3 k4
    have k5 := keep_alloc w4 (.cells #[.int .i64 x, .int .i64 y, .bool r, .slice (some ⟨B4, 0, none⟩) len len] 37)
    have X := box_in w4 x y r (.slice (some ⟨B4, 0, none⟩) len len) 37
    replace hs := hs.keep k5
    replace h4 := h4.keep k5
    replace A := A.keep k5
    replace K := keep_trans K k5
    clear k5 o4
    go_wp2_with fail
    refine (impl_ValidField x y r _ len len _ hcap2).mono ?_
    rintro e w6 ⟨rfl, k6⟩
    replace hs := hs.keep k6
    replace h4 := h4.keep k6
    replace A := A.keep k6
    replace X := X.keep k6
    replace K := keep_trans K k6
    clear k6
    have A' := A
    obtain ⟨al, a0, a1, a2, a3⟩ := A'
    have X' := X
    obtain ⟨xl, x0, x1, x2, x3⟩ := X'
    go_wp2_with fail
    go_region_with (first
      | (go_at_call 24; refine (laws_toField x y r a len cap xs _ (hs.drewN 1) h20).mono ?_; rintro e w7 ⟨B7, cur7, rfl, k7, hB7, o7, z7, c7⟩; obtain ⟨_, y0, y1, y2, y3⟩ := (X.drewN 1).keep k7)
      | (go_at_call 26; refine (laws_eqField x y r _ _ len _ _ xs xs _ ((h4.drewN 1).keep k7) (o7.holds c7) h20 (fun i _ => Same.refl _ _)).mono ?_; rintro e w8 ⟨rfl, k8⟩))
    all_goals
      go_wp2
      go_ret
      exact ⟨rfl, keep_trans (keep_trans (keep_drewN K 1) k7) k8⟩
  · have hleft := left_neg (Nat.not_le.1 h20)
    go_enter Try.func5, Try.ntmps5
    go_wp2_with (first | (go_at_call 22; refine (laws_szField x y r a len cap _ hcap2).mono ?_; rintro e w1 ⟨rfl, k1⟩; rw [hleft]))
    go_ret
    exact ⟨rfl, keep_trans ((Below.refl w.heap.size w).alloc (Nat.le_refl _) _) k1⟩

end Go.Proofs.Ytbcocjakpnhmaaa
