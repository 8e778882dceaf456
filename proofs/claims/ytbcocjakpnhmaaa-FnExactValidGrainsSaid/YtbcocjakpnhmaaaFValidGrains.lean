/- The law on ValidGrains, walked. Under no condition. -/
import Derived.Test.YtbcocjakpnhmaaaGq
import Derived.Deep.RegionWith
namespace Go.Proofs.Ytbcocjakpnhmaaa
open Go Go.RowKit
set_option linter.unusedVariables false
set_option linter.unusedSimpArgs false

theorem gkeep_alloc (w : World) (o : Obj) : Below w.heap.size w (w.alloc o) := (Below.refl w.heap.size w).alloc (Nat.le_refl _) o

set_option maxHeartbeats 1000000 in
theorem walk_FnExactValidGrains (x y : Int) (a : Option Addr) (len cap : Nat) (xs : List Int) (w : World) (hr : IRow .i64 w a len cap xs) :
    Calls Try.prog 4 #[.agg #[.int .i64 x, .int .i64 y, .slice a len cap]] w fun e w' => e = .returned (.bool true) ∧ Below w.heap.size w w' := by
  obtain ⟨hs, hlen, hcap, hmax, hfit⟩ := hr
  have hcap2 : len ≤ 9223372036854775807 := by unfold maxLen at hmax; omega
  clear hlen hfit hmax hcap
  by_cases h20 : len ≤ 1048576
  · have hleft : leftI 1048576 len = 1048576 - len := by unfold leftI; rw [if_pos (by omega)]
    have K := gkeep_alloc w (.cells #[.int .i64 x, .int .i64 y, .slice a len cap] 24)
    have A := gbox_in w x y (.slice a len cap) 24
    replace hs := hs.keep K
    go_enter Try.func4, Try.ntmps4
    go_wp2_with fail
    refine (laws_szGrains x y a len cap 1048576 _ hcap2 (by omega) (by omega)).mono ?_
    rintro e w1 ⟨rfl, k1⟩
    rw [hleft]
    clear hleft
    replace hs := hs.keep k1
    replace A := A.keep k1
    replace K := keep_trans K k1
    clear k1
    have A' := A
    obtain ⟨_, a0, a1, a3⟩ := A'
    go_wp2_with fail
    refine (laws_toGrains x y a len cap xs _ hs h20).mono ?_
    rintro e w2 ⟨B2, cur2, rfl, k2, hB2, o2, z2, c2⟩
    have h2 := o2.holds c2
    replace hs := hs.keep k2
    replace A := A.keep k2
    replace K := keep_trans K k2
    clear a0 a1 a3 k2
    go_wp2_with fail
    refine (spec_ValidGrains x y _ len len xs _ h2 hcap2).mono ?_
    rintro e w3 ⟨rfl, k3⟩
    replace hs := hs.keep k3
    replace A := A.keep k3
    replace K := keep_trans K k3
    clear k3 o2 h2
    have A' := A
    obtain ⟨_, a0, a1, a3⟩ := A'
    go_wp2_with fail
    refine (laws_toGrains x y a len cap xs _ hs h20).mono ?_
    rintro e w4 ⟨B4, cur4, rfl, k4, hB4, o4, z4, c4⟩
    have h4 := o4.holds c4
    replace hs := hs.keep k4
    replace A := A.keep k4
    replace K := keep_trans K k4
    clear a0 a1 a3 k4
    have k5 := gkeep_alloc w4 (.cells #[.int .i64 x, .int .i64 y, .slice (some ⟨B4, 0, none⟩) len len] 27)
    have X := gbox_in w4 x y (.slice (some ⟨B4, 0, none⟩) len len) 27
    replace hs := hs.keep k5
    replace h4 := h4.keep k5
    replace A := A.keep k5
    replace K := keep_trans K k5
    clear k5 o4
    go_wp2_with fail
    refine (impl_ValidGrains x y _ len len xs _ h4 hcap2).mono ?_
    rintro e w6 ⟨rfl, k6⟩
    replace hs := hs.keep k6
    replace h4 := h4.keep k6
    replace A := A.keep k6
    replace X := X.keep k6
    replace K := keep_trans K k6
    clear k6
    have A' := A
    obtain ⟨al, a0, a1, a3⟩ := A'
    have X' := X
    obtain ⟨xl, x0, x1, x3⟩ := X'
    go_wp2_with fail
    go_region_with (first
      | (go_at_call 17; refine (laws_toGrains x y a len cap xs _ (hs.drewN 1) h20).mono ?_; rintro e w7 ⟨B7, cur7, rfl, k7, hB7, o7, z7, c7⟩; obtain ⟨_, y0, y1, y3⟩ := (X.drewN 1).keep k7)
      | (go_at_call 19; refine (laws_eqGrains x y _ _ len _ _ xs xs _ ((h4.drewN 1).keep k7) (o7.holds c7) h20 (fun i _ => rfl)).mono ?_; rintro e w8 ⟨rfl, k8⟩))
    all_goals
      go_wp2
      go_ret
      exact ⟨rfl, keep_trans (keep_trans (keep_drewN K 1) k7) k8⟩
  · have hleft : leftI 1048576 len = -1 := by unfold leftI; rw [if_neg (by omega)]
    go_enter Try.func4, Try.ntmps4
    go_wp2_with (first | (go_at_call 15; refine (laws_szGrains x y a len cap 1048576 _ hcap2 (by omega) (by omega)).mono ?_; rintro e w1 ⟨rfl, k1⟩; rw [hleft]))
    go_ret
    exact ⟨rfl, keep_trans ((Below.refl w.heap.size w).alloc (Nat.le_refl _) _) k1⟩

end Go.Proofs.Ytbcocjakpnhmaaa
