/- The law on SameGrains, walked. Under no condition. -/
import Derived.Test.YtbcocjakpnhmaaaGq
import Derived.Test.YtbcocjakpnhmaaaMm
import Derived.Deep.RegionWith
import Derived.Deep.RegionHeld3
import Derived.StillTailTactics
namespace Go.Proofs.Ytbcocjakpnhmaaa
open Go Go.RowKit
set_option linter.unusedVariables false
set_option linter.unusedSimpArgs false

theorem gkeep_alloc (w : World) (o : Obj) : Below w.heap.size w (w.alloc o) := (Below.refl w.heap.size w).alloc (Nat.le_refl _) o

set_option maxHeartbeats 4000000 in
theorem same_tail (x y : Int) (a : Option Addr) (len cap : Nat) (xs : List Int) (x' y' : Int) (a' : Option Addr) (len' cap' : Nat) (ys : List Int) (w : World) (hs : Holds w a len (ivals .i64 xs)) (hs' : Holds w a' len' (ivals .i64 ys)) (h20 : len ≤ 1048576) (h20' : len' ≤ 1048576)
    (hsum : (len' : Int) ≤ 1048576 - len) :
    Calls Try.prog 3 #[.agg #[.int .i64 x, .int .i64 y, .slice a len cap], .agg #[.int .i64 x', .int .i64 y', .slice a' len' cap']] w fun e w' => e = .returned (.bool true) ∧ Below w.heap.size w w' := by
  have hleft : Hid (leftI 1048576 len = 1048576 - len) := Lib.hid (by unfold leftI; rw [if_pos (by omega)])
  have hleft' : Hid (leftI (1048576 - len) len' = 1048576 - len - len') := Lib.hid (by unfold leftI; rw [if_pos (by omega)])
  have hc : len ≤ 9223372036854775807 := by omega
  have hc' : len' ≤ 9223372036854775807 := by omega
  have K := keep_trans (gkeep_alloc w (.cells #[.int .i64 x, .int .i64 y, .slice a len cap] 24)) (gkeep_alloc _ (.cells #[.int .i64 x', .int .i64 y', .slice a' len' cap'] 24))
  have A := (gbox_in w x y (.slice a len cap) 24).keep (gkeep_alloc _ (.cells #[.int .i64 x', .int .i64 y', .slice a' len' cap'] 24))
  have B := gbox_in (w.alloc (.cells #[.int .i64 x, .int .i64 y, .slice a len cap] 24)) x' y' (.slice a' len' cap') 24
  have eS : (w.alloc (.cells #[.int .i64 x, .int .i64 y, .slice a len cap] 24)).heap.size = w.heap.size + 1 := by simp
  rw [eS] at B
  clear eS
  replace hs := hs.keep K
  replace hs' := hs'.keep K
  go_enter Try.func3, Try.ntmps3
  go_wp2_with fail
  refine (laws_szGrains x y a len cap 1048576 _ hc (by omega) (by omega)).mono ?_
  rintro e w1 ⟨rfl, k1⟩
  rw [hleft.out]
  replace hs := hs.keep k1
  replace hs' := hs'.keep k1
  replace A := A.keep k1
  replace B := B.keep k1
  replace K := keep_trans K k1
  clear k1
  have c' := B
  obtain ⟨_, b0, b1, b3⟩ := c'
  go_wp2_with fail
  refine (laws_szGrains x' y' a' len' cap' (1048576 - len) _ hc' (by omega) (by omega)).mono ?_
  rintro e w2 ⟨rfl, k2⟩
  rw [hleft'.out]
  clear b0 b1 b3
  replace hs := hs.keep k2
  replace hs' := hs'.keep k2
  replace A := A.keep k2
  replace B := B.keep k2
  replace K := keep_trans K k2
  clear k2
  have c' := A
  obtain ⟨_, a0, a1, a3⟩ := c'
  have c' := B
  obtain ⟨_, b0, b1, b3⟩ := c'
  have HS := Lib.hid hs
  have HS' := Lib.hid hs'
  have HA := Lib.hid A
  have HB := Lib.hid B
  have HK := Lib.hid K
  clear hs hs' A B K
  go_wp2_with fail
  refine wp_region_held_drew (S := fun w' => (w'.cell? ⟨w.heap.size, 0, none⟩ = some (.int .i64 x) ∧ w'.cell? ⟨w.heap.size, 1, none⟩ = some (.int .i64 y) ∧ w'.cell? ⟨w.heap.size, 2, none⟩ = some (.slice a len cap)) ∧ w'.cell? ⟨w.heap.size + 1, 0, none⟩ = some (.int .i64 x') ∧ w'.cell? ⟨w.heap.size + 1, 1, none⟩ = some (.int .i64 y') ∧ w'.cell? ⟨w.heap.size + 1, 2, none⟩ = some (.slice a' len' cap')) (by kernel_rfl) ⟨⟨a0, a1, a3⟩, b0, b1, b3⟩ (fun hHeld => ?_)
  refine wpAnyH_take (i := 0) (v := ?_) rfl (by kernel_rfl) (by kernel_rfl) (by kernel_rfl) (fun _ _ _ h => h) (Or.inl ⟨by rfl, ?_⟩) hHeld ?_
  rotate_left
  · intro w0 hSw; (try dsimp only at hSw); go_simp; try with_reducible rfl
  try simp only [Act.put, List.setIfInBounds_toArray, List.set_cons_zero, List.set_cons_succ]
  refine wpAnyH_take (i := 2) (v := ?_) rfl (by kernel_rfl) (by kernel_rfl) (by kernel_rfl) (fun _ _ _ h => h) (Or.inl ⟨by rfl, ?_⟩) hHeld ?_
  rotate_left
  · intro w0 hSw; (try dsimp only at hSw); go_simp; try with_reducible rfl
  try simp only [Act.put, List.setIfInBounds_toArray, List.set_cons_zero, List.set_cons_succ]
  refine wpAnyH_ready (rs := [1]) (by kernel_rfl) (by simp) ?_
  refine AllReadyH.cons rfl (fun K hK => ?_) AllReadyH.nil
  refine step_call (P := Try.prog) (by rfl) 17 #[.agg #[.int .i64 x, .int .i64 y, .slice a len cap]] (by have e := (enters_of Try.func17 (by kernel_rfl) rfl : Enters Try.prog 17) #[.agg #[.int .i64 x, .int .i64 y, .slice a len cap]] (w2.drew); simp [execOp, resolve, invoke, Act.eval, Act.put, Deferred.ofValue] at e ⊢; try exact e) (GrainsCopy x y (ivals .i64 xs) len (w2.drew)) (by exact laws_toGrains x y a len cap xs _ (HS.out.drewN 1) h20) ?_
  rintro e w3 ⟨B3, cur3, rfl, k3, hB3, o3, z3, c3⟩
  have HS3 := Lib.hid ((HS.out.drewN 1).keep k3)
  have HS3' := Lib.hid ((HS'.out.drewN 1).keep k3)
  have HA3 := Lib.hid ((HA.out.drewN 1).keep k3)
  have HB3 := Lib.hid ((HB.out.drewN 1).keep k3)
  have HK3 := Lib.hid (keep_trans (keep_drewN HK.out 1) k3)
  have hC3 := Lib.hid (o3.holds c3)
  have c' := HA3.out
  obtain ⟨_, e0, e1, e3⟩ := c'
  have c' := HB3.out
  obtain ⟨_, f0, f1, f3⟩ := c'
  clear k3 o3 c3 z3 hB3 hHeld a0 a1 a3 b0 b1 b3 HS HS' HA HB HK
  refine ⟨_, rfl, ?_⟩
  refine hK.out _ _ ⟨⟨e0, e1, e3⟩, f0, f1, f3⟩ (fun hHeld => ?_)
  clear hK K
  try simp only [Act.put, List.setIfInBounds_toArray, List.set_cons_zero, List.set_cons_succ]
  refine wpAnyH_ready (rs := [3]) (by kernel_rfl) (by simp) ?_
  refine AllReadyH.cons rfl (fun K hK => ?_) AllReadyH.nil
  refine step_call (P := Try.prog) (by rfl) 17 #[.agg #[.int .i64 x', .int .i64 y', .slice a' len' cap']] (by have e := (enters_of Try.func17 (by kernel_rfl) rfl : Enters Try.prog 17) #[.agg #[.int .i64 x', .int .i64 y', .slice a' len' cap']] (w3); simp [execOp, resolve, invoke, Act.eval, Act.put, Deferred.ofValue] at e ⊢; try exact e) (GrainsCopy x' y' (ivals .i64 ys) len' (w3)) (by exact laws_toGrains x' y' a' len' cap' ys _ HS3'.out h20') ?_
  rintro e w4 ⟨B4, cur4, rfl, k4, hB4, o4, z4, c4⟩
  have HS4 := Lib.hid (HS3.out.keep k4)
  have HS4' := Lib.hid (HS3'.out.keep k4)
  have HA4 := Lib.hid (HA3.out.keep k4)
  have HB4 := Lib.hid (HB3.out.keep k4)
  have HK4 := Lib.hid (keep_trans HK3.out k4)
  have hC4 := Lib.hid (hC3.out.keep k4)
  have hD4 := Lib.hid (o4.holds c4)
  have c' := HA4.out
  obtain ⟨_, g0, g1, g3⟩ := c'
  have c' := HB4.out
  obtain ⟨_, j0, j1, j3⟩ := c'
  clear k4 o4 c4 z4 hB4 hHeld e0 e1 e3 f0 f1 f3 HS3 HS3' HA3 HB3 HK3 hC3
  refine ⟨_, rfl, ?_⟩
  refine hK.out _ _ ⟨⟨g0, g1, g3⟩, j0, j1, j3⟩ (fun hHeld => ?_)
  clear hK K
  try simp only [Act.put, List.setIfInBounds_toArray, List.set_cons_zero, List.set_cons_succ]
  refine wpAnyH_ready (rs := [4]) (by kernel_rfl) (by simp) ?_
  refine AllReadyH.cons rfl (fun K hK => ?_) AllReadyH.nil
  refine step_call (P := Try.prog) (by rfl) 16 #[.agg #[.int .i64 x, .int .i64 y, .slice (some ⟨B3, 0, none⟩) len len], .agg #[.int .i64 x', .int .i64 y', .slice (some ⟨B4, 0, none⟩) len' len']] (by have e := (enters_of Try.func16 (by kernel_rfl) rfl : Enters Try.prog 16) #[.agg #[.int .i64 x, .int .i64 y, .slice (some ⟨B3, 0, none⟩) len len], .agg #[.int .i64 x', .int .i64 y', .slice (some ⟨B4, 0, none⟩) len' len']] (w4); simp [execOp, resolve, invoke, Act.eval, Act.put, Deferred.ofValue] at e ⊢; try exact e) (fun e w' => e = .returned (.bool (sameG x y len xs x' y' len' ys)) ∧ Below w4.heap.size w4 w') (by exact spec_SameGrains x y _ len len xs x' y' _ len' len' ys _ hC4.out hD4.out hc hc') ?_
  rintro e w5 ⟨rfl, k5⟩
  have HS5 := Lib.hid (HS4.out.keep k5)
  have HS5' := Lib.hid (HS4'.out.keep k5)
  have HA5 := Lib.hid (HA4.out.keep k5)
  have HB5 := Lib.hid (HB4.out.keep k5)
  have HK5 := Lib.hid (keep_trans HK4.out k5)
  have c' := HA5.out
  obtain ⟨_, a0, a1, a3⟩ := c'
  have c' := HB5.out
  obtain ⟨_, b0, b1, b3⟩ := c'
  clear k5 hHeld g0 g1 g3 j0 j1 j3 HS4 HS4' HA4 HB4 HK4 hC4 hD4
  refine ⟨_, rfl, ?_⟩
  refine hK.out _ _ ⟨⟨a0, a1, a3⟩, b0, b1, b3⟩ (fun hHeld => ?_)
  clear hK K
  try simp only [Act.put, List.setIfInBounds_toArray, List.set_cons_zero, List.set_cons_succ]
  refine wpAnyH_ready (rs := [5]) (by kernel_rfl) (by simp) ?_
  refine AllReadyH.cons rfl (fun K hK => ?_) AllReadyH.nil
  go_simp
  refine hK.out _ _ (by first | exact hHeld | go_keep) (fun hHeld => ?_)
  clear hK K
  try simp only [Act.put, List.setIfInBounds_toArray, List.set_cons_zero, List.set_cons_succ]
  refine wpAnyH_done (by kernel_rfl) ?_ _
  go_wp2_with fail
  refine (laws_toGrains x y a len cap xs _ HS5.out h20).mono ?_
  rintro e w6 ⟨B6, cur6, rfl, k6, hB6, o6, z6, c6⟩
  have k7 := gkeep_alloc w6 (.cells #[.int .i64 x, .int .i64 y, .slice (some ⟨B6, 0, none⟩) len len] 27)
  have X := Lib.hid (gbox_in w6 x y (.slice (some ⟨B6, 0, none⟩) len len) 27)
  have hX := Lib.hid ((o6.holds c6).keep k7)
  replace k6 := keep_trans k6 k7
  replace HS5 := Lib.hid (HS5.out.keep k6)
  replace HS5' := Lib.hid (HS5'.out.keep k6)
  replace HA5 := Lib.hid (HA5.out.keep k6)
  replace HB5 := Lib.hid (HB5.out.keep k6)
  replace HK5 := Lib.hid (keep_trans HK5.out k6)
  clear k6 k7 o6 c6 z6 hB6 a0 a1 a3 b0 b1 b3
  have c' := HB5.out
  obtain ⟨_, b0, b1, b3⟩ := c'
  go_wp2_with fail
  refine (laws_toGrains x' y' a' len' cap' ys _ HS5'.out h20').mono ?_
  rintro e w8 ⟨B8, cur8, rfl, k8, hB8, o8, z8, c8⟩
  have k9 := gkeep_alloc w8 (.cells #[.int .i64 x', .int .i64 y', .slice (some ⟨B8, 0, none⟩) len' len'] 27)
  have Y := Lib.hid (gbox_in w8 x' y' (.slice (some ⟨B8, 0, none⟩) len' len') 27)
  have hY := Lib.hid ((o8.holds c8).keep k9)
  replace k8 := keep_trans k8 k9
  replace HS5 := Lib.hid (HS5.out.keep k8)
  replace HS5' := Lib.hid (HS5'.out.keep k8)
  replace HA5 := Lib.hid (HA5.out.keep k8)
  replace HB5 := Lib.hid (HB5.out.keep k8)
  replace X := Lib.hid (X.out.keep k8)
  replace hX := Lib.hid (hX.out.keep k8)
  replace HK5 := Lib.hid (keep_trans HK5.out k8)
  clear k8 k9 o8 c8 z8 hB8 b0 b1 b3
  have c' := X.out
  obtain ⟨_, x0, x1, x3⟩ := c'
  have c' := Y.out
  obtain ⟨_, y0, y1, y3⟩ := c'
  go_wp2_with fail
  refine (impl_SameGrains x y _ len len xs x' y' _ len' len' ys _ hX.out hY.out hc hc').mono ?_
  rintro e w10 ⟨rfl, k10⟩
  clear x0 x1 x3 y0 y1 y3
  replace HS5 := Lib.hid (HS5.out.keep k10)
  replace HS5' := Lib.hid (HS5'.out.keep k10)
  replace HA5 := Lib.hid (HA5.out.keep k10)
  replace HB5 := Lib.hid (HB5.out.keep k10)
  replace X := Lib.hid (X.out.keep k10)
  replace hX := Lib.hid (hX.out.keep k10)
  replace Y := Lib.hid (Y.out.keep k10)
  replace hY := Lib.hid (hY.out.keep k10)
  replace HK5 := Lib.hid (keep_trans HK5.out k10)
  clear k10
  have hsame : (sameG x y len xs x' y' len' ys != sameG x y len xs x' y' len' ys) = false := by simp
  generalize sameG x y len xs x' y' len' ys = sv at hsame
  clear hc hc'
  have c' := X.out
  obtain ⟨_, x0, x1, x3⟩ := c'
  have c' := HA5.out
  obtain ⟨_, a0, a1, a3⟩ := c'
  go_wp2_with fail
  refine wp_region_held_drew (S := fun w' => (w'.cell? ⟨w6.heap.size, 0, none⟩ = some (.int .i64 x) ∧ w'.cell? ⟨w6.heap.size, 1, none⟩ = some (.int .i64 y) ∧ w'.cell? ⟨w6.heap.size, 2, none⟩ = some (.slice (some ⟨B6, 0, none⟩) len len)) ∧ w'.cell? ⟨w.heap.size, 0, none⟩ = some (.int .i64 x) ∧ w'.cell? ⟨w.heap.size, 1, none⟩ = some (.int .i64 y) ∧ w'.cell? ⟨w.heap.size, 2, none⟩ = some (.slice a len cap)) (by kernel_rfl) ⟨⟨x0, x1, x3⟩, a0, a1, a3⟩ (fun hHeld => ?_)
  refine wpAnyH_take (i := 0) (v := ?_) rfl (by kernel_rfl) (by kernel_rfl) (by kernel_rfl) (fun _ _ _ h => h) (Or.inl ⟨by rfl, ?_⟩) hHeld ?_
  rotate_left
  · intro w0 hSw; (try dsimp only at hSw); go_simp; try with_reducible rfl
  try simp only [Act.put, List.setIfInBounds_toArray, List.set_cons_zero, List.set_cons_succ]
  refine wpAnyH_take (i := 1) (v := ?_) rfl (by kernel_rfl) (by kernel_rfl) (by kernel_rfl) (fun _ _ _ h => h) (Or.inl ⟨by rfl, ?_⟩) hHeld ?_
  rotate_left
  · intro w0 hSw; (try dsimp only at hSw); go_simp; try with_reducible rfl
  try simp only [Act.put, List.setIfInBounds_toArray, List.set_cons_zero, List.set_cons_succ]
  refine wpAnyH_ready (rs := [2]) (by kernel_rfl) (by simp) ?_
  refine AllReadyH.cons rfl (fun K hK => ?_) AllReadyH.nil
  refine step_call (P := Try.prog) (by rfl) 17 #[.agg #[.int .i64 x, .int .i64 y, .slice a len cap]] (by have e := (enters_of Try.func17 (by kernel_rfl) rfl : Enters Try.prog 17) #[.agg #[.int .i64 x, .int .i64 y, .slice a len cap]] (w10.drew); simp [execOp, resolve, invoke, Act.eval, Act.put, Deferred.ofValue] at e ⊢; try exact e) (GrainsCopy x y (ivals .i64 xs) len (w10.drew)) (by exact laws_toGrains x y a len cap xs _ (HS5.out.drewN 1) h20) ?_
  rintro e wa ⟨Ba, cura, rfl, ka, hBa, oa, za, ca⟩
  have ha := Lib.hid (oa.holds ca)
  replace HS5 := Lib.hid ((HS5.out.drewN 1).keep ka)
  replace HS5' := Lib.hid ((HS5'.out.drewN 1).keep ka)
  replace HA5 := Lib.hid ((HA5.out.drewN 1).keep ka)
  replace HB5 := Lib.hid ((HB5.out.drewN 1).keep ka)
  replace X := Lib.hid ((X.out.drewN 1).keep ka)
  replace hX := Lib.hid ((hX.out.drewN 1).keep ka)
  replace Y := Lib.hid ((Y.out.drewN 1).keep ka)
  replace hY := Lib.hid ((hY.out.drewN 1).keep ka)
  replace HK5 := Lib.hid (keep_trans (keep_drewN HK5.out 1) ka)
  have c' := X.out
  obtain ⟨_, g0, g1, g3⟩ := c'
  have c' := HA5.out
  obtain ⟨_, j0, j1, j3⟩ := c'
  clear ka oa ca za hBa hHeld x0 x1 x3 a0 a1 a3
  refine ⟨_, rfl, ?_⟩
  refine hK.out _ _ ⟨⟨g0, g1, g3⟩, j0, j1, j3⟩ (fun hHeld => ?_)
  clear hK K
  try simp only [Act.put, List.setIfInBounds_toArray, List.set_cons_zero, List.set_cons_succ]
  refine wpAnyH_ready (rs := [3]) (by kernel_rfl) (by simp) ?_
  refine AllReadyH.cons rfl (fun K hK => ?_) AllReadyH.nil
  refine step_call (P := Try.prog) (by rfl) 19 #[.agg #[.int .i64 x, .int .i64 y, .slice (some ⟨B6, 0, none⟩) len len], .agg #[.int .i64 x, .int .i64 y, .slice (some ⟨Ba, 0, none⟩) len len]] (by have e := (enters_of Try.func19 (by kernel_rfl) rfl : Enters Try.prog 19) #[.agg #[.int .i64 x, .int .i64 y, .slice (some ⟨B6, 0, none⟩) len len], .agg #[.int .i64 x, .int .i64 y, .slice (some ⟨Ba, 0, none⟩) len len]] (wa); simp [execOp, resolve, invoke, Act.eval, Act.put, Deferred.ofValue] at e ⊢; try exact e) (fun e w' => e = .returned (.bool true) ∧ Below wa.heap.size wa w') (by exact laws_eqGrains x y _ _ len _ _ xs xs _ hX.out ha.out h20 (fun i _ => rfl)) ?_
  rintro e wb ⟨rfl, kb⟩
  replace HS5 := Lib.hid (HS5.out.keep kb)
  replace HS5' := Lib.hid (HS5'.out.keep kb)
  replace HA5 := Lib.hid (HA5.out.keep kb)
  replace HB5 := Lib.hid (HB5.out.keep kb)
  replace X := Lib.hid (X.out.keep kb)
  replace hX := Lib.hid (hX.out.keep kb)
  replace Y := Lib.hid (Y.out.keep kb)
  replace hY := Lib.hid (hY.out.keep kb)
  replace HK5 := Lib.hid (keep_trans HK5.out kb)
  have c' := X.out
  obtain ⟨_, x0, x1, x3⟩ := c'
  have c' := HA5.out
  obtain ⟨_, a0, a1, a3⟩ := c'
  clear kb hHeld g0 g1 g3 j0 j1 j3 ha
  refine ⟨_, rfl, ?_⟩
  refine hK.out _ _ ⟨⟨x0, x1, x3⟩, a0, a1, a3⟩ (fun hHeld => ?_)
  clear hK K
  try simp only [Act.put, List.setIfInBounds_toArray, List.set_cons_zero, List.set_cons_succ]
  refine wpAnyH_ready (rs := [4]) (by kernel_rfl) (by simp) ?_
  refine AllReadyH.cons rfl (fun K hK => ?_) AllReadyH.nil
  go_simp
  refine hK.out _ _ (by first | exact hHeld | go_keep) (fun hHeld => ?_)
  clear hK K
  try simp only [Act.put, List.setIfInBounds_toArray, List.set_cons_zero, List.set_cons_succ]
  refine wpAnyH_done (by kernel_rfl) ?_ _
  clear x0 x1 x3 a0 a1 a3 hHeld
  have c' := Y.out
  obtain ⟨_, x0, x1, x3⟩ := c'
  have c' := HB5.out
  obtain ⟨_, a0, a1, a3⟩ := c'
  go_wp2_with fail
  refine wp_region_held_drew (S := fun w' => (w'.cell? ⟨w8.heap.size, 0, none⟩ = some (.int .i64 x') ∧ w'.cell? ⟨w8.heap.size, 1, none⟩ = some (.int .i64 y') ∧ w'.cell? ⟨w8.heap.size, 2, none⟩ = some (.slice (some ⟨B8, 0, none⟩) len' len')) ∧ w'.cell? ⟨w.heap.size + 1, 0, none⟩ = some (.int .i64 x') ∧ w'.cell? ⟨w.heap.size + 1, 1, none⟩ = some (.int .i64 y') ∧ w'.cell? ⟨w.heap.size + 1, 2, none⟩ = some (.slice a' len' cap')) (by kernel_rfl) ⟨⟨x0, x1, x3⟩, a0, a1, a3⟩ (fun hHeld => ?_)
  refine wpAnyH_take (i := 0) (v := ?_) rfl (by kernel_rfl) (by kernel_rfl) (by kernel_rfl) (fun _ _ _ h => h) (Or.inl ⟨by rfl, ?_⟩) hHeld ?_
  rotate_left
  · intro w0 hSw; (try dsimp only at hSw); go_simp; try with_reducible rfl
  try simp only [Act.put, List.setIfInBounds_toArray, List.set_cons_zero, List.set_cons_succ]
  refine wpAnyH_take (i := 1) (v := ?_) rfl (by kernel_rfl) (by kernel_rfl) (by kernel_rfl) (fun _ _ _ h => h) (Or.inl ⟨by rfl, ?_⟩) hHeld ?_
  rotate_left
  · intro w0 hSw; (try dsimp only at hSw); go_simp; try with_reducible rfl
  try simp only [Act.put, List.setIfInBounds_toArray, List.set_cons_zero, List.set_cons_succ]
  refine wpAnyH_ready (rs := [2]) (by kernel_rfl) (by simp) ?_
  refine AllReadyH.cons rfl (fun K hK => ?_) AllReadyH.nil
  refine step_call (P := Try.prog) (by rfl) 17 #[.agg #[.int .i64 x', .int .i64 y', .slice a' len' cap']] (by have e := (enters_of Try.func17 (by kernel_rfl) rfl : Enters Try.prog 17) #[.agg #[.int .i64 x', .int .i64 y', .slice a' len' cap']] (wb.drew); simp [execOp, resolve, invoke, Act.eval, Act.put, Deferred.ofValue] at e ⊢; try exact e) (GrainsCopy x' y' (ivals .i64 ys) len' (wb.drew)) (by exact laws_toGrains x' y' a' len' cap' ys _ (HS5'.out.drewN 1) h20') ?_
  rintro e wa ⟨Ba, cura, rfl, ka, hBa, oa, za, ca⟩
  have ha := Lib.hid (oa.holds ca)
  replace HS5' := Lib.hid ((HS5'.out.drewN 1).keep ka)
  replace HB5 := Lib.hid ((HB5.out.drewN 1).keep ka)
  replace Y := Lib.hid ((Y.out.drewN 1).keep ka)
  replace hY := Lib.hid ((hY.out.drewN 1).keep ka)
  replace HK5 := Lib.hid (keep_trans (keep_drewN HK5.out 1) ka)
  have c' := Y.out
  obtain ⟨_, g0, g1, g3⟩ := c'
  have c' := HB5.out
  obtain ⟨_, j0, j1, j3⟩ := c'
  clear ka oa ca za hBa hHeld x0 x1 x3 a0 a1 a3
  refine ⟨_, rfl, ?_⟩
  refine hK.out _ _ ⟨⟨g0, g1, g3⟩, j0, j1, j3⟩ (fun hHeld => ?_)
  clear hK K
  try simp only [Act.put, List.setIfInBounds_toArray, List.set_cons_zero, List.set_cons_succ]
  refine wpAnyH_ready (rs := [3]) (by kernel_rfl) (by simp) ?_
  refine AllReadyH.cons rfl (fun K hK => ?_) AllReadyH.nil
  refine step_call (P := Try.prog) (by rfl) 19 #[.agg #[.int .i64 x', .int .i64 y', .slice (some ⟨B8, 0, none⟩) len' len'], .agg #[.int .i64 x', .int .i64 y', .slice (some ⟨Ba, 0, none⟩) len' len']] (by have e := (enters_of Try.func19 (by kernel_rfl) rfl : Enters Try.prog 19) #[.agg #[.int .i64 x', .int .i64 y', .slice (some ⟨B8, 0, none⟩) len' len'], .agg #[.int .i64 x', .int .i64 y', .slice (some ⟨Ba, 0, none⟩) len' len']] (wa); simp [execOp, resolve, invoke, Act.eval, Act.put, Deferred.ofValue] at e ⊢; try exact e) (fun e w' => e = .returned (.bool true) ∧ Below wa.heap.size wa w') (by exact laws_eqGrains x' y' _ _ len' _ _ ys ys _ hY.out ha.out h20' (fun i _ => rfl)) ?_
  rintro e wb ⟨rfl, kb⟩
  replace HS5' := Lib.hid (HS5'.out.keep kb)
  replace HB5 := Lib.hid (HB5.out.keep kb)
  replace Y := Lib.hid (Y.out.keep kb)
  replace hY := Lib.hid (hY.out.keep kb)
  replace HK5 := Lib.hid (keep_trans HK5.out kb)
  have c' := Y.out
  obtain ⟨_, x0, x1, x3⟩ := c'
  have c' := HB5.out
  obtain ⟨_, a0, a1, a3⟩ := c'
  clear kb hHeld g0 g1 g3 j0 j1 j3 ha
  refine ⟨_, rfl, ?_⟩
  refine hK.out _ _ ⟨⟨x0, x1, x3⟩, a0, a1, a3⟩ (fun hHeld => ?_)
  clear hK K
  try simp only [Act.put, List.setIfInBounds_toArray, List.set_cons_zero, List.set_cons_succ]
  refine wpAnyH_ready (rs := [4]) (by kernel_rfl) (by simp) ?_
  refine AllReadyH.cons rfl (fun K hK => ?_) AllReadyH.nil
  go_simp
  refine hK.out _ _ (by first | exact hHeld | go_keep) (fun hHeld => ?_)
  clear hK K
  try simp only [Act.put, List.setIfInBounds_toArray, List.set_cons_zero, List.set_cons_succ]
  refine wpAnyH_done (by kernel_rfl) ?_ _
  clear x0 x1 x3 a0 a1 a3 hHeld
  go_wp2
  go_ret
  exact ⟨rfl, HK5.out⟩

theorem walk_FnExactSameGrains (x y : Int) (a : Option Addr) (len cap : Nat) (xs : List Int) (x' y' : Int) (a' : Option Addr) (len' cap' : Nat) (ys : List Int) (w : World) (hr : IRow .i64 w a len cap xs) (hr' : IRow .i64 w a' len' cap' ys) :
    Calls Try.prog 3 #[.agg #[.int .i64 x, .int .i64 y, .slice a len cap], .agg #[.int .i64 x', .int .i64 y', .slice a' len' cap']] w fun e w' => e = .returned (.bool true) ∧ Below w.heap.size w w' := by
  obtain ⟨hs, hlen, hcap, hmax, hfit⟩ := hr
  obtain ⟨hs', hlen', hcap', hmax', hfit'⟩ := hr'
  have hc : len ≤ 9223372036854775807 := by unfold maxLen at hmax; omega
  have hc' : len' ≤ 9223372036854775807 := by unfold maxLen at hmax'; omega
  clear hlen hfit hmax hcap hlen' hfit' hmax' hcap'
  by_cases h20 : len ≤ 1048576
  · by_cases h20' : (len' : Int) ≤ 1048576 - len
    · exact same_tail x y a len cap xs x' y' a' len' cap' ys w hs hs' h20 (by omega) h20'
    · have hleft : Hid (leftI 1048576 len = 1048576 - len) := Lib.hid (by unfold leftI; rw [if_pos (by omega)])
      have hleft' : Hid (leftI (1048576 - len) len' = -1) := Lib.hid (by unfold leftI; rw [if_neg h20'])
      have K := keep_trans (gkeep_alloc w (.cells #[.int .i64 x, .int .i64 y, .slice a len cap] 24)) (gkeep_alloc _ (.cells #[.int .i64 x', .int .i64 y', .slice a' len' cap'] 24))
      have B := gbox_in (w.alloc (.cells #[.int .i64 x, .int .i64 y, .slice a len cap] 24)) x' y' (.slice a' len' cap') 24
      have eS : (w.alloc (.cells #[.int .i64 x, .int .i64 y, .slice a len cap] 24)).heap.size = w.heap.size + 1 := by simp
      rw [eS] at B
      clear eS h20' hs hs'
      go_enter Try.func3, Try.ntmps3
      go_wp2_with fail
      refine (laws_szGrains x y a len cap 1048576 _ hc (by omega) (by omega)).mono ?_
      rintro e w1 ⟨rfl, k1⟩
      rw [hleft.out]
      have c' := B.keep k1
      obtain ⟨_, b0, b1, b3⟩ := c'
      go_wp2_with fail
      refine (laws_szGrains x' y' a' len' cap' (1048576 - len) _ hc' (by omega) (by omega)).mono ?_
      rintro e w2 ⟨rfl, k2⟩
      rw [hleft'.out]
      clear b0 b1 b3
      go_wp2
      go_ret
      exact ⟨rfl, keep_trans (keep_trans K k1) k2⟩
  · have hleft : Hid (leftI 1048576 len = -1) := Lib.hid (by unfold leftI; rw [if_neg (by omega)])
    have K := keep_trans (gkeep_alloc w (.cells #[.int .i64 x, .int .i64 y, .slice a len cap] 24)) (gkeep_alloc _ (.cells #[.int .i64 x', .int .i64 y', .slice a' len' cap'] 24))
    clear h20 hs hs'
    go_enter Try.func3, Try.ntmps3
    go_wp2_with fail
    refine (laws_szGrains x y a len cap 1048576 _ hc (by omega) (by omega)).mono ?_
    rintro e w1 ⟨rfl, k1⟩
    rw [hleft.out]
    go_wp2
    go_ret
    exact ⟨rfl, keep_trans K k1⟩

end Go.Proofs.Ytbcocjakpnhmaaa
