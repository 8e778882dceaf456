/- Discs: the program's DiscField. Under no condition. -/
import Derived.Test.YtcnamhmoocdccaaDb
import Derived.Test.YtcnamhmoocdccaaLm
import Derived.Deep.RegionHeld3
import Derived.StillTailTactics
namespace Go.Proofs.Ytcnamhmoocdccaa
open Go Go.RowKit
set_option linter.unusedVariables false
set_option linter.unusedSimpArgs false

theorem drew_add (w : World) (a b : Nat) : (w.drewN a).drewN b = w.drewN (a + b) := by simp

set_option maxRecDepth 8000 in
set_option maxHeartbeats 2000000 in
theorem disc_fn (X Y : Nat) (r : Bool) (x y rad i j bx bw br bY bh bq : Nat) (w : World) (hX16 : X ≤ 16) (hY16 : Y ≤ 16)
    (c1 : w.cell? ⟨bx, 0, none⟩ = some (.float .f32 x)) (c2 : w.cell? ⟨bw, 0, none⟩ = some (.int .i64 X)) (c3 : w.cell? ⟨br, 0, none⟩ = some (.bool r))
    (c4 : w.cell? ⟨bY, 0, none⟩ = some (.float .f32 y)) (c5 : w.cell? ⟨bh, 0, none⟩ = some (.int .i64 Y)) (c6 : w.cell? ⟨bq, 0, none⟩ = some (.float .f32 rad)) :
    Calls Try.prog 65 #[.int .i64 i, .int .i64 j, .pointer (some ⟨bx, 0, none⟩), .pointer (some ⟨bw, 0, none⟩), .pointer (some ⟨br, 0, none⟩), .pointer (some ⟨bY, 0, none⟩), .pointer (some ⟨bh, 0, none⟩), .pointer (some ⟨bq, 0, none⟩)] w
      fun e w' => ∃ n, e = .returned (.float .f32 (discAt X Y r x y rad i j)) ∧ w' = w.drewN n := by
  have hSub := fun a b w => run_afv Try.prog .sub rfl 27 .f32 a b w
  go_enter Try.func65, Try.ntmps65
  go_wp2
  refine wp_region_held_drew (S := (fun w' : World => w'.cell? ⟨bx, 0, none⟩ = some (.float .f32 x) ∧ w'.cell? ⟨bw, 0, none⟩ = some (.int .i64 X) ∧ w'.cell? ⟨br, 0, none⟩ = some (.bool r) ∧ w'.cell? ⟨bY, 0, none⟩ = some (.float .f32 y) ∧ w'.cell? ⟨bh, 0, none⟩ = some (.int .i64 Y) ∧ w'.cell? ⟨bq, 0, none⟩ = some (.float .f32 rad))) (by kernel_rfl) ⟨c1, c2, c3, c4, c5, c6⟩ (fun hHeld => ?_)
  refine wpAnyH_take (i := 0) (v := ?_) rfl (by kernel_rfl) (by kernel_rfl) (by kernel_rfl) (fun _ _ _ h => h) (Or.inl ⟨by rfl, ?_⟩) hHeld ?_
  rotate_left
  · intro w0 hSw; (try dsimp only at hSw); go_simp; try with_reducible rfl
  try simp only [Act.put, List.setIfInBounds_toArray, List.set_cons_zero, List.set_cons_succ]
  refine wpAnyH_take (i := 1) (v := ?_) rfl (by kernel_rfl) (by kernel_rfl) (by kernel_rfl) (fun _ _ _ h => h) (Or.inl ⟨by rfl, ?_⟩) hHeld ?_
  rotate_left
  · intro w0 hSw; (try dsimp only at hSw); go_simp; try with_reducible rfl
  try simp only [Act.put, List.setIfInBounds_toArray, List.set_cons_zero, List.set_cons_succ]
  refine wpAnyH_take (i := 2) (v := ?_) rfl (by kernel_rfl) (by kernel_rfl) (by kernel_rfl) (fun _ _ _ h => h) (Or.inl ⟨by rfl, ?_⟩) hHeld ?_
  rotate_left
  · intro w0 hSw; (try dsimp only at hSw); go_simp; try with_reducible rfl
  try simp only [Act.put, List.setIfInBounds_toArray, List.set_cons_zero, List.set_cons_succ]
  refine wpAnyH_take (i := 4) (v := ?_) rfl (by kernel_rfl) (by kernel_rfl) (by kernel_rfl) (fun _ _ _ h => h) (Or.inl ⟨by rfl, ?_⟩) hHeld ?_
  rotate_left
  · intro w0 hSw; (try dsimp only at hSw); go_simp; try with_reducible rfl
  try simp only [Act.put, List.setIfInBounds_toArray, List.set_cons_zero, List.set_cons_succ]
  refine wpAnyH_take (i := 5) (v := ?_) rfl (by kernel_rfl) (by kernel_rfl) (by kernel_rfl) (fun _ _ _ h => h) (Or.inl ⟨by rfl, ?_⟩) hHeld ?_
  rotate_left
  · intro w0 hSw; (try dsimp only at hSw); go_simp; try with_reducible rfl
  try simp only [Act.put, List.setIfInBounds_toArray, List.set_cons_zero, List.set_cons_succ]
  refine wpAnyH_take (i := 7) (v := ?_) rfl (by kernel_rfl) (by kernel_rfl) (by kernel_rfl) (fun _ _ _ h => h) (Or.inl ⟨by rfl, ?_⟩) hHeld ?_
  rotate_left
  · intro w0 hSw; (try dsimp only at hSw); go_simp; try with_reducible rfl
  try simp only [Act.put, List.setIfInBounds_toArray, List.set_cons_zero, List.set_cons_succ]
  refine wpAnyH_take (i := 8) (v := ?_) rfl (by kernel_rfl) (by kernel_rfl) (by kernel_rfl) (fun _ _ _ h => h) (Or.inl ⟨by rfl, ?_⟩) hHeld ?_
  rotate_left
  · intro w0 hSw; (try dsimp only at hSw); go_simp; try with_reducible rfl
  try simp only [Act.put, List.setIfInBounds_toArray, List.set_cons_zero, List.set_cons_succ]
  refine wpAnyH_take (i := 9) (v := ?_) rfl (by kernel_rfl) (by kernel_rfl) (by kernel_rfl) (fun _ _ _ h => h) (Or.inl ⟨by rfl, ?_⟩) hHeld ?_
  rotate_left
  · intro w0 hSw; (try dsimp only at hSw); go_simp; try with_reducible rfl
  try simp only [Act.put, List.setIfInBounds_toArray, List.set_cons_zero, List.set_cons_succ]
  refine wpAnyH_take (i := 11) (v := ?_) rfl (by kernel_rfl) (by kernel_rfl) (by kernel_rfl) (fun _ _ _ h => h) (Or.inl ⟨by rfl, ?_⟩) hHeld ?_
  rotate_left
  · intro w0 hSw; (try dsimp only at hSw); go_simp; try with_reducible rfl
  try simp only [Act.put, List.setIfInBounds_toArray, List.set_cons_zero, List.set_cons_succ]
  refine wpAnyH_take (i := 12) (v := ?_) rfl (by kernel_rfl) (by kernel_rfl) (by kernel_rfl) (fun _ _ _ h => h) (Or.inl ⟨by rfl, ?_⟩) hHeld ?_
  rotate_left
  · intro w0 hSw; (try dsimp only at hSw); go_simp; try with_reducible rfl
  try simp only [Act.put, List.setIfInBounds_toArray, List.set_cons_zero, List.set_cons_succ]
  refine wpAnyH_ready (rs := [3, 10]) (by kernel_rfl) (by simp) ?_
  refine AllReadyH.cons rfl (fun K hK => ?_) (AllReadyH.cons rfl (fun K hK => ?_) AllReadyH.nil)
  · go_simp
    refine hK.out _ _ ⟨c1, c2, c3, c4, c5, c6⟩ (fun hHeld => ?_)
    clear hK K
    try simp only [Act.put, List.setIfInBounds_toArray, List.set_cons_zero, List.set_cons_succ]
    refine wpAnyH_ready (rs := [6, 10]) (by kernel_rfl) (by simp) ?_
    refine AllReadyH.cons rfl (fun K hK => ?_) (AllReadyH.cons rfl (fun K hK => ?_) AllReadyH.nil)
    · refine step_call (P := Try.prog) (by rfl) 66 #[.float .f32 (afv .sub .f32 (floatOfInt .f32 i) x w.drew), .int .i64 X, .bool r] (by have e := (enters_of Try.func66 (by kernel_rfl) rfl : Enters Try.prog 66) #[.float .f32 (afv .sub .f32 (floatOfInt .f32 i) x w.drew), .int .i64 X, .bool r] ((w.drewN (1 + (afn .sub .f32 (floatOfInt .f32 i) x)))); simp [execOp, resolve, invoke, Act.eval, Act.put, Deferred.ofValue] at e ⊢; try exact e) (fun e w' => ∃ v n, e = .returned (.float .f32 v) ∧ Same .f32 v (gapV (afv .sub .f32 (floatOfInt .f32 i) x w.drew) X r) ∧ w' = ((w.drewN (1 + (afn .sub .f32 (floatOfInt .f32 i) x)))).drewN n) (by exact impl_difference (afv .sub .f32 (floatOfInt .f32 i) x w.drew) X r _ hX16) ?_
      rintro e w' ⟨g1, ng1, rfl, hg1, rfl⟩
      have Hg1 : Hid (Same .f32 g1 (gapV (fsub .f32 (floatOfInt .f32 i) x) X r)) := Lib.hid (hg1.trans (Same.gap ⟨cn_afv .sub rfl .f32 _ _ _⟩ X r))
      clear hg1
      refine ⟨_, rfl, ?_⟩
      refine hK.out _ _ ⟨c1, c2, c3, c4, c5, c6⟩ (fun hHeld => ?_)
      clear hK K
      try simp only [Act.put, List.setIfInBounds_toArray, List.set_cons_zero, List.set_cons_succ]
      refine wpAnyH_ready (rs := [10]) (by kernel_rfl) (by simp) ?_
      refine AllReadyH.cons rfl (fun K hK => ?_) AllReadyH.nil
      go_simp
      refine hK.out _ _ ⟨c1, c2, c3, c4, c5, c6⟩ (fun hHeld => ?_)
      clear hK K
      try simp only [Act.put, List.setIfInBounds_toArray, List.set_cons_zero, List.set_cons_succ]
      refine wpAnyH_ready (rs := [13]) (by kernel_rfl) (by simp) ?_
      refine AllReadyH.cons rfl (fun K hK => ?_) AllReadyH.nil
      refine step_call (P := Try.prog) (by rfl) 66 #[.float .f32 (afv .sub .f32 (floatOfInt .f32 j) y (w.drewN (1 + (afn .sub .f32 (floatOfInt .f32 i) x) + ng1))), .int .i64 Y, .bool r] (by have e := (enters_of Try.func66 (by kernel_rfl) rfl : Enters Try.prog 66) #[.float .f32 (afv .sub .f32 (floatOfInt .f32 j) y (w.drewN (1 + (afn .sub .f32 (floatOfInt .f32 i) x) + ng1))), .int .i64 Y, .bool r] ((w.drewN (1 + (afn .sub .f32 (floatOfInt .f32 i) x) + ng1 + (afn .sub .f32 (floatOfInt .f32 j) y)))); simp [execOp, resolve, invoke, Act.eval, Act.put, Deferred.ofValue] at e ⊢; try exact e) (fun e w' => ∃ v n, e = .returned (.float .f32 v) ∧ Same .f32 v (gapV (afv .sub .f32 (floatOfInt .f32 j) y (w.drewN (1 + (afn .sub .f32 (floatOfInt .f32 i) x) + ng1))) Y r) ∧ w' = ((w.drewN (1 + (afn .sub .f32 (floatOfInt .f32 i) x) + ng1 + (afn .sub .f32 (floatOfInt .f32 j) y)))).drewN n) (by exact impl_difference (afv .sub .f32 (floatOfInt .f32 j) y (w.drewN (1 + (afn .sub .f32 (floatOfInt .f32 i) x) + ng1))) Y r _ hY16) ?_
      rintro e w' ⟨g2, ng2, rfl, hg2, rfl⟩
      have Hg2 : Hid (Same .f32 g2 (gapV (fsub .f32 (floatOfInt .f32 j) y) Y r)) := Lib.hid (hg2.trans (Same.gap ⟨cn_afv .sub rfl .f32 _ _ _⟩ Y r))
      clear hg2
      refine ⟨_, rfl, ?_⟩
      refine hK.out _ _ ⟨c1, c2, c3, c4, c5, c6⟩ (fun hHeld => ?_)
      clear hK K
      try simp only [Act.put, List.setIfInBounds_toArray, List.set_cons_zero, List.set_cons_succ]
      refine wpAnyH_ready (rs := [14]) (by kernel_rfl) (by simp) ?_
      refine AllReadyH.cons rfl (fun K hK => ?_) AllReadyH.nil
      go_simp
      refine hK.out _ _ ⟨c1, c2, c3, c4, c5, c6⟩ (fun hHeld => ?_)
      clear hK K
      try simp only [Act.put, List.setIfInBounds_toArray, List.set_cons_zero, List.set_cons_succ]
      refine wpAnyH_ready (rs := [15]) (by kernel_rfl) (by simp) ?_
      refine AllReadyH.cons rfl (fun K hK => ?_) AllReadyH.nil
      go_simp
      refine hK.out _ _ ⟨c1, c2, c3, c4, c5, c6⟩ (fun hHeld => ?_)
      clear hK K
      try simp only [Act.put, List.setIfInBounds_toArray, List.set_cons_zero, List.set_cons_succ]
      refine wpAnyH_done (by kernel_rfl) ?_ _
      clear hSub
      have hpp := run_afv Try.prog .mul rfl 27 .f32 g1 g1 (w.drewN (1 + (afn .sub .f32 (floatOfInt .f32 i) x) + ng1 + (afn .sub .f32 (floatOfInt .f32 j) y) + ng2))
      have Hpp : Same .f32 (afv .mul .f32 g1 g1 (w.drewN (1 + (afn .sub .f32 (floatOfInt .f32 i) x) + ng1 + (afn .sub .f32 (floatOfInt .f32 j) y) + ng2))) (fmul .f32 g1 g1) := ⟨cn_afv .mul rfl .f32 _ _ _⟩
      generalize afv .mul .f32 g1 g1 (w.drewN (1 + (afn .sub .f32 (floatOfInt .f32 i) x) + ng1 + (afn .sub .f32 (floatOfInt .f32 j) y) + ng2)) = pp at hpp Hpp
      generalize afn .mul .f32 g1 g1 = np at hpp
      have htt := run_afv Try.prog .mul rfl 27 .f32 g2 g2 (w.drewN (1 + (afn .sub .f32 (floatOfInt .f32 i) x) + ng1 + (afn .sub .f32 (floatOfInt .f32 j) y) + ng2 + np))
      have Htt : Same .f32 (afv .mul .f32 g2 g2 (w.drewN (1 + (afn .sub .f32 (floatOfInt .f32 i) x) + ng1 + (afn .sub .f32 (floatOfInt .f32 j) y) + ng2 + np))) (fmul .f32 g2 g2) := ⟨cn_afv .mul rfl .f32 _ _ _⟩
      generalize afv .mul .f32 g2 g2 (w.drewN (1 + (afn .sub .f32 (floatOfInt .f32 i) x) + ng1 + (afn .sub .f32 (floatOfInt .f32 j) y) + ng2 + np)) = tt at htt Htt
      generalize afn .mul .f32 g2 g2 = nt at htt
      have hsm := run_afv Try.prog .add rfl 27 .f32 pp tt (w.drewN (1 + (afn .sub .f32 (floatOfInt .f32 i) x) + ng1 + (afn .sub .f32 (floatOfInt .f32 j) y) + ng2 + np + nt))
      have Hsm : Same .f32 (afv .add .f32 pp tt (w.drewN (1 + (afn .sub .f32 (floatOfInt .f32 i) x) + ng1 + (afn .sub .f32 (floatOfInt .f32 j) y) + ng2 + np + nt))) (fadd .f32 pp tt) := ⟨cn_afv .add rfl .f32 _ _ _⟩
      generalize afv .add .f32 pp tt (w.drewN (1 + (afn .sub .f32 (floatOfInt .f32 i) x) + ng1 + (afn .sub .f32 (floatOfInt .f32 j) y) + ng2 + np + nt)) = sm at hsm Hsm
      generalize afn .add .f32 pp tt = ns at hsm
      have hll := run_afv Try.prog .mul rfl 27 .f32 rad rad (w.drewN (1 + (afn .sub .f32 (floatOfInt .f32 i) x) + ng1 + (afn .sub .f32 (floatOfInt .f32 j) y) + ng2 + np + nt + ns))
      have Hll : Same .f32 (afv .mul .f32 rad rad (w.drewN (1 + (afn .sub .f32 (floatOfInt .f32 i) x) + ng1 + (afn .sub .f32 (floatOfInt .f32 j) y) + ng2 + np + nt + ns))) (fmul .f32 rad rad) := ⟨cn_afv .mul rfl .f32 _ _ _⟩
      generalize afv .mul .f32 rad rad (w.drewN (1 + (afn .sub .f32 (floatOfInt .f32 i) x) + ng1 + (afn .sub .f32 (floatOfInt .f32 j) y) + ng2 + np + nt + ns)) = ll at hll Hll
      generalize afn .mul .f32 rad rad = nl at hll
      have hcond : leB sm ll = discC (gapV (fsub .f32 (floatOfInt .f32 i) x) X r) (gapV (fsub .f32 (floatOfInt .f32 j) y) Y r) rad := disc_cond Hg1.out Hg2.out Hpp Htt Hsm Hll
      clear Hg1 Hg2 Hpp Htt Hsm Hll hHeld
      cases hc : leB sm ll with
      | true =>
        have EL : Hid (discAt X Y r x y rad i j = 1065353216) := Lib.hid (by unfold discAt; rw [← hcond, hc]; rfl)
        unfold leB at hc
        clear hcond
        go_wp2
        go_ret
        exact ⟨_, ret_f EL.out.symm, rfl⟩
      | false =>
        have EL : Hid (discAt X Y r x y rad i j = 0) := Lib.hid (by unfold discAt; rw [← hcond, hc]; rfl)
        unfold leB at hc
        clear hcond
        go_wp2
        go_ret
        exact ⟨_, ret_f EL.out.symm, rfl⟩
    · go_simp
      refine hK.out _ _ ⟨c1, c2, c3, c4, c5, c6⟩ (fun hHeld => ?_)
      clear hK K
      try simp only [Act.put, List.setIfInBounds_toArray, List.set_cons_zero, List.set_cons_succ]
      refine wpAnyH_ready (rs := [6]) (by kernel_rfl) (by simp) ?_
      refine AllReadyH.cons rfl (fun K hK => ?_) AllReadyH.nil
      refine step_call (P := Try.prog) (by rfl) 66 #[.float .f32 (afv .sub .f32 (floatOfInt .f32 i) x w.drew), .int .i64 X, .bool r] (by have e := (enters_of Try.func66 (by kernel_rfl) rfl : Enters Try.prog 66) #[.float .f32 (afv .sub .f32 (floatOfInt .f32 i) x w.drew), .int .i64 X, .bool r] ((w.drewN (1 + (afn .sub .f32 (floatOfInt .f32 i) x) + (afn .sub .f32 (floatOfInt .f32 j) y)))); simp [execOp, resolve, invoke, Act.eval, Act.put, Deferred.ofValue] at e ⊢; try exact e) (fun e w' => ∃ v n, e = .returned (.float .f32 v) ∧ Same .f32 v (gapV (afv .sub .f32 (floatOfInt .f32 i) x w.drew) X r) ∧ w' = ((w.drewN (1 + (afn .sub .f32 (floatOfInt .f32 i) x) + (afn .sub .f32 (floatOfInt .f32 j) y)))).drewN n) (by exact impl_difference (afv .sub .f32 (floatOfInt .f32 i) x w.drew) X r _ hX16) ?_
      rintro e w' ⟨g1, ng1, rfl, hg1, rfl⟩
      have Hg1 : Hid (Same .f32 g1 (gapV (fsub .f32 (floatOfInt .f32 i) x) X r)) := Lib.hid (hg1.trans (Same.gap ⟨cn_afv .sub rfl .f32 _ _ _⟩ X r))
      clear hg1
      refine ⟨_, rfl, ?_⟩
      refine hK.out _ _ ⟨c1, c2, c3, c4, c5, c6⟩ (fun hHeld => ?_)
      clear hK K
      try simp only [Act.put, List.setIfInBounds_toArray, List.set_cons_zero, List.set_cons_succ]
      refine wpAnyH_ready (rs := [13]) (by kernel_rfl) (by simp) ?_
      refine AllReadyH.cons rfl (fun K hK => ?_) AllReadyH.nil
      refine step_call (P := Try.prog) (by rfl) 66 #[.float .f32 (afv .sub .f32 (floatOfInt .f32 j) y (w.drewN (1 + (afn .sub .f32 (floatOfInt .f32 i) x)))), .int .i64 Y, .bool r] (by have e := (enters_of Try.func66 (by kernel_rfl) rfl : Enters Try.prog 66) #[.float .f32 (afv .sub .f32 (floatOfInt .f32 j) y (w.drewN (1 + (afn .sub .f32 (floatOfInt .f32 i) x)))), .int .i64 Y, .bool r] (((w.drewN (1 + (afn .sub .f32 (floatOfInt .f32 i) x) + (afn .sub .f32 (floatOfInt .f32 j) y)))).drewN ng1); simp [execOp, resolve, invoke, Act.eval, Act.put, Deferred.ofValue] at e ⊢; try exact e) (fun e w' => ∃ v n, e = .returned (.float .f32 v) ∧ Same .f32 v (gapV (afv .sub .f32 (floatOfInt .f32 j) y (w.drewN (1 + (afn .sub .f32 (floatOfInt .f32 i) x)))) Y r) ∧ w' = (((w.drewN (1 + (afn .sub .f32 (floatOfInt .f32 i) x) + (afn .sub .f32 (floatOfInt .f32 j) y)))).drewN ng1).drewN n) (by exact impl_difference (afv .sub .f32 (floatOfInt .f32 j) y (w.drewN (1 + (afn .sub .f32 (floatOfInt .f32 i) x)))) Y r _ hY16) ?_
      rintro e w' ⟨g2, ng2, rfl, hg2, rfl⟩
      have Hg2 : Hid (Same .f32 g2 (gapV (fsub .f32 (floatOfInt .f32 j) y) Y r)) := Lib.hid (hg2.trans (Same.gap ⟨cn_afv .sub rfl .f32 _ _ _⟩ Y r))
      clear hg2
      refine ⟨_, rfl, ?_⟩
      refine hK.out _ _ ⟨c1, c2, c3, c4, c5, c6⟩ (fun hHeld => ?_)
      clear hK K
      try simp only [Act.put, List.setIfInBounds_toArray, List.set_cons_zero, List.set_cons_succ]
      refine wpAnyH_ready (rs := [14]) (by kernel_rfl) (by simp) ?_
      refine AllReadyH.cons rfl (fun K hK => ?_) AllReadyH.nil
      go_simp
      refine hK.out _ _ ⟨c1, c2, c3, c4, c5, c6⟩ (fun hHeld => ?_)
      clear hK K
      try simp only [Act.put, List.setIfInBounds_toArray, List.set_cons_zero, List.set_cons_succ]
      refine wpAnyH_ready (rs := [15]) (by kernel_rfl) (by simp) ?_
      refine AllReadyH.cons rfl (fun K hK => ?_) AllReadyH.nil
      go_simp
      refine hK.out _ _ ⟨c1, c2, c3, c4, c5, c6⟩ (fun hHeld => ?_)
      clear hK K
      try simp only [Act.put, List.setIfInBounds_toArray, List.set_cons_zero, List.set_cons_succ]
      refine wpAnyH_done (by kernel_rfl) ?_ _
      clear hSub
      have hpp := run_afv Try.prog .mul rfl 27 .f32 g1 g1 (w.drewN (1 + (afn .sub .f32 (floatOfInt .f32 i) x) + (afn .sub .f32 (floatOfInt .f32 j) y) + ng1 + ng2))
      have Hpp : Same .f32 (afv .mul .f32 g1 g1 (w.drewN (1 + (afn .sub .f32 (floatOfInt .f32 i) x) + (afn .sub .f32 (floatOfInt .f32 j) y) + ng1 + ng2))) (fmul .f32 g1 g1) := ⟨cn_afv .mul rfl .f32 _ _ _⟩
      generalize afv .mul .f32 g1 g1 (w.drewN (1 + (afn .sub .f32 (floatOfInt .f32 i) x) + (afn .sub .f32 (floatOfInt .f32 j) y) + ng1 + ng2)) = pp at hpp Hpp
      generalize afn .mul .f32 g1 g1 = np at hpp
      have htt := run_afv Try.prog .mul rfl 27 .f32 g2 g2 (w.drewN (1 + (afn .sub .f32 (floatOfInt .f32 i) x) + (afn .sub .f32 (floatOfInt .f32 j) y) + ng1 + ng2 + np))
      have Htt : Same .f32 (afv .mul .f32 g2 g2 (w.drewN (1 + (afn .sub .f32 (floatOfInt .f32 i) x) + (afn .sub .f32 (floatOfInt .f32 j) y) + ng1 + ng2 + np))) (fmul .f32 g2 g2) := ⟨cn_afv .mul rfl .f32 _ _ _⟩
      generalize afv .mul .f32 g2 g2 (w.drewN (1 + (afn .sub .f32 (floatOfInt .f32 i) x) + (afn .sub .f32 (floatOfInt .f32 j) y) + ng1 + ng2 + np)) = tt at htt Htt
      generalize afn .mul .f32 g2 g2 = nt at htt
      have hsm := run_afv Try.prog .add rfl 27 .f32 pp tt (w.drewN (1 + (afn .sub .f32 (floatOfInt .f32 i) x) + (afn .sub .f32 (floatOfInt .f32 j) y) + ng1 + ng2 + np + nt))
      have Hsm : Same .f32 (afv .add .f32 pp tt (w.drewN (1 + (afn .sub .f32 (floatOfInt .f32 i) x) + (afn .sub .f32 (floatOfInt .f32 j) y) + ng1 + ng2 + np + nt))) (fadd .f32 pp tt) := ⟨cn_afv .add rfl .f32 _ _ _⟩
      generalize afv .add .f32 pp tt (w.drewN (1 + (afn .sub .f32 (floatOfInt .f32 i) x) + (afn .sub .f32 (floatOfInt .f32 j) y) + ng1 + ng2 + np + nt)) = sm at hsm Hsm
      generalize afn .add .f32 pp tt = ns at hsm
      have hll := run_afv Try.prog .mul rfl 27 .f32 rad rad (w.drewN (1 + (afn .sub .f32 (floatOfInt .f32 i) x) + (afn .sub .f32 (floatOfInt .f32 j) y) + ng1 + ng2 + np + nt + ns))
      have Hll : Same .f32 (afv .mul .f32 rad rad (w.drewN (1 + (afn .sub .f32 (floatOfInt .f32 i) x) + (afn .sub .f32 (floatOfInt .f32 j) y) + ng1 + ng2 + np + nt + ns))) (fmul .f32 rad rad) := ⟨cn_afv .mul rfl .f32 _ _ _⟩
      generalize afv .mul .f32 rad rad (w.drewN (1 + (afn .sub .f32 (floatOfInt .f32 i) x) + (afn .sub .f32 (floatOfInt .f32 j) y) + ng1 + ng2 + np + nt + ns)) = ll at hll Hll
      generalize afn .mul .f32 rad rad = nl at hll
      have hcond : leB sm ll = discC (gapV (fsub .f32 (floatOfInt .f32 i) x) X r) (gapV (fsub .f32 (floatOfInt .f32 j) y) Y r) rad := disc_cond Hg1.out Hg2.out Hpp Htt Hsm Hll
      clear Hg1 Hg2 Hpp Htt Hsm Hll hHeld
      cases hc : leB sm ll with
      | true =>
        have EL : Hid (discAt X Y r x y rad i j = 1065353216) := Lib.hid (by unfold discAt; rw [← hcond, hc]; rfl)
        unfold leB at hc
        clear hcond
        go_wp2
        go_ret
        exact ⟨_, ret_f EL.out.symm, rfl⟩
      | false =>
        have EL : Hid (discAt X Y r x y rad i j = 0) := Lib.hid (by unfold discAt; rw [← hcond, hc]; rfl)
        unfold leB at hc
        clear hcond
        go_wp2
        go_ret
        exact ⟨_, ret_f EL.out.symm, rfl⟩
  · go_simp
    refine hK.out _ _ ⟨c1, c2, c3, c4, c5, c6⟩ (fun hHeld => ?_)
    clear hK K
    try simp only [Act.put, List.setIfInBounds_toArray, List.set_cons_zero, List.set_cons_succ]
    refine wpAnyH_ready (rs := [3]) (by kernel_rfl) (by simp) ?_
    refine AllReadyH.cons rfl (fun K hK => ?_) AllReadyH.nil
    go_simp
    refine hK.out _ _ ⟨c1, c2, c3, c4, c5, c6⟩ (fun hHeld => ?_)
    clear hK K
    try simp only [Act.put, List.setIfInBounds_toArray, List.set_cons_zero, List.set_cons_succ]
    refine wpAnyH_ready (rs := [6]) (by kernel_rfl) (by simp) ?_
    refine AllReadyH.cons rfl (fun K hK => ?_) AllReadyH.nil
    refine step_call (P := Try.prog) (by rfl) 66 #[.float .f32 (afv .sub .f32 (floatOfInt .f32 i) x (w.drewN (1 + (afn .sub .f32 (floatOfInt .f32 j) y)))), .int .i64 X, .bool r] (by have e := (enters_of Try.func66 (by kernel_rfl) rfl : Enters Try.prog 66) #[.float .f32 (afv .sub .f32 (floatOfInt .f32 i) x (w.drewN (1 + (afn .sub .f32 (floatOfInt .f32 j) y)))), .int .i64 X, .bool r] ((w.drewN (1 + (afn .sub .f32 (floatOfInt .f32 j) y) + (afn .sub .f32 (floatOfInt .f32 i) x)))); simp [execOp, resolve, invoke, Act.eval, Act.put, Deferred.ofValue] at e ⊢; try exact e) (fun e w' => ∃ v n, e = .returned (.float .f32 v) ∧ Same .f32 v (gapV (afv .sub .f32 (floatOfInt .f32 i) x (w.drewN (1 + (afn .sub .f32 (floatOfInt .f32 j) y)))) X r) ∧ w' = ((w.drewN (1 + (afn .sub .f32 (floatOfInt .f32 j) y) + (afn .sub .f32 (floatOfInt .f32 i) x)))).drewN n) (by exact impl_difference (afv .sub .f32 (floatOfInt .f32 i) x (w.drewN (1 + (afn .sub .f32 (floatOfInt .f32 j) y)))) X r _ hX16) ?_
    rintro e w' ⟨g1, ng1, rfl, hg1, rfl⟩
    have Hg1 : Hid (Same .f32 g1 (gapV (fsub .f32 (floatOfInt .f32 i) x) X r)) := Lib.hid (hg1.trans (Same.gap ⟨cn_afv .sub rfl .f32 _ _ _⟩ X r))
    clear hg1
    refine ⟨_, rfl, ?_⟩
    refine hK.out _ _ ⟨c1, c2, c3, c4, c5, c6⟩ (fun hHeld => ?_)
    clear hK K
    try simp only [Act.put, List.setIfInBounds_toArray, List.set_cons_zero, List.set_cons_succ]
    refine wpAnyH_ready (rs := [13]) (by kernel_rfl) (by simp) ?_
    refine AllReadyH.cons rfl (fun K hK => ?_) AllReadyH.nil
    refine step_call (P := Try.prog) (by rfl) 66 #[.float .f32 (afv .sub .f32 (floatOfInt .f32 j) y w.drew), .int .i64 Y, .bool r] (by have e := (enters_of Try.func66 (by kernel_rfl) rfl : Enters Try.prog 66) #[.float .f32 (afv .sub .f32 (floatOfInt .f32 j) y w.drew), .int .i64 Y, .bool r] (((w.drewN (1 + (afn .sub .f32 (floatOfInt .f32 j) y) + (afn .sub .f32 (floatOfInt .f32 i) x)))).drewN ng1); simp [execOp, resolve, invoke, Act.eval, Act.put, Deferred.ofValue] at e ⊢; try exact e) (fun e w' => ∃ v n, e = .returned (.float .f32 v) ∧ Same .f32 v (gapV (afv .sub .f32 (floatOfInt .f32 j) y w.drew) Y r) ∧ w' = (((w.drewN (1 + (afn .sub .f32 (floatOfInt .f32 j) y) + (afn .sub .f32 (floatOfInt .f32 i) x)))).drewN ng1).drewN n) (by exact impl_difference (afv .sub .f32 (floatOfInt .f32 j) y w.drew) Y r _ hY16) ?_
    rintro e w' ⟨g2, ng2, rfl, hg2, rfl⟩
    have Hg2 : Hid (Same .f32 g2 (gapV (fsub .f32 (floatOfInt .f32 j) y) Y r)) := Lib.hid (hg2.trans (Same.gap ⟨cn_afv .sub rfl .f32 _ _ _⟩ Y r))
    clear hg2
    refine ⟨_, rfl, ?_⟩
    refine hK.out _ _ ⟨c1, c2, c3, c4, c5, c6⟩ (fun hHeld => ?_)
    clear hK K
    try simp only [Act.put, List.setIfInBounds_toArray, List.set_cons_zero, List.set_cons_succ]
    refine wpAnyH_ready (rs := [14]) (by kernel_rfl) (by simp) ?_
    refine AllReadyH.cons rfl (fun K hK => ?_) AllReadyH.nil
    go_simp
    refine hK.out _ _ ⟨c1, c2, c3, c4, c5, c6⟩ (fun hHeld => ?_)
    clear hK K
    try simp only [Act.put, List.setIfInBounds_toArray, List.set_cons_zero, List.set_cons_succ]
    refine wpAnyH_ready (rs := [15]) (by kernel_rfl) (by simp) ?_
    refine AllReadyH.cons rfl (fun K hK => ?_) AllReadyH.nil
    go_simp
    refine hK.out _ _ ⟨c1, c2, c3, c4, c5, c6⟩ (fun hHeld => ?_)
    clear hK K
    try simp only [Act.put, List.setIfInBounds_toArray, List.set_cons_zero, List.set_cons_succ]
    refine wpAnyH_done (by kernel_rfl) ?_ _
    clear hSub
    have hpp := run_afv Try.prog .mul rfl 27 .f32 g1 g1 (w.drewN (1 + (afn .sub .f32 (floatOfInt .f32 j) y) + (afn .sub .f32 (floatOfInt .f32 i) x) + ng1 + ng2))
    have Hpp : Same .f32 (afv .mul .f32 g1 g1 (w.drewN (1 + (afn .sub .f32 (floatOfInt .f32 j) y) + (afn .sub .f32 (floatOfInt .f32 i) x) + ng1 + ng2))) (fmul .f32 g1 g1) := ⟨cn_afv .mul rfl .f32 _ _ _⟩
    generalize afv .mul .f32 g1 g1 (w.drewN (1 + (afn .sub .f32 (floatOfInt .f32 j) y) + (afn .sub .f32 (floatOfInt .f32 i) x) + ng1 + ng2)) = pp at hpp Hpp
    generalize afn .mul .f32 g1 g1 = np at hpp
    have htt := run_afv Try.prog .mul rfl 27 .f32 g2 g2 (w.drewN (1 + (afn .sub .f32 (floatOfInt .f32 j) y) + (afn .sub .f32 (floatOfInt .f32 i) x) + ng1 + ng2 + np))
    have Htt : Same .f32 (afv .mul .f32 g2 g2 (w.drewN (1 + (afn .sub .f32 (floatOfInt .f32 j) y) + (afn .sub .f32 (floatOfInt .f32 i) x) + ng1 + ng2 + np))) (fmul .f32 g2 g2) := ⟨cn_afv .mul rfl .f32 _ _ _⟩
    generalize afv .mul .f32 g2 g2 (w.drewN (1 + (afn .sub .f32 (floatOfInt .f32 j) y) + (afn .sub .f32 (floatOfInt .f32 i) x) + ng1 + ng2 + np)) = tt at htt Htt
    generalize afn .mul .f32 g2 g2 = nt at htt
    have hsm := run_afv Try.prog .add rfl 27 .f32 pp tt (w.drewN (1 + (afn .sub .f32 (floatOfInt .f32 j) y) + (afn .sub .f32 (floatOfInt .f32 i) x) + ng1 + ng2 + np + nt))
    have Hsm : Same .f32 (afv .add .f32 pp tt (w.drewN (1 + (afn .sub .f32 (floatOfInt .f32 j) y) + (afn .sub .f32 (floatOfInt .f32 i) x) + ng1 + ng2 + np + nt))) (fadd .f32 pp tt) := ⟨cn_afv .add rfl .f32 _ _ _⟩
    generalize afv .add .f32 pp tt (w.drewN (1 + (afn .sub .f32 (floatOfInt .f32 j) y) + (afn .sub .f32 (floatOfInt .f32 i) x) + ng1 + ng2 + np + nt)) = sm at hsm Hsm
    generalize afn .add .f32 pp tt = ns at hsm
    have hll := run_afv Try.prog .mul rfl 27 .f32 rad rad (w.drewN (1 + (afn .sub .f32 (floatOfInt .f32 j) y) + (afn .sub .f32 (floatOfInt .f32 i) x) + ng1 + ng2 + np + nt + ns))
    have Hll : Same .f32 (afv .mul .f32 rad rad (w.drewN (1 + (afn .sub .f32 (floatOfInt .f32 j) y) + (afn .sub .f32 (floatOfInt .f32 i) x) + ng1 + ng2 + np + nt + ns))) (fmul .f32 rad rad) := ⟨cn_afv .mul rfl .f32 _ _ _⟩
    generalize afv .mul .f32 rad rad (w.drewN (1 + (afn .sub .f32 (floatOfInt .f32 j) y) + (afn .sub .f32 (floatOfInt .f32 i) x) + ng1 + ng2 + np + nt + ns)) = ll at hll Hll
    generalize afn .mul .f32 rad rad = nl at hll
    have hcond : leB sm ll = discC (gapV (fsub .f32 (floatOfInt .f32 i) x) X r) (gapV (fsub .f32 (floatOfInt .f32 j) y) Y r) rad := disc_cond Hg1.out Hg2.out Hpp Htt Hsm Hll
    clear Hg1 Hg2 Hpp Htt Hsm Hll hHeld
    cases hc : leB sm ll with
    | true =>
      have EL : Hid (discAt X Y r x y rad i j = 1065353216) := Lib.hid (by unfold discAt; rw [← hcond, hc]; rfl)
      unfold leB at hc
      clear hcond
      go_wp2
      go_ret
      exact ⟨_, ret_f EL.out.symm, rfl⟩
    | false =>
      have EL : Hid (discAt X Y r x y rad i j = 0) := Lib.hid (by unfold discAt; rw [← hcond, hc]; rfl)
      unfold leB at hc
      clear hcond
      go_wp2
      go_ret
      exact ⟨_, ret_f EL.out.symm, rfl⟩

end Go.Proofs.Ytcnamhmoocdccaa
