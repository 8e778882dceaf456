/- The reference's l02Own and PutValue. Under no condition. -/
import Derived.Test.YtbcocjakpnhmaaaPv
namespace Go.Proofs.Ytbcocjakpnhmaaa
open Go Go.RowKit
set_option linter.unusedVariables false
set_option linter.unusedSimpArgs false

theorem spec_l02New' (x y : Int) (r : Bool) (w : World) :
    Calls Try.prog 68 #[.int .i64 x, .int .i64 y, .bool r] w fun e w' => ∃ a0 c0, e = .returned (.agg #[.int .i64 x, .int .i64 y, .bool r, .slice a0 0 c0]) ∧ Below w.heap.size w w' ∧ FOwn w' w.heap.size (.slice a0 0 c0) [] := by
  refine (spec_l02New x y r w).mono ?_
  rintro e w' ⟨v, rfl, k, h⟩
  obtain ⟨a0, c0, rfl, _⟩ := h.value
  exact ⟨a0, c0, rfl, k, h⟩
theorem zero_second (w : World) (o : Obj) : Own ((w.alloc o).alloc (.cells #[.int .i64 0, .int .i64 0, .bool false, .slice none 0 0] 37)) (w.heap.size + 1) 37 #[.int .i64 0, .int .i64 0, .bool false, .slice none 0 0] := by
  have h := Own.alloc (w.alloc o) 37 #[.int .i64 0, .int .i64 0, .bool false, .slice none 0 0]
  have e : (w.alloc o).heap.size = w.heap.size + 1 := by simp
  rwa [e] at h

set_option maxHeartbeats 2000000 in
theorem spec_l02Own (X Y : Nat) (r : Bool) (a : Option Addr) (len cap : Nat) (xs : List Nat) (b : Nat) (w : World) (R : FieldRd w b X Y r a len cap xs) (hl : xs.length = len) (h0 : 0 < len) (hm : len ≤ 256) :
    Calls Try.prog 75 #[.pointer (some ⟨b, 0, none⟩)] w (FieldMade X Y r len (fun k => xs.getD k 0) w none) := by
  have R2 := R.keep (keep_own w (.cells #[.int .i64 0, .int .i64 0, .bool false, .slice none 0 0] 37))
  obtain ⟨⟨hb4, c0, c1, c2, c3⟩, hs4, _⟩ := R2
  rcases hs4.split with h0' | ⟨ba, oo, rfl, hb5, hc⟩
  · omega
  have HX := Lib.hid R
  have HL := Lib.hid hl
  clear hc hs4 R hl
  have kd : Below (w.alloc (.cells #[.int .i64 0, .int .i64 0, .bool false, .slice none 0 0] 37)).heap.size (w.alloc (.cells #[.int .i64 0, .int .i64 0, .bool false, .slice none 0 0] 37)) (w.alloc (.cells #[.int .i64 0, .int .i64 0, .bool false, .slice none 0 0] 37)).drew := keep_drewN (Below.refl _ _) 1
  have kd2 : Below ((w.alloc (.cells #[.int .i64 0, .int .i64 0, .bool false, .slice none 0 0] 37)).alloc (.cells #[.int .i64 0, .int .i64 0, .bool false, .slice none 0 0] 37)).heap.size ((w.alloc (.cells #[.int .i64 0, .int .i64 0, .bool false, .slice none 0 0] 37)).alloc (.cells #[.int .i64 0, .int .i64 0, .bool false, .slice none 0 0] 37)) ((w.alloc (.cells #[.int .i64 0, .int .i64 0, .bool false, .slice none 0 0] 37)).alloc (.cells #[.int .i64 0, .int .i64 0, .bool false, .slice none 0 0] 37)).drew := keep_drewN (Below.refl _ _) 1
  have s1 : (w.alloc (.cells #[.int .i64 0, .int .i64 0, .bool false, .slice none 0 0] 37)).heap.size = w.heap.size + 1 := by simp
  have s2 : ((w.alloc (.cells #[.int .i64 0, .int .i64 0, .bool false, .slice none 0 0] 37)).alloc (.cells #[.int .i64 0, .int .i64 0, .bool false, .slice none 0 0] 37)).heap.size = w.heap.size + 1 + 1 := by simp
  have KD := Lib.hid kd
  have KD2 := Lib.hid kd2
  have S2 := Lib.hid s2
  clear kd kd2 s1 s2
  go_enter Try.func75, Try.ntmps75
  go_wp2
  refine wp_region_held_drew (S := fun w' => w'.cell? ⟨b, 0, none⟩ = some (.int .i64 X) ∧ w'.cell? ⟨b, 1, none⟩ = some (.int .i64 Y) ∧ w'.cell? ⟨b, 2, none⟩ = some (.bool r)) (by kernel_rfl) ⟨c0, c1, c2⟩ (fun hHeld => ?_)
  refine wpAnyH_take (i := 0) (v := ?_) rfl (by kernel_rfl) (by kernel_rfl) (by kernel_rfl) (fun _ _ _ h => h) (Or.inl ⟨by rfl, ?_⟩) hHeld ?_
  rotate_left
  · intro w0 hSw; (try dsimp only at hSw); go_simp; try with_reducible rfl
  try simp only [Act.put, List.setIfInBounds_toArray, List.set_cons_zero, List.set_cons_succ]
  refine wpAnyH_take (i := 1) (v := ?_) rfl (by kernel_rfl) (by kernel_rfl) (by kernel_rfl) (fun _ _ _ h => h) (Or.inl ⟨by rfl, ?_⟩) hHeld ?_
  rotate_left
  · intro w0 hSw; (try dsimp only at hSw); go_simp; try with_reducible rfl
  try simp only [Act.put, List.setIfInBounds_toArray, List.set_cons_zero, List.set_cons_succ]
  refine wpAnyH_take (i := 2) (v := ?_) rfl (by kernel_rfl) (by kernel_rfl) (by kernel_rfl) (fun _ _ _ h => h) (Or.inl ⟨by rfl, ?_⟩) hHeld ?_
  rotate_left
  · intro w0 hSw; (try dsimp only at hSw); go_simp; try with_reducible rfl
  try simp only [Act.put, List.setIfInBounds_toArray, List.set_cons_zero, List.set_cons_succ]
  refine wpAnyH_take (i := 3) (v := ?_) rfl (by kernel_rfl) (by kernel_rfl) (by kernel_rfl) (fun _ _ _ h => h) (Or.inl ⟨by rfl, ?_⟩) hHeld ?_
  rotate_left
  · intro w0 hSw; (try dsimp only at hSw); go_simp; try with_reducible rfl
  try simp only [Act.put, List.setIfInBounds_toArray, List.set_cons_zero, List.set_cons_succ]
  refine wpAnyH_take (i := 4) (v := ?_) rfl (by kernel_rfl) (by kernel_rfl) (by kernel_rfl) (fun _ _ _ h => h) (Or.inl ⟨by rfl, ?_⟩) hHeld ?_
  rotate_left
  · intro w0 hSw; (try dsimp only at hSw); go_simp; try with_reducible rfl
  try simp only [Act.put, List.setIfInBounds_toArray, List.set_cons_zero, List.set_cons_succ]
  refine wpAnyH_take (i := 5) (v := ?_) rfl (by kernel_rfl) (by kernel_rfl) (by kernel_rfl) (fun _ _ _ h => h) (Or.inl ⟨by rfl, ?_⟩) hHeld ?_
  rotate_left
  · intro w0 hSw; (try dsimp only at hSw); go_simp; try with_reducible rfl
  try simp only [Act.put, List.setIfInBounds_toArray, List.set_cons_zero, List.set_cons_succ]
  refine wpAnyH_take (i := 6) (v := ?_) rfl (by kernel_rfl) (by kernel_rfl) (by kernel_rfl) (fun _ _ _ h => h) (Or.inl ⟨by rfl, ?_⟩) hHeld ?_
  rotate_left
  · intro w0 hSw; (try dsimp only at hSw); go_simp; try with_reducible rfl
  try simp only [Act.put, List.setIfInBounds_toArray, List.set_cons_zero, List.set_cons_succ]
  refine wpAnyH_take (i := 7) (v := ?_) rfl (by kernel_rfl) (by kernel_rfl) (by kernel_rfl) (fun _ _ _ h => h) (Or.inl ⟨by rfl, ?_⟩) hHeld ?_
  rotate_left
  · intro w0 hSw; (try dsimp only at hSw); go_simp; try with_reducible rfl
  try simp only [Act.put, List.setIfInBounds_toArray, List.set_cons_zero, List.set_cons_succ]
  refine wpAnyH_take (i := 8) (v := ?_) rfl (by kernel_rfl) (by kernel_rfl) (by kernel_rfl) (fun _ _ _ h => h) (Or.inl ⟨by rfl, ?_⟩) hHeld ?_
  rotate_left
  · intro w0 hSw; (try dsimp only at hSw); go_simp; try with_reducible rfl
  try simp only [Act.put, List.setIfInBounds_toArray, List.set_cons_zero, List.set_cons_succ]
  refine wpAnyH_take (i := 9) (v := ?_) rfl (by kernel_rfl) (by kernel_rfl) (by kernel_rfl) (fun _ _ _ h => h) (Or.inl ⟨by rfl, ?_⟩) hHeld ?_
  rotate_left
  · intro w0 hSw; (try dsimp only at hSw); go_simp; try with_reducible rfl
  try simp only [Act.put, List.setIfInBounds_toArray, List.set_cons_zero, List.set_cons_succ]
  refine wpAnyH_take (i := 10) (v := ?_) rfl (by kernel_rfl) (by kernel_rfl) (by kernel_rfl) (fun _ _ _ h => h) (Or.inl ⟨by rfl, ?_⟩) hHeld ?_
  rotate_left
  · intro w0 hSw; (try dsimp only at hSw); go_simp; try with_reducible rfl
  try simp only [Act.put, List.setIfInBounds_toArray, List.set_cons_zero, List.set_cons_succ]
  refine wpAnyH_take (i := 11) (v := ?_) rfl (by kernel_rfl) (by kernel_rfl) (by kernel_rfl) (fun _ _ _ h => h) (Or.inl ⟨by rfl, ?_⟩) hHeld ?_
  rotate_left
  · intro w0 hSw; (try dsimp only at hSw); go_simp; try with_reducible rfl
  try simp only [Act.put, List.setIfInBounds_toArray, List.set_cons_zero, List.set_cons_succ]
  refine wpAnyH_ready (rs := [12, 13]) (by kernel_rfl) (by simp) ?_
  refine AllReadyH.cons rfl (fun K hK => ?_) (AllReadyH.cons rfl (fun K hK => ?_) AllReadyH.nil)
  · refine step_call (P := Try.prog) (by rfl) 68 #[.int .i64 X, .int .i64 Y, .bool r] (by have e := (enters_of Try.func68 (by kernel_rfl) rfl : Enters Try.prog 68) #[.int .i64 X, .int .i64 Y, .bool r] ((w.alloc (.cells #[.int .i64 0, .int .i64 0, .bool false, .slice none 0 0] 37)).drew); simp [execOp, resolve, invoke, Act.eval, Act.put, Deferred.ofValue] at e ⊢; try exact e) (fun e w' => ∃ a0 c0, e = .returned (.agg #[.int .i64 X, .int .i64 Y, .bool r, .slice a0 0 c0]) ∧ Below ((w.alloc (.cells #[.int .i64 0, .int .i64 0, .bool false, .slice none 0 0] 37)).drew).heap.size ((w.alloc (.cells #[.int .i64 0, .int .i64 0, .bool false, .slice none 0 0] 37)).drew) w' ∧ FOwn w' ((w.alloc (.cells #[.int .i64 0, .int .i64 0, .bool false, .slice none 0 0] 37)).drew).heap.size (.slice a0 0 c0) []) (by exact spec_l02New' X Y r _) ?_
    rintro e w2 ⟨a0, cap0, rfl, k2, h2⟩
    have hbl : b < (w.alloc (.cells #[.int .i64 0, .int .i64 0, .bool false, .slice none 0 0] 37)).drew.heap.size := hb4
    have hB := Lib.hid (Going.begin (W := w) X Y r (fun k => xs.getD k 0) rfl (keep_trans KD.out k2) h2)
    have hwz : w.heap.size < w2.heap.size := Nat.lt_of_lt_of_le (by simp) k2.size
    refine ⟨_, rfl, ?_⟩
    refine hK.out _ _ ⟨(k2.cell (p := ⟨b, 0, none⟩) hbl).trans hHeld.1, (k2.cell (p := ⟨b, 1, none⟩) hbl).trans hHeld.2.1, (k2.cell (p := ⟨b, 2, none⟩) hbl).trans hHeld.2.2⟩ (fun hHeld => ?_)
    clear hK K
    try simp only [Act.put, List.setIfInBounds_toArray, List.set_cons_zero, List.set_cons_succ]
    refine wpAnyH_ready (rs := [13]) (by kernel_rfl) (by simp) ?_
    refine AllReadyH.cons rfl (fun K hK => ?_) AllReadyH.nil
    go_simp
    refine hK.out _ _ (by first | exact hHeld | go_keep) (fun hHeld => ?_)
    clear hK K
    try simp only [Act.put, List.setIfInBounds_toArray, List.set_cons_zero, List.set_cons_succ]
    refine wpAnyH_ready (rs := [14]) (by kernel_rfl) (by simp) ?_
    refine AllReadyH.cons rfl (fun K hK => ?_) AllReadyH.nil
    go_simp
    refine hK.out _ _ (by first | exact hHeld | go_keep) (fun hHeld => ?_)
    clear hK K
    try simp only [Act.put, List.setIfInBounds_toArray, List.set_cons_zero, List.set_cons_succ]
    have hbw : b < w.heap.size := HX.out.box.lt
    have hXb : w2.heap.size ≠ b := by omega
    refine wpAnyH_done (by kernel_rfl) ?_ _
    obtain ⟨v, vs, hC, hn, hv⟩ := hB.out
    have hl0 : vs = [] := List.length_eq_zero_iff.1 hn
    subst hl0
    clear hn hv
    have c3X := hC.cell
    have RZ := HX.out.keep (below_of_grown hC.grow)
    obtain ⟨⟨hbz, _, _, _, c3z⟩, hsz, _⟩ := RZ
    have CC := Lib.hid hC
    have HH := Lib.hid (hsz.drewN 1)
    clear hC hsz hHeld hB
    go_wp2
    refine wp_region_held_drew (S := fun w' => w'.cell? ⟨b, 3, none⟩ = some (.slice (some ⟨ba, oo, none⟩) len cap)) (by kernel_rfl) c3z (fun hHeld => ?_)
    refine wpAnyH_take (i := 0) (v := ?_) rfl (by kernel_rfl) (by kernel_rfl) (by kernel_rfl) (fun _ _ _ h => h) (Or.inl ⟨by rfl, ?_⟩) hHeld ?_
    rotate_left
    · intro w0 hSw; (try dsimp only at hSw); go_simp; try with_reducible rfl
    try simp only [Act.put, List.setIfInBounds_toArray, List.set_cons_zero, List.set_cons_succ]
    refine wpAnyH_take (i := 2) (v := ?_) rfl (by kernel_rfl) (by kernel_rfl) (by kernel_rfl) (fun _ _ _ h => h) (Or.inl ⟨by rfl, ?_⟩) hHeld ?_
    rotate_left
    · intro w0 hSw; (try dsimp only at hSw); go_simp; try with_reducible rfl
    try simp only [Act.put, List.setIfInBounds_toArray, List.set_cons_zero, List.set_cons_succ]
    refine wpAnyH_take (i := 3) (v := ?_) rfl (by kernel_rfl) (by kernel_rfl) (by kernel_rfl) (fun _ _ _ h => h) (Or.inl ⟨by rfl, ?_⟩) hHeld ?_
    rotate_left
    · intro w0 hSw; (try dsimp only at hSw); go_simp; try with_reducible rfl
    try simp only [Act.put, List.setIfInBounds_toArray, List.set_cons_zero, List.set_cons_succ]
    refine wpAnyH_take (i := 4) (v := ?_) rfl (by kernel_rfl) (by kernel_rfl) (by kernel_rfl) (fun _ _ _ h => h) (Or.inl ⟨by rfl, ?_⟩) hHeld ?_
    rotate_left
    · intro w0 hSw; (try dsimp only at hSw); go_simp; try with_reducible rfl
    try simp only [Act.put, List.setIfInBounds_toArray, List.set_cons_zero, List.set_cons_succ]
    refine wpAnyH_take (i := 5) (v := ?_) rfl (by kernel_rfl) (by kernel_rfl) (by kernel_rfl) (fun _ _ _ h => h) (Or.inl ⟨by rfl, ?_⟩) hHeld ?_
    rotate_left
    · intro w0 hSw; (try dsimp only at hSw); go_simp; try with_reducible rfl
    try simp only [Act.put, List.setIfInBounds_toArray, List.set_cons_zero, List.set_cons_succ]
    refine wpAnyH_ready (rs := [1]) (by kernel_rfl) (by simp) ?_
    refine AllReadyH.cons rfl (fun K hK => ?_) AllReadyH.nil
    go_simp
    refine hK.out _ _ hHeld (fun hHeld => ?_)
    clear hK K
    try simp only [Act.put, List.setIfInBounds_toArray, List.set_cons_zero, List.set_cons_succ]
    refine wpAnyH_ready (rs := [6]) (by kernel_rfl) (by simp) ?_
    refine AllReadyH.cons rfl (fun K hK => ?_) AllReadyH.nil
    refine step_pushes (by rfl) (.tmp 18) (.tmp 22) (by rfl) CC.out.drew (by rfl) (by rfl) HL.out h0 HH.out (by simp) (by omega) (tot := len) (Nat.zero_add _) (zs := xs) rfl ?_
    intro g cp w3 o3 c6 f5 C4
    refine hK.out _ _ ((o3 b 3 hbw).trans hHeld) (fun hHeld => ?_)
    clear hK K
    try simp only [Act.put, List.setIfInBounds_toArray, List.set_cons_zero, List.set_cons_succ]
    refine wpAnyH_take (i := 7) (v := ?_) rfl (by kernel_rfl) (by kernel_rfl) (by kernel_rfl) (fun _ _ _ h => h) (Or.inl ⟨by rfl, ?_⟩) hHeld ?_
    rotate_left
    · intro w0 hSw; (try dsimp only at hSw); go_simp; try with_reducible rfl
    try simp only [Act.put, List.setIfInBounds_toArray, List.set_cons_zero, List.set_cons_succ]
    refine wpAnyH_ready (rs := [8]) (by kernel_rfl) (by simp) ?_
    refine AllReadyH.cons rfl (fun K hK => ?_) AllReadyH.nil
    go_simp
    refine hK.out _ _ ((World.cell?_setCell_far _ _ _ _ (by exact hXb)).trans hHeld) (fun hHeld => ?_)
    clear hK K
    try simp only [Act.put, List.setIfInBounds_toArray, List.set_cons_zero, List.set_cons_succ]
    refine wpAnyH_done (by kernel_rfl) ?_ _
    obtain ⟨aF, lnF, cpF, vF, e, q0, q1, q2, q3, d0, d1, d2, d3, f0, f1, f2, f3, hfin⟩ := Going.result (V := (fun k => xs.getD k 0)) (n := len) ⟨_, _, C4, HL.out, fun i hi => Same.refl _ _⟩ (fun k e => by cases e)
    have HF := Lib.hid hfin
    clear hfin C4 c6 f5 o3 CC HH c3z c3X hHeld
    subst e
    go_wp2
    obtain ⟨hm, g1, g2⟩ := HF.out _ rfl
    refine bodyPost_ret (v := .agg #[.int .i64 X, .int .i64 Y, .bool r, .slice aF lnF cpF]) (by simp [results, Try.results75, go_sem, *]) rfl hm
  · go_simp
    refine hK.out _ _ (by first | exact hHeld | go_keep) (fun hHeld => ?_)
    clear hK K
    try simp only [Act.put, List.setIfInBounds_toArray, List.set_cons_zero, List.set_cons_succ]
    refine wpAnyH_ready (rs := [12]) (by kernel_rfl) (by simp) ?_
    refine AllReadyH.cons rfl (fun K hK => ?_) AllReadyH.nil
    refine step_call (P := Try.prog) (by rfl) 68 #[.int .i64 X, .int .i64 Y, .bool r] (by have e := (enters_of Try.func68 (by kernel_rfl) rfl : Enters Try.prog 68) #[.int .i64 X, .int .i64 Y, .bool r] (((w.alloc (.cells #[.int .i64 0, .int .i64 0, .bool false, .slice none 0 0] 37)).alloc (.cells #[.int .i64 0, .int .i64 0, .bool false, .slice none 0 0] 37)).drew); simp [execOp, resolve, invoke, Act.eval, Act.put, Deferred.ofValue] at e ⊢; try exact e) (fun e w' => ∃ a0 c0, e = .returned (.agg #[.int .i64 X, .int .i64 Y, .bool r, .slice a0 0 c0]) ∧ Below (((w.alloc (.cells #[.int .i64 0, .int .i64 0, .bool false, .slice none 0 0] 37)).alloc (.cells #[.int .i64 0, .int .i64 0, .bool false, .slice none 0 0] 37)).drew).heap.size (((w.alloc (.cells #[.int .i64 0, .int .i64 0, .bool false, .slice none 0 0] 37)).alloc (.cells #[.int .i64 0, .int .i64 0, .bool false, .slice none 0 0] 37)).drew) w' ∧ FOwn w' (((w.alloc (.cells #[.int .i64 0, .int .i64 0, .bool false, .slice none 0 0] 37)).alloc (.cells #[.int .i64 0, .int .i64 0, .bool false, .slice none 0 0] 37)).drew).heap.size (.slice a0 0 c0) []) (by exact spec_l02New' X Y r _) ?_
    rintro e w2 ⟨a0, cap0, rfl, k2, h2⟩
    have hbl : b < ((w.alloc (.cells #[.int .i64 0, .int .i64 0, .bool false, .slice none 0 0] 37)).alloc (.cells #[.int .i64 0, .int .i64 0, .bool false, .slice none 0 0] 37)).drew.heap.size := Nat.lt_of_lt_of_le hb4 (by simp)
    have k3 := keep_trans KD2.out k2
    rw [S2.out] at k3
    have h3 := h2
    have eS : ((w.alloc (.cells #[.int .i64 0, .int .i64 0, .bool false, .slice none 0 0] 37)).alloc (.cells #[.int .i64 0, .int .i64 0, .bool false, .slice none 0 0] 37)).drew.heap.size = w.heap.size + 1 + 1 := S2.out
    rw [eS] at h3
    have hB := Lib.hid (Going.begin2 (W := w) X Y r (fun k => xs.getD k 0) k3 h3)
    obtain ⟨p0, p1, p2, p3, z0, z1, z2, z3⟩ := (zero_second w (.cells #[.int .i64 0, .int .i64 0, .bool false, .slice none 0 0] 37)).below k3 (by omega) |>.zero4
    refine ⟨_, rfl, ?_⟩
    refine hK.out _ _ ⟨(k2.cell (p := ⟨b, 0, none⟩) hbl).trans hHeld.1, (k2.cell (p := ⟨b, 1, none⟩) hbl).trans hHeld.2.1, (k2.cell (p := ⟨b, 2, none⟩) hbl).trans hHeld.2.2⟩ (fun hHeld => ?_)
    clear hK K
    try simp only [Act.put, List.setIfInBounds_toArray, List.set_cons_zero, List.set_cons_succ]
    have hbw : b < w.heap.size := HX.out.box.lt
    have hXb : w.heap.size + 1 ≠ b := by omega
    refine wpAnyH_ready (rs := [14]) (by kernel_rfl) (by simp) ?_
    refine AllReadyH.cons rfl (fun K hK => ?_) AllReadyH.nil
    go_simp
    refine hK.out _ _ ⟨(far4' hXb _ _ _ _ _ _).trans hHeld.1, (far4' hXb _ _ _ _ _ _).trans hHeld.2.1, (far4' hXb _ _ _ _ _ _).trans hHeld.2.2⟩ (fun hHeld => ?_)
    clear hK K
    try simp only [Act.put, List.setIfInBounds_toArray, List.set_cons_zero, List.set_cons_succ]
    refine wpAnyH_done (by kernel_rfl) ?_ _
    obtain ⟨v, vs, hC, hn, hv⟩ := hB.out
    have hl0 : vs = [] := List.length_eq_zero_iff.1 hn
    subst hl0
    clear hn hv
    have c3X := hC.cell
    have RZ := HX.out.keep (below_of_grown hC.grow)
    obtain ⟨⟨hbz, _, _, _, c3z⟩, hsz, _⟩ := RZ
    have CC := Lib.hid hC
    have HH := Lib.hid (hsz.drewN 1)
    clear hC hsz hHeld hB
    go_wp2
    refine wp_region_held_drew (S := fun w' => w'.cell? ⟨b, 3, none⟩ = some (.slice (some ⟨ba, oo, none⟩) len cap)) (by kernel_rfl) c3z (fun hHeld => ?_)
    refine wpAnyH_take (i := 0) (v := ?_) rfl (by kernel_rfl) (by kernel_rfl) (by kernel_rfl) (fun _ _ _ h => h) (Or.inl ⟨by rfl, ?_⟩) hHeld ?_
    rotate_left
    · intro w0 hSw; (try dsimp only at hSw); go_simp; try with_reducible rfl
    try simp only [Act.put, List.setIfInBounds_toArray, List.set_cons_zero, List.set_cons_succ]
    refine wpAnyH_take (i := 2) (v := ?_) rfl (by kernel_rfl) (by kernel_rfl) (by kernel_rfl) (fun _ _ _ h => h) (Or.inl ⟨by rfl, ?_⟩) hHeld ?_
    rotate_left
    · intro w0 hSw; (try dsimp only at hSw); go_simp; try with_reducible rfl
    try simp only [Act.put, List.setIfInBounds_toArray, List.set_cons_zero, List.set_cons_succ]
    refine wpAnyH_take (i := 3) (v := ?_) rfl (by kernel_rfl) (by kernel_rfl) (by kernel_rfl) (fun _ _ _ h => h) (Or.inl ⟨by rfl, ?_⟩) hHeld ?_
    rotate_left
    · intro w0 hSw; (try dsimp only at hSw); go_simp; try with_reducible rfl
    try simp only [Act.put, List.setIfInBounds_toArray, List.set_cons_zero, List.set_cons_succ]
    refine wpAnyH_take (i := 4) (v := ?_) rfl (by kernel_rfl) (by kernel_rfl) (by kernel_rfl) (fun _ _ _ h => h) (Or.inl ⟨by rfl, ?_⟩) hHeld ?_
    rotate_left
    · intro w0 hSw; (try dsimp only at hSw); go_simp; try with_reducible rfl
    try simp only [Act.put, List.setIfInBounds_toArray, List.set_cons_zero, List.set_cons_succ]
    refine wpAnyH_take (i := 5) (v := ?_) rfl (by kernel_rfl) (by kernel_rfl) (by kernel_rfl) (fun _ _ _ h => h) (Or.inl ⟨by rfl, ?_⟩) hHeld ?_
    rotate_left
    · intro w0 hSw; (try dsimp only at hSw); go_simp; try with_reducible rfl
    try simp only [Act.put, List.setIfInBounds_toArray, List.set_cons_zero, List.set_cons_succ]
    refine wpAnyH_ready (rs := [1]) (by kernel_rfl) (by simp) ?_
    refine AllReadyH.cons rfl (fun K hK => ?_) AllReadyH.nil
    go_simp
    refine hK.out _ _ hHeld (fun hHeld => ?_)
    clear hK K
    try simp only [Act.put, List.setIfInBounds_toArray, List.set_cons_zero, List.set_cons_succ]
    refine wpAnyH_ready (rs := [6]) (by kernel_rfl) (by simp) ?_
    refine AllReadyH.cons rfl (fun K hK => ?_) AllReadyH.nil
    refine step_pushes (by rfl) (.tmp 18) (.tmp 22) (by rfl) CC.out.drew (by rfl) (by rfl) HL.out h0 HH.out (by simp) (by omega) (tot := len) (Nat.zero_add _) (zs := xs) rfl ?_
    intro g cp w3 o3 c6 f5 C4
    refine hK.out _ _ ((o3 b 3 hbw).trans hHeld) (fun hHeld => ?_)
    clear hK K
    try simp only [Act.put, List.setIfInBounds_toArray, List.set_cons_zero, List.set_cons_succ]
    refine wpAnyH_take (i := 7) (v := ?_) rfl (by kernel_rfl) (by kernel_rfl) (by kernel_rfl) (fun _ _ _ h => h) (Or.inl ⟨by rfl, ?_⟩) hHeld ?_
    rotate_left
    · intro w0 hSw; (try dsimp only at hSw); go_simp; try with_reducible rfl
    try simp only [Act.put, List.setIfInBounds_toArray, List.set_cons_zero, List.set_cons_succ]
    refine wpAnyH_ready (rs := [8]) (by kernel_rfl) (by simp) ?_
    refine AllReadyH.cons rfl (fun K hK => ?_) AllReadyH.nil
    go_simp
    refine hK.out _ _ ((World.cell?_setCell_far _ _ _ _ (by exact hXb)).trans hHeld) (fun hHeld => ?_)
    clear hK K
    try simp only [Act.put, List.setIfInBounds_toArray, List.set_cons_zero, List.set_cons_succ]
    refine wpAnyH_done (by kernel_rfl) ?_ _
    obtain ⟨aF, lnF, cpF, vF, e, q0, q1, q2, q3, d0, d1, d2, d3, f0, f1, f2, f3, hfin⟩ := Going.result (V := (fun k => xs.getD k 0)) (n := len) ⟨_, _, C4, HL.out, fun i hi => Same.refl _ _⟩ (fun k e => by cases e)
    have HF := Lib.hid hfin
    clear hfin C4 c6 f5 o3 CC HH c3z c3X hHeld
    subst e
    go_wp2
    obtain ⟨hm, g1, g2⟩ := HF.out _ rfl
    refine bodyPost_ret (v := .agg #[.int .i64 X, .int .i64 Y, .bool r, .slice aF lnF cpF]) (by simp [results, Try.results75, go_sem, *]) rfl hm

end Go.Proofs.Ytbcocjakpnhmaaa
