/- The program's ScaleField. Under no condition. -/
import Derived.Test.YtbcocjakpnhmaaaMw
import Derived.Test.YtbcocjakpnhmaaaMx
namespace Go.Proofs.Ytbcocjakpnhmaaa
open Go Go.RowKit
set_option linter.unusedVariables false
set_option linter.unusedSimpArgs false

set_option maxHeartbeats 1000000 in
theorem scale_fn (X Y : Nat) (r : Bool) (a : Option Addr) (len cap : Nat) (xs : List Nat) (by_ xx yy fb bb : Nat) (w : World) (h : FieldRd w fb X Y r a len cap xs) (hb : w.cell? ⟨bb, 0, none⟩ = some (.float .f32 by_)) (hX : X ≤ 16) (hY : Y ≤ 16) (hl : len = X * Y) (hx : xx < X) (hy : yy < Y) :
    Calls Try.prog 73 #[.int .i64 xx, .int .i64 yy, .pointer (some ⟨fb, 0, none⟩), .pointer (some ⟨bb, 0, none⟩)] w fun e w' => ∃ b, e = .returned (.float .f32 b) ∧ Same .f32 b (fmul .f32 (xs.getD (xx + X * yy) 0) by_) ∧ Below w.heap.size w w' := by
  have hlt := index_lt (X := X) (Y := Y) (x := xx) (y := yy) hx hy hl
  have H0 := Lib.hid h
  obtain ⟨⟨_, c0, c1, c2, c3⟩, hs, hsm⟩ := h
  have HS := Lib.hid hs
  obtain ⟨el, hel⟩ : ∃ el, xs.getD (xx + X * yy) 0 = el := ⟨_, rfl⟩
  rw [hel]
  have EL := Lib.hid hel
  clear hl hs hel
  go_enter Try.func73, Try.ntmps73
  go_wp2
  refine wp_region_held_drew (S := fun w' => w'.cell? ⟨fb, 0, none⟩ = some (.int .i64 X) ∧ w'.cell? ⟨fb, 1, none⟩ = some (.int .i64 Y) ∧ w'.cell? ⟨fb, 2, none⟩ = some (.bool r) ∧ w'.cell? ⟨fb, 3, none⟩ = some (.slice a len cap) ∧ w'.cell? ⟨bb, 0, none⟩ = some (.float .f32 by_)) (by kernel_rfl) ⟨c0, c1, c2, c3, hb⟩ (fun hHeld => ?_)
  refine wpAnyH_take (i := 0) (v := ?_) rfl (by kernel_rfl) (by kernel_rfl) (by kernel_rfl) (fun _ _ _ h => h) (Or.inl ⟨by rfl, ?_⟩) hHeld ?_
  rotate_left
  · intro w0 hSw; (try dsimp only at hSw); go_simp; try with_reducible rfl
  try simp only [Act.put, List.setIfInBounds_toArray, List.set_cons_zero, List.set_cons_succ]
  refine wpAnyH_take (i := 1) (v := ?_) rfl (by kernel_rfl) (by kernel_rfl) (by kernel_rfl) (fun _ _ _ h => h) (Or.inl ⟨by rfl, ?_⟩) hHeld ?_
  rotate_left
  · intro w0 hSw; (try dsimp only at hSw); go_simp; try with_reducible rfl
  try simp only [Act.put, List.setIfInBounds_toArray, List.set_cons_zero, List.set_cons_succ]
  refine wpAnyH_take (i := 2) (v := ?_) rfl (by kernel_rfl) (by kernel_rfl) (by kernel_rfl) (fun _ _ _ h => h) (Or.inl ⟨by rfl, ?_⟩) hHeld ?_
  rotate_left
  · intro w0 hSw; (try dsimp only at hSw); go_simp; try with_reducible rfl
  try simp only [Act.put, List.setIfInBounds_toArray, List.set_cons_zero, List.set_cons_succ]
  refine wpAnyH_take (i := 4) (v := ?_) rfl (by kernel_rfl) (by kernel_rfl) (by kernel_rfl) (fun _ _ _ h => h) (Or.inl ⟨by rfl, ?_⟩) hHeld ?_
  rotate_left
  · intro w0 hSw; (try dsimp only at hSw); go_simp; try with_reducible rfl
  try simp only [Act.put, List.setIfInBounds_toArray, List.set_cons_zero, List.set_cons_succ]
  refine wpAnyH_ready (rs := [3]) (by kernel_rfl) (by simp) ?_
  refine AllReadyH.cons rfl (fun K hK => ?_) AllReadyH.nil
  refine step_call (P := Try.prog) (by rfl) 70 #[.agg #[.int .i64 X, .int .i64 Y, .bool r, .slice a len cap], .int .i64 xx, .int .i64 yy] (by have e := (enters_of Try.func70 (by kernel_rfl) rfl : Enters Try.prog 70) #[.agg #[.int .i64 X, .int .i64 Y, .bool r, .slice a len cap], .int .i64 xx, .int .i64 yy] w.drew; simp [execOp, resolve, invoke, Act.eval, Act.put, Deferred.ofValue] at e ⊢; try exact e) (fun e w' => e = .returned (.float .f32 el) ∧ Below w.drew.heap.size w.drew w') (by rw [← EL.out]; exact impl_at X Y r a len cap xs xx yy _ (HS.out.drewN 1) hX (by omega) (by omega) hlt hsm) ?_
  rintro e w1 ⟨rfl, k⟩
  refine ⟨_, rfl, ?_⟩
  obtain ⟨⟨_, d0, d1, d2, d3⟩, _, _⟩ := (H0.out.drewN 1).keep k
  have db : w1.cell? ⟨bb, 0, none⟩ = some (.float .f32 by_) := (k.cell (p := ⟨bb, 0, none⟩) (World.block_lt_of_cell? w ⟨bb, 0, none⟩ hb)).trans hb
  refine hK.out _ _ ⟨d0, d1, d2, d3, db⟩ (fun hHeld => ?_)
  clear hK K
  try simp only [Act.put, List.setIfInBounds_toArray, List.set_cons_zero, List.set_cons_succ]
  have hM := run_afv Try.prog .mul rfl 41 .f32 el by_ w1
  have PV : Hid (Same .f32 (afv .mul .f32 el by_ w1) (fmul .f32 el by_)) := Lib.hid ⟨cn_afv .mul rfl .f32 _ _ _⟩
  generalize afv .mul .f32 el by_ w1 = pv at hM PV
  generalize afn .mul .f32 el by_ = pn at hM
  refine wpAnyH_ready (rs := [5]) (by kernel_rfl) (by simp) ?_
  refine AllReadyH.cons rfl (fun K hK => ?_) AllReadyH.nil
  go_simp
  refine hK.out _ _ (by go_keep) (fun hHeld => ?_)
  clear hK K
  try simp only [Act.put, List.setIfInBounds_toArray, List.set_cons_zero, List.set_cons_succ]
  refine wpAnyH_ready (rs := [6]) (by kernel_rfl) (by simp) ?_
  refine AllReadyH.cons rfl (fun K hK => ?_) AllReadyH.nil
  go_simp
  refine hK.out _ _ (by first | exact hHeld | go_keep) (fun hHeld => ?_)
  clear hK K
  try simp only [Act.put, List.setIfInBounds_toArray, List.set_cons_zero, List.set_cons_succ]
  refine wpAnyH_done (by kernel_rfl) ?_ _
  go_wp2
  go_ret
  exact ⟨_, rfl, PV.out, keep_drewN (keep_trans (keep_drewN (Below.refl _ _) 1) k) pn⟩

set_option maxHeartbeats 1000000 in
theorem impl_ScaleField_yes (X Y : Nat) (r : Bool) (a : Option Addr) (len cap : Nat) (xs : List Nat) (by_ : Nat) (w : World) (hs : Holds w a len (fvals .f32 xs)) (hv : validB X Y len = true) :
    Calls Try.prog 43 #[.agg #[.int .i64 X, .int .i64 Y, .bool r, .slice a len cap], .float .f32 by_] w (FieldOut X Y r true len (fun k => fmul .f32 (xs.getD k 0) by_) w) := by
  have hmf : ∀ (fn : Fn) (first cap : Array Value) (w : World), (Instr.makeFunc fn first cap).run Try.prog w = .ok (.func fn first cap) w := fun _ _ _ _ => rfl
  obtain ⟨X', Y', e1, e2, hX1, hX2, hY1, hY2, hlen⟩ := valid_parts hv
  obtain rfl : X = X' := by omega
  obtain rfl : Y = Y' := by omega
  have hle : X * Y ≤ 16 * 16 := Nat.mul_le_mul hX2 hY2
  have hl2 : len ≤ 256 := by omega
  have HV := Lib.hid hv
  have HL := Lib.hid hlen
  clear hv e1 e2 hlen hle
  have R0 := ((FieldRd.mk' w X Y r a len cap xs 37 hs (by omega)).keep (keep_own _ (.cells #[.float .f32 by_] 41))).keep (keep_own _ (.cells #[.int .i64 0, .int .i64 0, .bool false, .slice none 0 0] 37))
  have K0 := keep_trans (keep_trans (keep_own w (.cells #[.int .i64 X, .int .i64 Y, .bool r, .slice a len cap] 37)) (keep_own _ (.cells #[.float .f32 by_] 41))) (keep_own _ (.cells #[.int .i64 0, .int .i64 0, .bool false, .slice none 0 0] 37))
  have B0 := (Own.alloc (w.alloc (.cells #[.int .i64 X, .int .i64 Y, .bool r, .slice a len cap] 37)) 41 #[.float .f32 by_]).alloc_later (.cells #[.int .i64 0, .int .i64 0, .bool false, .slice none 0 0] 37)
  have eB0 : (w.alloc (.cells #[.int .i64 X, .int .i64 Y, .bool r, .slice a len cap] 37)).heap.size = w.heap.size + 1 := by simp
  rw [eB0] at B0
  have Z0 : Own (((w.alloc (.cells #[.int .i64 X, .int .i64 Y, .bool r, .slice a len cap] 37)).alloc (.cells #[.float .f32 by_] 41)).alloc (.cells #[.int .i64 0, .int .i64 0, .bool false, .slice none 0 0] 37)) (w.heap.size + 1 + 1) 37 #[.int .i64 0, .int .i64 0, .bool false, .slice none 0 0] := by
    simpa using Own.alloc ((w.alloc (.cells #[.int .i64 X, .int .i64 Y, .bool r, .slice a len cap] 37)).alloc (.cells #[.float .f32 by_] 41)) 37 #[.int .i64 0, .int .i64 0, .bool false, .slice none 0 0]
  clear hs eB0
  go_enter Try.func43, Try.ntmps43
  go_wp2_with fail
  refine (impl_ValidField X Y r a len cap _ (by omega)).mono ?_
  rintro e w1 ⟨rfl, k1⟩
  rw [HV.out]
  have R1 := R0.keep k1
  have K1 := keep_trans K0 k1
  have B1 := B0.below k1 B0.lt
  have Z1 := Z0.below k1 Z0.lt
  clear R0 K0 Z0 B0 k1
  have R1' := R1
  obtain ⟨⟨_, c0, c1, c2, c3⟩, _, _⟩ := R1'
  have hz := Z1.lt
  have hbz := B1.lt
  have HR := Lib.hid R1
  have HZ := Lib.hid Z1
  have HB := Lib.hid B1
  have HK := Lib.hid K1
  clear R1 K1 Z1 B1 HV
  go_wp2_with fail
  refine (impl_each X Y r (.slice a len cap) 73 #[.pointer (some ⟨w.heap.size, 0, none⟩), .pointer (some ⟨w.heap.size + 1, 0, none⟩)] (fun k => fmul .f32 (xs.getD k 0) by_) _ (enters_of Try.func73 (by kernel_rfl) rfl) hX2 hY2 ?_).mono ?_
  · intro xx yy w2 hxx hyy g
    exact scale_fn X Y r a len cap xs by_ xx yy w.heap.size (w.heap.size + 1) w2 (HR.out.keep g) ((HB.out.below g hbz).cell 0) hX2 hY2 HL.out hxx hyy
  rw [← HL.out]
  rintro e w2 ⟨v, vs, rfl, g, h, hn, hv⟩
  have k := below_of_grown g
  obtain ⟨d0, d1, d2, d3, f0, f1, f2, f3⟩ := (HZ.out.below k hz).zero4
  obtain ⟨a1, cp, rfl, _⟩ := h.value
  have HH := Lib.hid h
  have HK2 := Lib.hid (keep_trans HK.out k)
  clear g h k HK c0 c1 c2 c3
  go_wp2
  refine bodyPost_ret (v := .tuple #[.agg #[.int .i64 X, .int .i64 Y, .bool r, .slice a1 vs.length cp], .bool true]) (by simp [results, Try.results43, go_sem, *]) rfl
    (FieldOut.yes (below_res4 HK2.out (by omega) _ _ _ _) ((FOwn.res4 (W := w) HH.out (by omega) _ _ _ _).base (by omega)) hn hv)

end Go.Proofs.Ytbcocjakpnhmaaa
