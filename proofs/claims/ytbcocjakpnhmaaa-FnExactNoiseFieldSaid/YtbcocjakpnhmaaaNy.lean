/- Fields of noise: the program's NoiseField. Under no condition. -/
import Derived.Test.YtbcocjakpnhmaaaNz
import Derived.Test.YtbcocjakpnhmaaaLm
namespace Go.Proofs.Ytbcocjakpnhmaaa
open Go Go.RowKit
set_option linter.unusedVariables false
set_option linter.unusedSimpArgs false

theorem grown_drewN {w w' : World} {row : Option Nat} (h : w.grownBy w' row) (n : Nat) : w.grownBy (w'.drewN n) row := ⟨h.os, h.tape, h.output, h.size, h.block⟩

theorem far4 {B b : Nat} (h : B ≠ b) (w : World) (i : Nat) (t0 t1 t2 t3 : Value) :
    ((((w.setCell ⟨B, 0, none⟩ t0).setCell ⟨B, 1, none⟩ t1).setCell ⟨B, 2, none⟩ t2).setCell ⟨B, 3, none⟩ t3).cell? ⟨b, i, none⟩ = w.cell? ⟨b, i, none⟩ := by
  rw [World.cell?_setCell_far _ _ _ _ (by exact h), World.cell?_setCell_far _ _ _ _ (by exact h), World.cell?_setCell_far _ _ _ _ (by exact h), World.cell?_setCell_far _ _ _ _ (by exact h)]

set_option maxHeartbeats 1000000 in
theorem noise_fn (x y : Int) (s size sb zb : Nat) (w : World) (hs : s ≤ 2147483647) (S : Own w sb 2 #[.int .i64 s]) (B : Own w zb 41 #[.float .f32 size]) (hne : sb ≠ zb) :
    Calls Try.prog 81 #[.int .i64 x, .int .i64 y, .pointer (some ⟨sb, 0, none⟩), .pointer (some ⟨zb, 0, none⟩)] w fun e w' => ∃ b, e = .returned (.float .f32 b) ∧ Same .f32 b (fmul .f32 size (noiseQ (seedNext s))) ∧ w.grownBy w' (some sb) ∧ Own w' sb 2 #[.int .i64 (seedNext s : Nat)] := by
  obtain ⟨nx, hnx, hnxle⟩ : ∃ nx, nx = seedNext s ∧ nx ≤ 2147483647 := ⟨_, rfl, seedNext_le s⟩
  have HNX := Lib.hid hnx
  rw [← hnx]
  obtain ⟨d, g1, g2, g3, g4, g5⟩ := draw_facts hnxle
  have G1 := Lib.hid g1
  have hSc : w.cell? ⟨sb, 0, none⟩ = some (.int .i64 s) := by rw [S.cell]; rfl
  have hSf := S.frozen 0
  have hBc : (w.setCell ⟨sb, 0, none⟩ (.int .i64 nx)).cell? ⟨zb, 0, none⟩ = some (.float .f32 size) := by rw [(B.other (a := ⟨sb, 0, none⟩) hne (.int .i64 nx)).cell]; rfl
  have hD := fun w => run_afv Try.prog .quo rfl 41 .f32 (floatOfInt .f32 ((d : Int) - 16384)) 1182793728 w
  have hM := fun a w => run_afv Try.prog .mul rfl 41 .f32 size a w
  have hw1 : IntKind.i64.wrap ((d : Int) - 16384) = (d : Int) - 16384 := g5
  have SS := Lib.hid (S.set 0 (.int .i64 nx))
  have HH := Lib.hid hs
  have hlt := S.lt
  clear hnx g1 g2 hs hnxle S B hne
  go_enter Try.func81, Try.ntmps81
  go_wp2_with fail
  refine (impl_draw s HH.out _).mono ?_
  rintro e w1 ⟨rfl, rfl⟩
  rw [← HNX.out, ← G1.out]
  go_wp2
  go_ret
  refine ⟨_, rfl, ?_, grown_drewN (grown_setCell (grown_refl _ _) _ _ (.inr rfl)) _, by simpa using SS.out.drewN _⟩
  refine (⟨cn_afv .mul rfl .f32 _ _ _⟩ : Same .f32 _ (fmul .f32 size _)).trans ?_
  rw [Same.mul (Same.refl _ size) (⟨by unfold noiseQ; rw [← G1.out]; exact cn_afv .quo rfl .f32 _ _ _⟩ : Same .f32 _ (noiseQ nx))]
  exact Same.refl _ _

set_option maxHeartbeats 2000000 in
theorem impl_NoiseField_yes (X Y s : Nat) (r : Bool) (size : Nat) (w : World) (hv : noiseB X Y s = true) :
    Calls Try.prog 47 #[.int .i64 X, .int .i64 Y, .bool r, .int .i64 s, .float .f32 size] w (FieldOut3 X Y r true (X * Y) (noiseV s size) (seedAt s (X * Y) : Nat) w) := by
  have hmf : ∀ (fn : Fn) (first cap : Array Value) (w : World), (Instr.makeFunc fn first cap).run Try.prog w = .ok (.func fn first cap) w := fun _ _ _ _ => rfl
  obtain ⟨hs, hsd⟩ : sizeB X Y = true ∧ inB s 0 2147483647 = true := by simpa [noiseB] using hv
  obtain ⟨⟨hx1, hx2⟩, hy1, hy2⟩ := size_bounds hs
  have hs31 : Hid (s ≤ 2147483647) := Lib.hid (by
    have : (0 : Int) ≤ s ∧ (s : Int) ≤ 2147483647 := by simpa [inB] using hsd
    omega)
  have hall : Hid (allIn (fun i => [(X : Int), (Y : Int)].getD i 0) 1 16 2 = true) := Lib.hid (by rw [← hs]; simp [allIn, sizeB])
  have HD := Lib.hid hsd
  clear hs hsd hv
  have hw1 : (w.alloc (.cells #[.int .i64 s] 2)).heap.size = w.heap.size + 1 := by simp
  have hw2 : ((w.alloc (.cells #[.int .i64 s] 2)).alloc (.cells #[.float .f32 size] 41)).heap.size = w.heap.size + 1 + 1 := by simp
  have K0 := keep_trans (keep_trans (keep_trans (keep_own w (.cells #[.int .i64 s] 2)) (keep_own _ (.cells #[.float .f32 size] 41))) (keep_own _ (.cells #[.int .i64 0, .int .i64 0, .bool false, .slice none 0 0] 37))) (keep_own _ (.cells #[.int .i64 X, .int .i64 Y] 2))
  have S0 : Own ((((w.alloc (.cells #[.int .i64 s] 2)).alloc (.cells #[.float .f32 size] 41)).alloc (.cells #[.int .i64 0, .int .i64 0, .bool false, .slice none 0 0] 37)).alloc (.cells #[.int .i64 X, .int .i64 Y] 2)) w.heap.size 2 #[.int .i64 s] := (((Own.alloc w 2 #[.int .i64 s]).alloc_later _).alloc_later _).alloc_later _
  have B0 : Own ((((w.alloc (.cells #[.int .i64 s] 2)).alloc (.cells #[.float .f32 size] 41)).alloc (.cells #[.int .i64 0, .int .i64 0, .bool false, .slice none 0 0] 37)).alloc (.cells #[.int .i64 X, .int .i64 Y] 2)) (w.heap.size + 1) 41 #[.float .f32 size] := by
    have := ((Own.alloc (w.alloc (.cells #[.int .i64 s] 2)) 41 #[.float .f32 size]).alloc_later (.cells #[.int .i64 0, .int .i64 0, .bool false, .slice none 0 0] 37)).alloc_later (.cells #[.int .i64 X, .int .i64 Y] 2)
    rwa [hw1] at this
  have Z0 : Own ((((w.alloc (.cells #[.int .i64 s] 2)).alloc (.cells #[.float .f32 size] 41)).alloc (.cells #[.int .i64 0, .int .i64 0, .bool false, .slice none 0 0] 37)).alloc (.cells #[.int .i64 X, .int .i64 Y] 2)) (w.heap.size + 1 + 1) 37 #[.int .i64 0, .int .i64 0, .bool false, .slice none 0 0] := by
    have := (Own.alloc ((w.alloc (.cells #[.int .i64 s] 2)).alloc (.cells #[.float .f32 size] 41)) 37 #[.int .i64 0, .int .i64 0, .bool false, .slice none 0 0]).alloc_later (.cells #[.int .i64 X, .int .i64 Y] 2)
    rwa [hw2] at this
  clear hw1 hw2
  go_enter Try.func47, Try.ntmps47
  go_wp2_with fail
  refine (impl_areWithin 1 16 _ 2 2 (fun i => [(X : Int), (Y : Int)].getD i 0) _ ⟨.inr ⟨_, 0, rfl, by simp, ?_⟩⟩ (by omega)).mono ?_
  · intro i hi
    have : i = 0 ∨ i = 1 := by omega
    rcases this with rfl | rfl <;> go_simp
  rintro e w1 ⟨rfl, hb⟩
  rw [hall.out]
  have K1 := keep_trans K0 hb
  have S1 := S0.below hb S0.lt
  have B1 := B0.below hb B0.lt
  have Z1 := Z0.below hb Z0.lt
  have c0 : w1.cell? ⟨w.heap.size, 0, none⟩ = some (.int .i64 s) := by rw [S1.cell]; rfl
  have hsz := Z1.lt
  have HS := Lib.hid S1
  have HB := Lib.hid B1
  have HZ := Lib.hid Z1
  have HK := Lib.hid K1
  clear hb K0 S0 B0 Z0 K1 S1 B1 Z1 hall
  go_wp2_with fail
  refine (impl_isSeed _ _).mono ?_
  rintro e w' ⟨rfl, rfl⟩
  rw [HD.out]
  go_wp2_with fail
  refine (impl_made X Y r 81 #[.pointer (some ⟨w.heap.size, 0, none⟩), .pointer (some ⟨w.heap.size + 1, 0, none⟩)] (noiseV s size) (some w.heap.size) (fun k w' => Own w' w.heap.size 2 #[.int .i64 (seedAt s k : Nat)]) _ (enters_of Try.func81 (by kernel_rfl) rfl) (by omega) (by omega) (fun k e => by simp at e; omega) HS.out (fun k wa wb row' h g hr => h.grown g (fun e => by have := hr _ e; omega)) ?_).mono ?_
  · intro xx yy w2 hxx hyy g hst
    refine (noise_fn xx yy (seedAt s (xx + X * yy)) size w.heap.size (w.heap.size + 1) w2 (seedAt_le hs31.out _) hst (HB.out.grown g (fun e => by simp at e)) (by omega)).mono ?_
    rintro e w3 ⟨b, rfl, hb, hg, ho⟩
    exact ⟨b, rfl, hb, hg, ho⟩
  rintro e w2 ⟨⟨v, vs, rfl, g, h, hn, hv⟩, hst⟩
  have K2 := below_grown HK.out g (fun k e => by simp at e; omega)
  have Z2 := HZ.out.grown g (fun e => by simp at e; omega)
  have hsz2 := Nat.lt_of_lt_of_le hsz g.size
  obtain ⟨a, cap, rfl, _⟩ := h.value
  rw [hn] at h
  have c1 := hst.cell 0
  have ob := Own.alloc w2 37 #[.int .i64 X, .int .i64 Y, .bool r, .slice a (X * Y) cap]
  have HH := Lib.hid (h.keep (keep_own w2 (.cells #[.int .i64 X, .int .i64 Y, .bool r, .slice a (X * Y) cap] 37)))
  have HK2 := Lib.hid (keep_trans K2 (keep_own w2 (.cells #[.int .i64 X, .int .i64 Y, .bool r, .slice a (X * Y) cap] 37)))
  have Z3 := Z2.alloc_later (.cells #[.int .i64 X, .int .i64 Y, .bool r, .slice a (X * Y) cap] 37)
  obtain ⟨d0, d1, d2, d3, f0, f1, f2, f3⟩ := Z3.zero4
  have c2 : (w2.alloc (.cells #[.int .i64 X, .int .i64 Y, .bool r, .slice a (X * Y) cap] 37)).cell? ⟨w.heap.size, 0, none⟩ = some (.int .i64 (seedAt s (X * Y) : Nat)) := by rw [(hst.alloc_later _).cell]; rfl
  generalize (seedAt s (X * Y) : Nat) = fin at *
  clear g h K2 Z2 HK c0 c1 hst Z3 HS HB HZ
  have o0 : (w2.alloc (.cells #[.int .i64 X, .int .i64 Y, .bool r, .slice a (X * Y) cap] 37)).cell? ⟨w2.heap.size, 0, none⟩ = some (.int .i64 X) := by rw [ob.cell]; rfl
  have o1 : (w2.alloc (.cells #[.int .i64 X, .int .i64 Y, .bool r, .slice a (X * Y) cap] 37)).cell? ⟨w2.heap.size, 1, none⟩ = some (.int .i64 Y) := by rw [ob.cell]; rfl
  have o2 : (w2.alloc (.cells #[.int .i64 X, .int .i64 Y, .bool r, .slice a (X * Y) cap] 37)).cell? ⟨w2.heap.size, 2, none⟩ = some (.bool r) := by rw [ob.cell]; rfl
  have o3 : (w2.alloc (.cells #[.int .i64 X, .int .i64 Y, .bool r, .slice a (X * Y) cap] 37)).cell? ⟨w2.heap.size, 3, none⟩ = some (.slice a (X * Y) cap) := by rw [ob.cell]; rfl
  clear ob
  go_wp2
  generalize w2.alloc (.cells #[.int .i64 X, .int .i64 Y, .bool r, .slice a (X * Y) cap] 37) = wf at *
  generalize w2.heap.size = bf at *
  have hne1 : w.heap.size + 1 + 1 ≠ bf := by omega
  have hne2 : w.heap.size + 1 + 1 ≠ w.heap.size := by omega
  refine wp_region_held_drew (S := fun w' => w'.cell? ⟨bf, 0, none⟩ = some (.int .i64 X) ∧ w'.cell? ⟨bf, 1, none⟩ = some (.int .i64 Y) ∧ w'.cell? ⟨bf, 2, none⟩ = some (.bool r) ∧ w'.cell? ⟨bf, 3, none⟩ = some (.slice a (X * Y) cap) ∧ w'.cell? ⟨w.heap.size, 0, none⟩ = some (.int .i64 fin)) (by kernel_rfl) ⟨o0, o1, o2, o3, c2⟩ (fun hHeld => ?_)
  refine wpAnyH_take (i := 0) (v := ?_) rfl (by kernel_rfl) (by kernel_rfl) (by kernel_rfl) (fun _ _ _ h => h) (Or.inl ⟨by rfl, ?_⟩) hHeld ?_
  rotate_left
  · intro w0 hSw; (try dsimp only at hSw); go_simp; try with_reducible rfl
  try simp only [Act.put, List.setIfInBounds_toArray, List.set_cons_zero, List.set_cons_succ]
  refine wpAnyH_take (i := 1) (v := ?_) rfl (by kernel_rfl) (by kernel_rfl) (by kernel_rfl) (fun _ _ _ h => h) (Or.inl ⟨by rfl, ?_⟩) hHeld ?_
  rotate_left
  · intro w0 hSw; (try dsimp only at hSw); go_simp; try with_reducible rfl
  try simp only [Act.put, List.setIfInBounds_toArray, List.set_cons_zero, List.set_cons_succ]
  refine wpAnyH_ready (rs := [2]) (by kernel_rfl) (by simp) ?_
  refine AllReadyH.cons rfl (fun K hK => ?_) AllReadyH.nil
  go_simp
  refine hK.out _ _ ⟨(far4 hne1 _ _ _ _ _ _).trans hHeld.1, (far4 hne1 _ _ _ _ _ _).trans hHeld.2.1, (far4 hne1 _ _ _ _ _ _).trans hHeld.2.2.1, (far4 hne1 _ _ _ _ _ _).trans hHeld.2.2.2.1, (far4 hne2 _ _ _ _ _ _).trans hHeld.2.2.2.2⟩ (fun hHeld => ?_)
  clear hK K
  try simp only [Act.put, List.setIfInBounds_toArray, List.set_cons_zero, List.set_cons_succ]
  refine wpAnyH_ready (rs := [3]) (by kernel_rfl) (by simp) ?_
  refine AllReadyH.cons rfl (fun K hK => ?_) AllReadyH.nil
  go_simp
  refine hK.out _ _ hHeld (fun hHeld => ?_)
  clear hK K
  try simp only [Act.put, List.setIfInBounds_toArray, List.set_cons_zero, List.set_cons_succ]
  refine wpAnyH_ready (rs := [4]) (by kernel_rfl) (by simp) ?_
  refine AllReadyH.cons rfl (fun K hK => ?_) AllReadyH.nil
  go_simp
  refine hK.out _ _ hHeld (fun hHeld => ?_)
  clear hK K
  try simp only [Act.put, List.setIfInBounds_toArray, List.set_cons_zero, List.set_cons_succ]
  refine wpAnyH_done (by kernel_rfl) ?_ _
  go_wp2
  refine bodyPost_ret (v := .tuple #[.agg #[.int .i64 X, .int .i64 Y, .bool r, .slice a (X * Y) cap], .int .i64 fin, .bool true]) (by simp [results, Try.results47, go_sem, *]) rfl
    (FieldOut3.yes (below_res4 (keep_drewN HK2.out 1) (by omega) _ _ _ _) ((FOwn.res4 (W := w) (HH.out.drewN 1) (by omega) _ _ _ _).base (by omega)) hn hv)

set_option maxHeartbeats 1000000 in
theorem impl_NoiseField_no (x y s : Int) (r : Bool) (size : Nat) (V : Nat → Nat) (w : World) (hv : noiseB x y s = false) :
    Calls Try.prog 47 #[.int .i64 x, .int .i64 y, .bool r, .int .i64 s, .float .f32 size] w (FieldOut3 0 0 false false 0 V 0 w) := by
  have hall : Hid (allIn (fun i => [x, y].getD i 0) 1 16 2 = sizeB x y) := Lib.hid (by simp [allIn, sizeB])
  have hw1 : (w.alloc (.cells #[.int .i64 s] 2)).heap.size = w.heap.size + 1 := by simp
  have hw2 : ((w.alloc (.cells #[.int .i64 s] 2)).alloc (.cells #[.float .f32 size] 41)).heap.size = w.heap.size + 1 + 1 := by simp
  have K0 := keep_trans (keep_trans (keep_trans (keep_own w (.cells #[.int .i64 s] 2)) (keep_own _ (.cells #[.float .f32 size] 41))) (keep_own _ (.cells #[.int .i64 0, .int .i64 0, .bool false, .slice none 0 0] 37))) (keep_own _ (.cells #[.int .i64 x, .int .i64 y] 2))
  have S0 : Own ((((w.alloc (.cells #[.int .i64 s] 2)).alloc (.cells #[.float .f32 size] 41)).alloc (.cells #[.int .i64 0, .int .i64 0, .bool false, .slice none 0 0] 37)).alloc (.cells #[.int .i64 x, .int .i64 y] 2)) w.heap.size 2 #[.int .i64 s] := (((Own.alloc w 2 #[.int .i64 s]).alloc_later _).alloc_later _).alloc_later _
  have B0 : Own ((((w.alloc (.cells #[.int .i64 s] 2)).alloc (.cells #[.float .f32 size] 41)).alloc (.cells #[.int .i64 0, .int .i64 0, .bool false, .slice none 0 0] 37)).alloc (.cells #[.int .i64 x, .int .i64 y] 2)) (w.heap.size + 1) 41 #[.float .f32 size] := by
    have := ((Own.alloc (w.alloc (.cells #[.int .i64 s] 2)) 41 #[.float .f32 size]).alloc_later (.cells #[.int .i64 0, .int .i64 0, .bool false, .slice none 0 0] 37)).alloc_later (.cells #[.int .i64 x, .int .i64 y] 2)
    rwa [hw1] at this
  have Z0 : Own ((((w.alloc (.cells #[.int .i64 s] 2)).alloc (.cells #[.float .f32 size] 41)).alloc (.cells #[.int .i64 0, .int .i64 0, .bool false, .slice none 0 0] 37)).alloc (.cells #[.int .i64 x, .int .i64 y] 2)) (w.heap.size + 1 + 1) 37 #[.int .i64 0, .int .i64 0, .bool false, .slice none 0 0] := by
    have := (Own.alloc ((w.alloc (.cells #[.int .i64 s] 2)).alloc (.cells #[.float .f32 size] 41)) 37 #[.int .i64 0, .int .i64 0, .bool false, .slice none 0 0]).alloc_later (.cells #[.int .i64 x, .int .i64 y] 2)
    rwa [hw2] at this
  clear hw1 hw2
  go_enter Try.func47, Try.ntmps47
  go_wp2_with fail
  refine (impl_areWithin 1 16 _ 2 2 (fun i => [x, y].getD i 0) _ ⟨.inr ⟨_, 0, rfl, by simp, ?_⟩⟩ (by omega)).mono ?_
  · intro i hi
    have : i = 0 ∨ i = 1 := by omega
    rcases this with rfl | rfl <;> go_simp
  rintro e w1 ⟨rfl, hb⟩
  rw [hall.out]
  have K1 := keep_trans K0 hb
  have S1 := S0.below hb S0.lt
  have Z1 := Z0.below hb Z0.lt
  have c0 : w1.cell? ⟨w.heap.size, 0, none⟩ = some (.int .i64 s) := by rw [S1.cell]; rfl
  obtain ⟨d0, d1, d2, d3, f0, f1, f2, f3⟩ := Z1.zero4
  have HK := Lib.hid K1
  clear hb K0 S0 B0 Z0 K1 S1 Z1 hall
  cases hs : sizeB x y with
  | true =>
    have hi : Hid (inB s 0 2147483647 = false) := Lib.hid (by simpa [noiseB, hs] using hv)
    clear hs hv
    go_wp2_with fail
    refine (impl_isSeed _ _).mono ?_
    rintro e w' ⟨rfl, rfl⟩
    rw [hi.out]
    go_wp2
    refine bodyPost_ret (v := .tuple #[.agg #[.int .i64 0, .int .i64 0, .bool false, .slice none 0 0], .int .i64 0, .bool false]) (by simp [results, Try.results47, go_sem, *]) rfl (FieldOut3.no _ _ _ (below_res4 HK.out (by omega) _ _ _ _))
  | false =>
    clear hs hv
    go_wp2
    refine bodyPost_ret (v := .tuple #[.agg #[.int .i64 0, .int .i64 0, .bool false, .slice none 0 0], .int .i64 0, .bool false]) (by simp [results, Try.results47, go_sem, *]) rfl (FieldOut3.no _ _ _ (below_res4 HK.out (by omega) _ _ _ _))

end Go.Proofs.Ytbcocjakpnhmaaa
