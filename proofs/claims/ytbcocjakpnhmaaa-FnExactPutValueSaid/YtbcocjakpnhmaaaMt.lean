/- Fields made of a field: turned over. Under no condition. -/
import Derived.Test.YtbcocjakpnhmaaaMs
import Derived.Test.YtbcocjakpnhmaaaFr
import Derived.Deep.RegionHeld3
import Derived.StillTailTactics
namespace Go.Proofs.Ytbcocjakpnhmaaa
open Go Go.RowKit
set_option linter.unusedVariables false
set_option linter.unusedSimpArgs false

theorem valid_parts {x y : Int} {len : Nat} (h : validB x y len = true) : ∃ X Y : Nat, x = X ∧ y = Y ∧ 1 ≤ X ∧ X ≤ 16 ∧ 1 ≤ Y ∧ Y ≤ 16 ∧ len = X * Y := by
  simp only [validB, Bool.and_eq_true, decide_eq_true_eq] at h
  obtain ⟨hs, hl⟩ := h
  obtain ⟨⟨h1, h2⟩, h3, h4⟩ := size_bounds hs
  refine ⟨x.toNat, y.toNat, by omega, by omega, by omega, by omega, by omega, by omega, ?_⟩
  have e1 : x = (x.toNat : Int) := by omega
  have e2 : y = (y.toNat : Int) := by omega
  rw [e1, e2, ← Int.natCast_mul] at hl
  exact Int.ofNat.inj hl

def swapIx (X Y k : Nat) : Nat := k / Y + X * (k % Y)
theorem swapIx_lt {X Y k : Nat} (hY : 0 < Y) (hk : k < X * Y) : swapIx X Y k < X * Y := by
  have h1 : k / Y < X := Nat.div_lt_of_lt_mul (by rw [Nat.mul_comm]; exact hk)
  have h2 : k % Y < Y := Nat.mod_lt _ hY
  have h3 : X * (k % Y + 1) ≤ X * Y := Nat.mul_le_mul_left _ h2
  rw [Nat.mul_succ] at h3
  unfold swapIx; omega
theorem swap_cast (X Y k : Nat) : ((swapIx X Y k : Nat) : Int) = (k : Int).tdiv (Y : Int) + (X : Int) * (k : Int).tmod (Y : Int) := by
  unfold swapIx
  rw [Int.natCast_add, Int.natCast_mul, Int.natCast_ediv, Int.natCast_emod, Int.tdiv_eq_ediv_of_nonneg (by omega), Int.tmod_eq_emod_of_nonneg (by omega)]

theorem wrap_small {n : Int} (h1 : 0 ≤ n) (h2 : n ≤ 1048576) : IntKind.i64.wrap n = n := by
  simp [IntKind.wrap, IntKind.bits, IntKind.signed]; omega

theorem swap_parts (X Y k : Nat) (hY : 0 < Y) : ∃ q m p : Nat, (k : Int).tdiv (Y : Int) = (q : Int) ∧ (k : Int).tmod (Y : Int) = (m : Int) ∧ (X : Int) * (m : Int) = (p : Int) ∧ swapIx X Y k = q + p ∧ q ≤ k ∧ m ≤ k :=
  ⟨k / Y, k % Y, X * (k % Y), by rw [Int.tdiv_eq_ediv_of_nonneg (by omega), Int.natCast_ediv], by rw [Int.tmod_eq_emod_of_nonneg (by omega), Int.natCast_emod], by rw [Int.natCast_mul], rfl, Nat.div_le_self _ _, Nat.mod_le _ _⟩

set_option maxHeartbeats 2000000 in
theorem spec_SwapField_yes (X Y : Nat) (r : Bool) (a : Option Addr) (len cap : Nat) (xs : List Nat) (w : World) (hs : Holds w a len (fvals .f32 xs)) (hv : validB X Y len = true) :
    Calls Try.prog 38 #[.agg #[.int .i64 X, .int .i64 Y, .bool r, .slice a len cap]] w (FieldOut Y X r true len (fun k => xs.getD (swapIx X Y k) 0) w) := by
  obtain ⟨X', Y', e1, e2, hX1, hX2, hY1, hY2, hlen⟩ := valid_parts hv
  obtain rfl : X = X' := by omega
  obtain rfl : Y = Y' := by omega
  have hle : X * Y ≤ 16 * 16 := Nat.mul_le_mul hX2 hY2
  have hge : 1 * 1 ≤ X * Y := Nat.mul_le_mul hX1 hY1
  have hmul : (X : Int) * (Y : Int) = (len : Int) := by rw [hlen]; simp
  have hl1 : 1 ≤ len := by omega
  have hl2 : len ≤ 256 := by omega
  have HV := Lib.hid hv
  have HL := Lib.hid hlen
  clear hv e1 e2 hlen hle hge
  have K := keep_box w (.cells #[.int .i64 X, .int .i64 Y, .bool r, .slice a len cap] 37)
  have R := FieldRd.mk' w X Y r a len cap xs 37 hs (by omega)
  rcases hs.split with h0 | ⟨b, o, rfl, hb, hc⟩
  · omega
  clear hc hs
  have R2 := R.keep (keep_own _ (.cells #[.int .i64 0, .int .i64 0, .bool false, .slice none 0 0] 37))
  go_enter Try.func38, Try.ntmps38
  go_wp2_with fail
  refine (spec_l02Is _ X Y r _ len cap _ R2.box (by omega)).mono ?_
  rintro e w1 ⟨n1, rfl, rfl⟩
  rw [HV.out]
  have R3 := R2.drewN n1
  obtain ⟨⟨_, c0, c1, c2, c3⟩, hs3, _⟩ := R3
  go_wp2_with fail
  refine (spec_l02New Y X r _).mono ?_
  rintro e w2 ⟨v0, rfl, k2, h2⟩
  have hB := Lib.hid (Going.begin (W := w.alloc (.cells #[.int .i64 X, .int .i64 Y, .bool r, .slice (some ⟨b, o, none⟩) len cap] 37)) Y X r (fun k => xs.getD (swapIx X Y k) 0) rfl (keep_trans (keep_drewN (Below.refl _ _) n1) k2) h2)
  obtain ⟨a0, cap0, rfl, _⟩ := h2.value
  have hsz : w.heap.size + 1 < w2.heap.size := Nat.lt_of_lt_of_le (by simp) k2.size
  clear k2 h2 c0 c1 c2 c3 hs3 R2
  generalize hW : w.alloc (.cells #[.int .i64 X, .int .i64 Y, .bool r, .slice (some ⟨b, o, none⟩) len cap] 37) = W at *
  have hWs : W.heap.size = w.heap.size + 1 := by rw [← hW]; simp
  clear hW
  rw [hWs] at hB
  go_wp2
  go_loopw [5] (fun i wr => ∃ k : Nat, k ≤ len ∧ i = .int .i64 k ∧ Going W none (w.heap.size + 1) w2.heap.size Y X r (fun k => xs.getD (swapIx X Y k) 0) k wr) (fun i _ => len - (intOf i).toNat)
  case atStart => exact ⟨0, Nat.zero_le _, rfl, hB.out⟩
  case round =>
    obtain ⟨k, hk, rfl, hgo⟩ := hrel
    obtain ⟨v, vs, hC, hn, hv⟩ := hgo
    have R4 := R.keep (below_of_grown hC.grow)
    by_cases hlt : k < len
    · obtain ⟨⟨hb4, c0, c1, c2, c3⟩, hs4, _⟩ := R4
      rcases hs4.split with h0 | ⟨b', o', e, hb5, hc⟩
      · omega
      obtain ⟨rfl, rfl⟩ : b' = b ∧ o' = o := by simpa using e.symm
      have hix := swapIx_lt (X := X) (Y := Y) (k := k) (by omega) (by rw [← HL.out]; exact hlt)
      rw [← HL.out] at hix
      have c4 : wr.cell? ⟨b', o' + swapIx X Y k, none⟩ = some (.float .f32 (xs.getD (swapIx X Y k) 0)) := hc _ hix
      obtain ⟨q, m, p, hq, hm, hp, hsum, hqb, hmb⟩ := swap_parts X Y k (by omega)
      obtain ⟨el, hel⟩ : ∃ el, xs.getD (swapIx X Y k) 0 = el := ⟨_, rfl⟩
      rw [hel, hsum] at c4
      rw [hsum] at hix
      have EL := Lib.hid hel
      have hY0 : ((Y : Int) == 0) = false := by simp; omega
      have hY3 : ¬ (Y : Int) = 0 := by omega
      have hY4 : ¬ Y = 0 := by omega
      have hnat : ((q : Int) + (p : Int)).toNat = q + p := by omega
      have hi0 : (0 : Int) ≤ (q : Int) + (p : Int) := by omega
      have hi1 : (q : Int) + (p : Int) < (len : Int) := by omega
      have hw1 : IntKind.i64.wrap (q : Int) = (q : Int) := wrap_small (by omega) (by omega)
      have hw2 : IntKind.i64.wrap (p : Int) = (p : Int) := wrap_small (by omega) (by omega)
      have hw3 : IntKind.i64.wrap ((q : Int) + (p : Int)) = (q : Int) + (p : Int) := wrap_small (by omega) (by omega)
      have SS := Lib.hid hsum
      have CC := Lib.hid hC
      have VV := Lib.hid hv
      have NN := Lib.hid hn
      have C3 := Lib.hid (hC.drew.alloc (.cells #[.float .f32 el] 41))
      have O3 := Lib.hid (Own.alloc wr.drew 41 #[.float .f32 el])
      have small : Hid (vs.length ≤ 1048576) := Lib.hid (by omega)
      have c5 : wr.cell? ⟨w2.heap.size, 3, none⟩ = some v := hC.cell
      have c7 := C3.out.cell
      have c8 : (wr.alloc (.cells #[.float .f32 el] 41)).drew.cell? ⟨w2.heap.size, 3, none⟩ = some v := c7
      clear hc hs4 R HV e hsum hel hC hn hv
      go_wp2
      refine wp_region_noPanic ?_
      refine wp_region_held_drew (S := fun w' => w'.cell? ⟨w.heap.size, 0, none⟩ = some (.int .i64 X) ∧ w'.cell? ⟨w.heap.size, 1, none⟩ = some (.int .i64 Y) ∧
          w'.cell? ⟨w.heap.size, 3, none⟩ = some (.slice (some ⟨b', o', none⟩) len cap) ∧ w'.cell? ⟨b', o' + (q + p), none⟩ = some (.float .f32 el)) (by kernel_rfl) ⟨c0, c1, c3, c4⟩ (fun hHeld => ?_)
      refine wpAnyH_take (i := 0) (v := ?_) rfl (by kernel_rfl) (by kernel_rfl) (by kernel_rfl) (fun _ _ _ h => h) (Or.inl ⟨by rfl, ?_⟩) hHeld ?_
      rotate_left
      · intro w0 hSw; (try dsimp only at hSw); go_simp; try with_reducible rfl
      try simp only [Act.put, List.setIfInBounds_toArray, List.set_cons_zero, List.set_cons_succ]
      refine wpAnyH_take (i := 2) (v := ?_) rfl (by kernel_rfl) (by kernel_rfl) (by kernel_rfl) (fun _ _ _ h => h) (Or.inl ⟨by rfl, ?_⟩) hHeld ?_
      rotate_left
      · intro w0 hSw; (try dsimp only at hSw); go_simp; try with_reducible rfl
      try simp only [Act.put, List.setIfInBounds_toArray, List.set_cons_zero, List.set_cons_succ]
      refine wpAnyH_take (i := 3) (v := ?_) rfl (by kernel_rfl) (by kernel_rfl) (by kernel_rfl) (fun _ _ _ h => h) (Or.inl ⟨by rfl, ?_⟩) hHeld ?_
      rotate_left
      · intro w0 hSw; (try dsimp only at hSw); go_simp; try with_reducible rfl
      try simp only [Act.put, List.setIfInBounds_toArray, List.set_cons_zero, List.set_cons_succ]
      refine wpAnyH_take (i := 4) (v := ?_) rfl (by kernel_rfl) (by kernel_rfl) (by kernel_rfl) (fun _ _ _ h => h) (Or.inl ⟨by rfl, ?_⟩) hHeld ?_
      rotate_left
      · intro w0 hSw; (try dsimp only at hSw); go_simp; try with_reducible rfl
      try simp only [Act.put, List.setIfInBounds_toArray, List.set_cons_zero, List.set_cons_succ]
      refine wpAnyH_take (i := 5) (v := ?_) rfl (by kernel_rfl) (by kernel_rfl) (by kernel_rfl) (fun _ _ _ h => h) (Or.inl ⟨by rfl, ?_⟩) hHeld ?_
      rotate_left
      · intro w0 hSw; (try dsimp only at hSw); go_simp; try with_reducible rfl
      try simp only [Act.put, List.setIfInBounds_toArray, List.set_cons_zero, List.set_cons_succ]
      refine wpAnyH_take (i := 6) (v := ?_) rfl (by kernel_rfl) (by kernel_rfl) (by kernel_rfl) (fun _ _ _ h => h) (Or.inl ⟨by rfl, ?_⟩) hHeld ?_
      rotate_left
      · intro w0 hSw; (try dsimp only at hSw); go_simp; try with_reducible rfl
      try simp only [Act.put, List.setIfInBounds_toArray, List.set_cons_zero, List.set_cons_succ]
      refine wpAnyH_take (i := 7) (v := ?_) rfl (by kernel_rfl) (by kernel_rfl) (by kernel_rfl) (fun _ _ _ h => h) (Or.inl ⟨by rfl, ?_⟩) hHeld ?_
      rotate_left
      · intro w0 hSw; (try dsimp only at hSw); go_simp; try with_reducible rfl
      try simp only [Act.put, List.setIfInBounds_toArray, List.set_cons_zero, List.set_cons_succ]
      refine wpAnyH_take (i := 8) (v := ?_) rfl (by kernel_rfl) (by kernel_rfl) (by kernel_rfl) (fun _ _ _ h => h) (Or.inl ⟨by rfl, ?_⟩) hHeld ?_
      rotate_left
      · intro w0 hSw; (try dsimp only at hSw); go_simp; try with_reducible rfl
      try simp only [Act.put, List.setIfInBounds_toArray, List.set_cons_zero, List.set_cons_succ]
      refine wpAnyH_take (i := 9) (v := ?_) rfl (by kernel_rfl) (by kernel_rfl) (by kernel_rfl) (fun _ _ _ h => h) (Or.inl ⟨by rfl, ?_⟩) hHeld ?_
      rotate_left
      · intro w0 hSw; (try dsimp only at hSw); go_simp; try with_reducible rfl
      try simp only [Act.put, List.setIfInBounds_toArray, List.set_cons_zero, List.set_cons_succ]
      refine wpAnyH_take (i := 10) (v := ?_) rfl (by kernel_rfl) (by kernel_rfl) (by kernel_rfl) (fun _ _ _ h => h) (Or.inl ⟨by rfl, ?_⟩) hHeld ?_
      rotate_left
      · intro w0 hSw; (try dsimp only at hSw); go_simp; try with_reducible rfl
      try simp only [Act.put, List.setIfInBounds_toArray, List.set_cons_zero, List.set_cons_succ]
      refine wpAnyH_take (i := 11) (v := ?_) rfl (by kernel_rfl) (by kernel_rfl) (by kernel_rfl) (fun _ _ _ h => h) (Or.inl ⟨by rfl, ?_⟩) hHeld ?_
      rotate_left
      · intro w0 hSw; (try dsimp only at hSw); go_simp; try with_reducible rfl
      try simp only [Act.put, List.setIfInBounds_toArray, List.set_cons_zero, List.set_cons_succ]
      refine wpAnyH_take (i := 12) (v := ?_) rfl (by kernel_rfl) (by kernel_rfl) (by kernel_rfl) (fun _ _ _ h => h) (Or.inl ⟨by rfl, ?_⟩) hHeld ?_
      rotate_left
      · intro w0 hSw; (try dsimp only at hSw); go_simp; try with_reducible rfl
      try simp only [Act.put, List.setIfInBounds_toArray, List.set_cons_zero, List.set_cons_succ]
      refine wpAnyH_take (i := 13) (v := ?_) rfl (by kernel_rfl) (by kernel_rfl) (by kernel_rfl) (fun _ _ _ h => h) (Or.inl ⟨by rfl, ?_⟩) hHeld ?_
      rotate_left
      · intro w0 hSw; (try dsimp only at hSw); go_simp; try with_reducible rfl
      try simp only [Act.put, List.setIfInBounds_toArray, List.set_cons_zero, List.set_cons_succ]
      refine wpAnyH_take (i := 14) (v := ?_) rfl (by kernel_rfl) (by kernel_rfl) (by kernel_rfl) (fun _ _ _ h => h) (Or.inl ⟨by rfl, ?_⟩) hHeld ?_
      rotate_left
      · intro w0 hSw; (try dsimp only at hSw); go_simp; try with_reducible rfl
      try simp only [Act.put, List.setIfInBounds_toArray, List.set_cons_zero, List.set_cons_succ]
      refine wpAnyH_take (i := 15) (v := ?_) rfl (by kernel_rfl) (by kernel_rfl) (by kernel_rfl) (fun _ _ _ h => h) (Or.inl ⟨by rfl, ?_⟩) hHeld ?_
      rotate_left
      · intro w0 hSw; (try dsimp only at hSw); go_simp; try with_reducible rfl
      try simp only [Act.put, List.setIfInBounds_toArray, List.set_cons_zero, List.set_cons_succ]
      refine wpAnyH_take (i := 16) (v := ?_) rfl (by kernel_rfl) (by kernel_rfl) (by kernel_rfl) (fun _ _ _ h => h) (Or.inl ⟨by rfl, ?_⟩) hHeld ?_
      rotate_left
      · intro w0 hSw; (try dsimp only at hSw); go_simp; try with_reducible rfl
      try simp only [Act.put, List.setIfInBounds_toArray, List.set_cons_zero, List.set_cons_succ]
      refine wpAnyH_take (i := 17) (v := ?_) rfl (by kernel_rfl) (by kernel_rfl) (by kernel_rfl) (fun _ _ _ h => h) (Or.inl ⟨by rfl, ?_⟩) hHeld ?_
      rotate_left
      · intro w0 hSw; (try dsimp only at hSw); go_simp; try with_reducible rfl
      try simp only [Act.put, List.setIfInBounds_toArray, List.set_cons_zero, List.set_cons_succ]
      refine wpAnyH_ready (rs := [1, 18]) (by kernel_rfl) (by simp) ?_
      refine AllReadyH.cons rfl (fun K hK => ?_) (AllReadyH.cons rfl (fun K hK => ?_) AllReadyH.nil)
      · go_simp
        refine hK.out _ _ hHeld (fun hHeld => ?_)
        clear hK K
        try simp only [Act.put, List.setIfInBounds_toArray, List.set_cons_zero, List.set_cons_succ]
        refine wpAnyH_ready (rs := [18]) (by kernel_rfl) (by simp) ?_
        refine AllReadyH.cons rfl (fun K hK => ?_) AllReadyH.nil
        go_simp
        refine hK.out _ _ (by go_keep) (fun hHeld => ?_)
        clear hK K
        try simp only [Act.put, List.setIfInBounds_toArray, List.set_cons_zero, List.set_cons_succ]
        refine wpAnyH_ready (rs := [19]) (by kernel_rfl) (by simp) ?_
        refine AllReadyH.cons rfl (fun K hK => ?_) AllReadyH.nil
        refine step_push (w := wr.drew.alloc (.cells #[.float .f32 el] 41)) (by rfl) (.tmp 26) (.tmp 43) (by rfl) C3.out el wr.heap.size 1 (by rfl) (by rfl) O3.out small.out ?_
        intro g cp w3 g3 o3 c6 f5 C4
        refine hK.out _ _ ⟨(o3 w.heap.size 0 (by omega)).trans (by go_keep), (o3 w.heap.size 1 (by omega)).trans (by go_keep), (o3 w.heap.size 3 (by omega)).trans (by go_keep), (o3 b' (o' + (q + p)) (by omega)).trans (by go_keep)⟩ (fun hHeld => ?_)
        clear hK K
        try simp only [Act.put, List.setIfInBounds_toArray, List.set_cons_zero, List.set_cons_succ]
        refine wpAnyH_take (i := 20) (v := ?_) rfl (by kernel_rfl) (by kernel_rfl) (by kernel_rfl) (fun _ _ _ h => h) (Or.inl ⟨by rfl, ?_⟩) hHeld ?_
        rotate_left
        · intro w0 hSw; (try dsimp only at hSw); go_simp; try with_reducible rfl
        try simp only [Act.put, List.setIfInBounds_toArray, List.set_cons_zero, List.set_cons_succ]
        refine wpAnyH_ready (rs := [21]) (by kernel_rfl) (by simp) ?_
        refine AllReadyH.cons rfl (fun K hK => ?_) AllReadyH.nil
        go_simp
        refine hK.out _ _ ⟨(World.cell?_setCell_far _ _ _ _ (by show w2.heap.size ≠ w.heap.size; omega)).trans hHeld.1, (World.cell?_setCell_far _ _ _ _ (by show w2.heap.size ≠ w.heap.size; omega)).trans hHeld.2.1, (World.cell?_setCell_far _ _ _ _ (by show w2.heap.size ≠ w.heap.size; omega)).trans hHeld.2.2.1, (World.cell?_setCell_far _ _ _ _ (by show w2.heap.size ≠ b'; omega)).trans hHeld.2.2.2⟩ (fun hHeld => ?_)
        clear hK K
        try simp only [Act.put, List.setIfInBounds_toArray, List.set_cons_zero, List.set_cons_succ]
        refine wpAnyH_done (by kernel_rfl) ?_ _
        refine NoPanic.normal ?_
        have C5 := Lib.hid C4
        clear C4 c3 c6 c5 f5 C3 O3 c0 c1 c2 c4 c7 c8 o3 hHeld
        go_wp2
        go_roundw
        case rel => exact ⟨k + 1, by omega, by go_num, ⟨_, _, C5.out, by simp [NN.out], same_snoc NN.out VV.out (by rw [← EL.out]; exact Same.refl _ _)⟩⟩
        case measure => simp [intOf]; omega
      · go_simp
        refine hK.out _ _ (by go_keep) (fun hHeld => ?_)
        clear hK K
        try simp only [Act.put, List.setIfInBounds_toArray, List.set_cons_zero, List.set_cons_succ]
        refine wpAnyH_ready (rs := [1]) (by kernel_rfl) (by simp) ?_
        refine AllReadyH.cons rfl (fun K hK => ?_) AllReadyH.nil
        go_simp
        refine hK.out _ _ hHeld (fun hHeld => ?_)
        clear hK K
        try simp only [Act.put, List.setIfInBounds_toArray, List.set_cons_zero, List.set_cons_succ]
        refine wpAnyH_ready (rs := [19]) (by kernel_rfl) (by simp) ?_
        refine AllReadyH.cons rfl (fun K hK => ?_) AllReadyH.nil
        refine step_push (w := wr.drew.alloc (.cells #[.float .f32 el] 41)) (by rfl) (.tmp 26) (.tmp 43) (by rfl) C3.out el wr.heap.size 1 (by rfl) (by rfl) O3.out small.out ?_
        intro g cp w3 g3 o3 c6 f5 C4
        refine hK.out _ _ ⟨(o3 w.heap.size 0 (by omega)).trans (by go_keep), (o3 w.heap.size 1 (by omega)).trans (by go_keep), (o3 w.heap.size 3 (by omega)).trans (by go_keep), (o3 b' (o' + (q + p)) (by omega)).trans (by go_keep)⟩ (fun hHeld => ?_)
        clear hK K
        try simp only [Act.put, List.setIfInBounds_toArray, List.set_cons_zero, List.set_cons_succ]
        refine wpAnyH_take (i := 20) (v := ?_) rfl (by kernel_rfl) (by kernel_rfl) (by kernel_rfl) (fun _ _ _ h => h) (Or.inl ⟨by rfl, ?_⟩) hHeld ?_
        rotate_left
        · intro w0 hSw; (try dsimp only at hSw); go_simp; try with_reducible rfl
        try simp only [Act.put, List.setIfInBounds_toArray, List.set_cons_zero, List.set_cons_succ]
        refine wpAnyH_ready (rs := [21]) (by kernel_rfl) (by simp) ?_
        refine AllReadyH.cons rfl (fun K hK => ?_) AllReadyH.nil
        go_simp
        refine hK.out _ _ ⟨(World.cell?_setCell_far _ _ _ _ (by show w2.heap.size ≠ w.heap.size; omega)).trans hHeld.1, (World.cell?_setCell_far _ _ _ _ (by show w2.heap.size ≠ w.heap.size; omega)).trans hHeld.2.1, (World.cell?_setCell_far _ _ _ _ (by show w2.heap.size ≠ w.heap.size; omega)).trans hHeld.2.2.1, (World.cell?_setCell_far _ _ _ _ (by show w2.heap.size ≠ b'; omega)).trans hHeld.2.2.2⟩ (fun hHeld => ?_)
        clear hK K
        try simp only [Act.put, List.setIfInBounds_toArray, List.set_cons_zero, List.set_cons_succ]
        refine wpAnyH_done (by kernel_rfl) ?_ _
        refine NoPanic.normal ?_
        have C5 := Lib.hid C4
        clear C4 c3 c6 c5 f5 C3 O3 c0 c1 c2 c4 c7 c8 o3 hHeld
        go_wp2
        go_roundw
        case rel => exact ⟨k + 1, by omega, by go_num, ⟨_, _, C5.out, by simp [NN.out], same_snoc NN.out VV.out (by rw [← EL.out]; exact Same.refl _ _)⟩⟩
        case measure => simp [intOf]; omega
    · have hk2 : k = len := by omega
      subst hk2
      obtain ⟨a1, ln, cp, v1, e, c0, c1, c2, c3, d0, d1, d2, d3, f0, f1, f2, f3, hfin⟩ := Going.result ⟨v, vs, hC, hn, hv⟩ (fun k e => by cases e)
      have HF := Lib.hid hfin
      obtain ⟨⟨_, b0, b1, b2, b3⟩, _, _⟩ := R4
      clear hfin hC hn hv
      subst e
      go_wp2
      obtain ⟨⟨v2, vs2, e2, g2, h2, hn2, hv2⟩, g1, _⟩ := HF.out _ rfl
      simp only [Ending.returned.injEq, Value.agg.injEq, Array.mk.injEq, List.cons.injEq, and_true, true_and] at e2
      subst e2
      refine bodyPost_ret (v := .tuple #[.agg #[.int .i64 Y, .int .i64 X, .bool r, .slice a1 ln cp], .bool true]) ?_ rfl
        (FieldOut.yes (keep_trans K (below_of_grown g1)) (h2.base (by omega)) hn2 hv2)
      simp [results, Try.results38, go_sem, *]

end Go.Proofs.Ytbcocjakpnhmaaa
