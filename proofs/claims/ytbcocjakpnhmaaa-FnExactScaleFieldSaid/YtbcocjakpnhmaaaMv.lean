/- Fields made of a field: mirrored. Under no condition. -/
import Derived.Test.YtbcocjakpnhmaaaMu
namespace Go.Proofs.Ytbcocjakpnhmaaa
open Go Go.RowKit
set_option linter.unusedVariables false
set_option linter.unusedSimpArgs false

def mirIx (X k : Nat) : Nat := (X - 1 - k % X) + X * (k / X)
theorem mirIx_lt {X Y k : Nat} (hX : 0 < X) (hk : k < X * Y) : mirIx X k < X * Y := by
  have h1 : k / X < Y := Nat.div_lt_of_lt_mul hk
  have h2 : k % X < X := Nat.mod_lt _ hX
  have h3 : X * (k / X + 1) ≤ X * Y := Nat.mul_le_mul_left _ h1
  rw [Nat.mul_succ] at h3
  unfold mirIx; omega
theorem mir_parts (X k : Nat) (hX : 1 ≤ X) : ∃ q m p sx : Nat, (k : Int).tdiv (X : Int) = (q : Int) ∧ (k : Int).tmod (X : Int) = (m : Int) ∧ (X : Int) * (q : Int) = (p : Int) ∧ (X : Int) - 1 - (m : Int) = (sx : Int) ∧ mirIx X k = sx + p ∧ q ≤ k ∧ m ≤ k ∧ sx ≤ X := by
  have h2 : k % X < X := Nat.mod_lt _ hX
  exact ⟨k / X, k % X, X * (k / X), X - 1 - k % X, by rw [Int.tdiv_eq_ediv_of_nonneg (by omega), Int.natCast_ediv], by rw [Int.tmod_eq_emod_of_nonneg (by omega), Int.natCast_emod], by rw [Int.natCast_mul], by omega, rfl, Nat.div_le_self _ _, Nat.mod_le _ _, by omega⟩

set_option maxHeartbeats 2000000 in
theorem spec_MirrorField_yes (X Y : Nat) (r : Bool) (a : Option Addr) (len cap : Nat) (xs : List Nat) (w : World) (hs : Holds w a len (fvals .f32 xs)) (hv : validB X Y len = true) :
    Calls Try.prog 40 #[.agg #[.int .i64 X, .int .i64 Y, .bool r, .slice a len cap]] w (FieldOut X Y r true len (fun k => xs.getD (mirIx X k) 0) w) := by
  obtain ⟨X', Y', e1, e2, hX1, hX2, hY1, hY2, hlen⟩ := valid_parts hv
  obtain rfl : X = X' := by omega
  obtain rfl : Y = Y' := by omega
  have hle : X * Y ≤ 16 * 16 := Nat.mul_le_mul hX2 hY2
  have hge : 1 * 1 ≤ X * Y := Nat.mul_le_mul hX1 hY1
  have hmul : (X : Int) * (Y : Int) = (len : Int) := by rw [hlen]; simp
  have hl1 : 1 ≤ len := by omega
  have hl2 : len ≤ 256 := by omega
  have HV := Lib.hid hv
  have HL := Lib.hid hlen
  clear hv e1 e2 hlen hle hge
  have K := keep_box w (.cells #[.int .i64 X, .int .i64 Y, .bool r, .slice a len cap] 37)
  have R := FieldRd.mk' w X Y r a len cap xs 37 hs (by omega)
  rcases hs.split with h0 | ⟨b, o, rfl, hb, hc⟩
  · omega
  clear hc hs
  have R2 := R.keep (keep_own _ (.cells #[.int .i64 0, .int .i64 0, .bool false, .slice none 0 0] 37))
  go_enter Try.func40, Try.ntmps40
  go_wp2_with fail
  refine (spec_l02Is _ X Y r _ len cap _ R2.box (by omega)).mono ?_
  rintro e w1 ⟨n1, rfl, rfl⟩
  rw [HV.out]
  have R3 := R2.drewN n1
  obtain ⟨⟨_, c0, c1, c2, c3⟩, hs3, _⟩ := R3
  go_wp2_with fail
  refine (spec_l02New X Y r _).mono ?_
  rintro e w2 ⟨v0, rfl, k2, h2⟩
  have hB := Lib.hid (Going.begin (W := w.alloc (.cells #[.int .i64 X, .int .i64 Y, .bool r, .slice (some ⟨b, o, none⟩) len cap] 37)) X Y r (fun k => xs.getD (mirIx X k) 0) rfl (keep_trans (keep_drewN (Below.refl _ _) n1) k2) h2)
  obtain ⟨a0, cap0, rfl, _⟩ := h2.value
  have hsz : w.heap.size + 1 < w2.heap.size := Nat.lt_of_lt_of_le (by simp) k2.size
  clear k2 h2 c0 c1 c2 c3 hs3 R2
  generalize hW : w.alloc (.cells #[.int .i64 X, .int .i64 Y, .bool r, .slice (some ⟨b, o, none⟩) len cap] 37) = W at *
  have hWs : W.heap.size = w.heap.size + 1 := by rw [← hW]; simp
  clear hW
  rw [hWs] at hB
  go_wp2
  go_loopw [5] (fun i wr => ∃ k : Nat, k ≤ len ∧ i = .int .i64 k ∧ Going W none (w.heap.size + 1) w2.heap.size X Y r (fun k => xs.getD (mirIx X k) 0) k wr) (fun i _ => len - (intOf i).toNat)
  case atStart => exact ⟨0, Nat.zero_le _, rfl, hB.out⟩
  case round =>
    obtain ⟨k, hk, rfl, hgo⟩ := hrel
    obtain ⟨v, vs, hC, hn, hv⟩ := hgo
    have R4 := R.keep (below_of_grown hC.grow)
    by_cases hlt : k < len
    · obtain ⟨⟨hb4, c0, c1, c2, c3⟩, hs4, _⟩ := R4
      rcases hs4.split with h0 | ⟨b', o', e, hb5, hc⟩
      · omega
      obtain ⟨rfl, rfl⟩ : b' = b ∧ o' = o := by simpa using e.symm
      have hix := mirIx_lt (X := X) (Y := Y) (k := k) (by omega) (by rw [← HL.out]; exact hlt)
      rw [← HL.out] at hix
      have c4 : wr.cell? ⟨b', o' + mirIx X k, none⟩ = some (.float .f32 (xs.getD (mirIx X k) 0)) := hc _ hix
      obtain ⟨q, m, p, sx, hq, hm, hp, hsx, hsum, hqb, hmb, hsb⟩ := mir_parts X k hX1
      obtain ⟨el, hel⟩ : ∃ el, xs.getD (mirIx X k) 0 = el := ⟨_, rfl⟩
      rw [hel, hsum] at c4
      rw [hsum] at hix
      have EL := Lib.hid hel
      have hY0 : ((X : Int) == 0) = false := by simp; omega
      have hY3 : ¬ (X : Int) = 0 := by omega
      have hY4 : ¬ X = 0 := by omega
      have hnat : ((sx : Int) + (p : Int)).toNat = sx + p := by omega
      have hi0 : (0 : Int) ≤ (sx : Int) + (p : Int) := by omega
      have hi1 : (sx : Int) + (p : Int) < (len : Int) := by omega
      have hw0 : IntKind.i64.wrap ((X : Int) - 1) = (X : Int) - 1 := wrap_small (by omega) (by omega)
      have hw1 : IntKind.i64.wrap (q : Int) = (q : Int) := wrap_small (by omega) (by omega)
      have hw2 : IntKind.i64.wrap (p : Int) = (p : Int) := wrap_small (by omega) (by omega)
      have hw4 : IntKind.i64.wrap (sx : Int) = (sx : Int) := wrap_small (by omega) (by omega)
      have hw3 : IntKind.i64.wrap ((sx : Int) + (p : Int)) = (sx : Int) + (p : Int) := wrap_small (by omega) (by omega)
      have SS := Lib.hid hsum
      have CC := Lib.hid hC
      have VV := Lib.hid hv
      have NN := Lib.hid hn
      have C3 := Lib.hid (hC.drew.alloc (.cells #[.float .f32 el] 41))
      have O3 := Lib.hid (Own.alloc wr.drew 41 #[.float .f32 el])
      have small : Hid (vs.length ≤ 1048576) := Lib.hid (by omega)
      have c5 : wr.cell? ⟨w2.heap.size, 3, none⟩ = some v := hC.cell
      have c7 := C3.out.cell
      have c8 : (wr.alloc (.cells #[.float .f32 el] 41)).drew.cell? ⟨w2.heap.size, 3, none⟩ = some v := c7
      clear hc hs4 R HV e hsum hel hC hn hv
      go_wp2
      refine wp_region_noPanic ?_
      refine wp_region_held_drew (S := fun w' => w'.cell? ⟨w.heap.size, 0, none⟩ = some (.int .i64 X) ∧ w'.cell? ⟨w.heap.size, 1, none⟩ = some (.int .i64 Y) ∧
          w'.cell? ⟨w.heap.size, 3, none⟩ = some (.slice (some ⟨b', o', none⟩) len cap) ∧ w'.cell? ⟨b', o' + (sx + p), none⟩ = some (.float .f32 el)) (by kernel_rfl) ⟨c0, c1, c3, c4⟩ (fun hHeld => ?_)
      refine wpAnyH_take (i := 0) (v := ?_) rfl (by kernel_rfl) (by kernel_rfl) (by kernel_rfl) (fun _ _ _ h => h) (Or.inl ⟨by rfl, ?_⟩) hHeld ?_
      rotate_left
      · intro w0 hSw; (try dsimp only at hSw); go_simp; try with_reducible rfl
      try simp only [Act.put, List.setIfInBounds_toArray, List.set_cons_zero, List.set_cons_succ]
      refine wpAnyH_take (i := 2) (v := ?_) rfl (by kernel_rfl) (by kernel_rfl) (by kernel_rfl) (fun _ _ _ h => h) (Or.inl ⟨by rfl, ?_⟩) hHeld ?_
      rotate_left
      · intro w0 hSw; (try dsimp only at hSw); go_simp; try with_reducible rfl
      try simp only [Act.put, List.setIfInBounds_toArray, List.set_cons_zero, List.set_cons_succ]
      refine wpAnyH_take (i := 3) (v := ?_) rfl (by kernel_rfl) (by kernel_rfl) (by kernel_rfl) (fun _ _ _ h => h) (Or.inl ⟨by rfl, ?_⟩) hHeld ?_
      rotate_left
      · intro w0 hSw; (try dsimp only at hSw); go_simp; try with_reducible rfl
      try simp only [Act.put, List.setIfInBounds_toArray, List.set_cons_zero, List.set_cons_succ]
      refine wpAnyH_take (i := 4) (v := ?_) rfl (by kernel_rfl) (by kernel_rfl) (by kernel_rfl) (fun _ _ _ h => h) (Or.inl ⟨by rfl, ?_⟩) hHeld ?_
      rotate_left
      · intro w0 hSw; (try dsimp only at hSw); go_simp; try with_reducible rfl
      try simp only [Act.put, List.setIfInBounds_toArray, List.set_cons_zero, List.set_cons_succ]
      refine wpAnyH_take (i := 5) (v := ?_) rfl (by kernel_rfl) (by kernel_rfl) (by kernel_rfl) (fun _ _ _ h => h) (Or.inl ⟨by rfl, ?_⟩) hHeld ?_
      rotate_left
      · intro w0 hSw; (try dsimp only at hSw); go_simp; try with_reducible rfl
      try simp only [Act.put, List.setIfInBounds_toArray, List.set_cons_zero, List.set_cons_succ]
      refine wpAnyH_take (i := 6) (v := ?_) rfl (by kernel_rfl) (by kernel_rfl) (by kernel_rfl) (fun _ _ _ h => h) (Or.inl ⟨by rfl, ?_⟩) hHeld ?_
      rotate_left
      · intro w0 hSw; (try dsimp only at hSw); go_simp; try with_reducible rfl
      try simp only [Act.put, List.setIfInBounds_toArray, List.set_cons_zero, List.set_cons_succ]
      refine wpAnyH_take (i := 7) (v := ?_) rfl (by kernel_rfl) (by kernel_rfl) (by kernel_rfl) (fun _ _ _ h => h) (Or.inl ⟨by rfl, ?_⟩) hHeld ?_
      rotate_left
      · intro w0 hSw; (try dsimp only at hSw); go_simp; try with_reducible rfl
      try simp only [Act.put, List.setIfInBounds_toArray, List.set_cons_zero, List.set_cons_succ]
      refine wpAnyH_take (i := 8) (v := ?_) rfl (by kernel_rfl) (by kernel_rfl) (by kernel_rfl) (fun _ _ _ h => h) (Or.inl ⟨by rfl, ?_⟩) hHeld ?_
      rotate_left
      · intro w0 hSw; (try dsimp only at hSw); go_simp; try with_reducible rfl
      try simp only [Act.put, List.setIfInBounds_toArray, List.set_cons_zero, List.set_cons_succ]
      refine wpAnyH_take (i := 9) (v := ?_) rfl (by kernel_rfl) (by kernel_rfl) (by kernel_rfl) (fun _ _ _ h => h) (Or.inl ⟨by rfl, ?_⟩) hHeld ?_
      rotate_left
      · intro w0 hSw; (try dsimp only at hSw); go_simp; try with_reducible rfl
      try simp only [Act.put, List.setIfInBounds_toArray, List.set_cons_zero, List.set_cons_succ]
      refine wpAnyH_take (i := 10) (v := ?_) rfl (by kernel_rfl) (by kernel_rfl) (by kernel_rfl) (fun _ _ _ h => h) (Or.inl ⟨by rfl, ?_⟩) hHeld ?_
      rotate_left
      · intro w0 hSw; (try dsimp only at hSw); go_simp; try with_reducible rfl
      try simp only [Act.put, List.setIfInBounds_toArray, List.set_cons_zero, List.set_cons_succ]
      refine wpAnyH_take (i := 11) (v := ?_) rfl (by kernel_rfl) (by kernel_rfl) (by kernel_rfl) (fun _ _ _ h => h) (Or.inl ⟨by rfl, ?_⟩) hHeld ?_
      rotate_left
      · intro w0 hSw; (try dsimp only at hSw); go_simp; try with_reducible rfl
      try simp only [Act.put, List.setIfInBounds_toArray, List.set_cons_zero, List.set_cons_succ]
      refine wpAnyH_take (i := 12) (v := ?_) rfl (by kernel_rfl) (by kernel_rfl) (by kernel_rfl) (fun _ _ _ h => h) (Or.inl ⟨by rfl, ?_⟩) hHeld ?_
      rotate_left
      · intro w0 hSw; (try dsimp only at hSw); go_simp; try with_reducible rfl
      try simp only [Act.put, List.setIfInBounds_toArray, List.set_cons_zero, List.set_cons_succ]
      refine wpAnyH_take (i := 13) (v := ?_) rfl (by kernel_rfl) (by kernel_rfl) (by kernel_rfl) (fun _ _ _ h => h) (Or.inl ⟨by rfl, ?_⟩) hHeld ?_
      rotate_left
      · intro w0 hSw; (try dsimp only at hSw); go_simp; try with_reducible rfl
      try simp only [Act.put, List.setIfInBounds_toArray, List.set_cons_zero, List.set_cons_succ]
      refine wpAnyH_take (i := 14) (v := ?_) rfl (by kernel_rfl) (by kernel_rfl) (by kernel_rfl) (fun _ _ _ h => h) (Or.inl ⟨by rfl, ?_⟩) hHeld ?_
      rotate_left
      · intro w0 hSw; (try dsimp only at hSw); go_simp; try with_reducible rfl
      try simp only [Act.put, List.setIfInBounds_toArray, List.set_cons_zero, List.set_cons_succ]
      refine wpAnyH_take (i := 15) (v := ?_) rfl (by kernel_rfl) (by kernel_rfl) (by kernel_rfl) (fun _ _ _ h => h) (Or.inl ⟨by rfl, ?_⟩) hHeld ?_
      rotate_left
      · intro w0 hSw; (try dsimp only at hSw); go_simp; try with_reducible rfl
      try simp only [Act.put, List.setIfInBounds_toArray, List.set_cons_zero, List.set_cons_succ]
      refine wpAnyH_take (i := 16) (v := ?_) rfl (by kernel_rfl) (by kernel_rfl) (by kernel_rfl) (fun _ _ _ h => h) (Or.inl ⟨by rfl, ?_⟩) hHeld ?_
      rotate_left
      · intro w0 hSw; (try dsimp only at hSw); go_simp; try with_reducible rfl
      try simp only [Act.put, List.setIfInBounds_toArray, List.set_cons_zero, List.set_cons_succ]
      refine wpAnyH_take (i := 17) (v := ?_) rfl (by kernel_rfl) (by kernel_rfl) (by kernel_rfl) (fun _ _ _ h => h) (Or.inl ⟨by rfl, ?_⟩) hHeld ?_
      rotate_left
      · intro w0 hSw; (try dsimp only at hSw); go_simp; try with_reducible rfl
      try simp only [Act.put, List.setIfInBounds_toArray, List.set_cons_zero, List.set_cons_succ]
      refine wpAnyH_take (i := 18) (v := ?_) rfl (by kernel_rfl) (by kernel_rfl) (by kernel_rfl) (fun _ _ _ h => h) (Or.inl ⟨by rfl, ?_⟩) hHeld ?_
      rotate_left
      · intro w0 hSw; (try dsimp only at hSw); go_simp; try with_reducible rfl
      try simp only [Act.put, List.setIfInBounds_toArray, List.set_cons_zero, List.set_cons_succ]
      refine wpAnyH_take (i := 19) (v := ?_) rfl (by kernel_rfl) (by kernel_rfl) (by kernel_rfl) (fun _ _ _ h => h) (Or.inl ⟨by rfl, ?_⟩) hHeld ?_
      rotate_left
      · intro w0 hSw; (try dsimp only at hSw); go_simp; try with_reducible rfl
      try simp only [Act.put, List.setIfInBounds_toArray, List.set_cons_zero, List.set_cons_succ]
      refine wpAnyH_take (i := 20) (v := ?_) rfl (by kernel_rfl) (by kernel_rfl) (by kernel_rfl) (fun _ _ _ h => h) (Or.inl ⟨by rfl, ?_⟩) hHeld ?_
      rotate_left
      · intro w0 hSw; (try dsimp only at hSw); go_simp; try with_reducible rfl
      try simp only [Act.put, List.setIfInBounds_toArray, List.set_cons_zero, List.set_cons_succ]
      refine wpAnyH_take (i := 21) (v := ?_) rfl (by kernel_rfl) (by kernel_rfl) (by kernel_rfl) (fun _ _ _ h => h) (Or.inl ⟨by rfl, ?_⟩) hHeld ?_
      rotate_left
      · intro w0 hSw; (try dsimp only at hSw); go_simp; try with_reducible rfl
      try simp only [Act.put, List.setIfInBounds_toArray, List.set_cons_zero, List.set_cons_succ]
      refine wpAnyH_ready (rs := [1, 22]) (by kernel_rfl) (by simp) ?_
      refine AllReadyH.cons rfl (fun K hK => ?_) (AllReadyH.cons rfl (fun K hK => ?_) AllReadyH.nil)
      · go_simp
        refine hK.out _ _ hHeld (fun hHeld => ?_)
        clear hK K
        try simp only [Act.put, List.setIfInBounds_toArray, List.set_cons_zero, List.set_cons_succ]
        refine wpAnyH_ready (rs := [22]) (by kernel_rfl) (by simp) ?_
        refine AllReadyH.cons rfl (fun K hK => ?_) AllReadyH.nil
        go_simp
        refine hK.out _ _ (by go_keep) (fun hHeld => ?_)
        clear hK K
        try simp only [Act.put, List.setIfInBounds_toArray, List.set_cons_zero, List.set_cons_succ]
        refine wpAnyH_ready (rs := [23]) (by kernel_rfl) (by simp) ?_
        refine AllReadyH.cons rfl (fun K hK => ?_) AllReadyH.nil
        refine step_push (w := wr.drew.alloc (.cells #[.float .f32 el] 41)) (by rfl) (.tmp 26) (.tmp 47) (by rfl) C3.out el wr.heap.size 1 (by rfl) (by rfl) O3.out small.out ?_
        intro g cp w3 g3 o3 c6 f5 C4
        refine hK.out _ _ ⟨(o3 w.heap.size 0 (by omega)).trans (by go_keep), (o3 w.heap.size 1 (by omega)).trans (by go_keep), (o3 w.heap.size 3 (by omega)).trans (by go_keep), (o3 b' (o' + (sx + p)) (by omega)).trans (by go_keep)⟩ (fun hHeld => ?_)
        clear hK K
        try simp only [Act.put, List.setIfInBounds_toArray, List.set_cons_zero, List.set_cons_succ]
        refine wpAnyH_take (i := 24) (v := ?_) rfl (by kernel_rfl) (by kernel_rfl) (by kernel_rfl) (fun _ _ _ h => h) (Or.inl ⟨by rfl, ?_⟩) hHeld ?_
        rotate_left
        · intro w0 hSw; (try dsimp only at hSw); go_simp; try with_reducible rfl
        try simp only [Act.put, List.setIfInBounds_toArray, List.set_cons_zero, List.set_cons_succ]
        refine wpAnyH_ready (rs := [25]) (by kernel_rfl) (by simp) ?_
        refine AllReadyH.cons rfl (fun K hK => ?_) AllReadyH.nil
        go_simp
        refine hK.out _ _ ⟨(World.cell?_setCell_far _ _ _ _ (by show w2.heap.size ≠ w.heap.size; omega)).trans hHeld.1, (World.cell?_setCell_far _ _ _ _ (by show w2.heap.size ≠ w.heap.size; omega)).trans hHeld.2.1, (World.cell?_setCell_far _ _ _ _ (by show w2.heap.size ≠ w.heap.size; omega)).trans hHeld.2.2.1, (World.cell?_setCell_far _ _ _ _ (by show w2.heap.size ≠ b'; omega)).trans hHeld.2.2.2⟩ (fun hHeld => ?_)
        clear hK K
        try simp only [Act.put, List.setIfInBounds_toArray, List.set_cons_zero, List.set_cons_succ]
        refine wpAnyH_done (by kernel_rfl) ?_ _
        refine NoPanic.normal ?_
        have C5 := Lib.hid C4
        clear C4 c3 c6 c5 f5 C3 O3 c0 c1 c2 c4 c7 c8 o3 hHeld
        go_wp2
        go_roundw
        case rel => exact ⟨k + 1, by omega, by go_num, ⟨_, _, C5.out, by simp [NN.out], same_snoc NN.out VV.out (by rw [← EL.out]; exact Same.refl _ _)⟩⟩
        case measure => simp [intOf]; omega
      · go_simp
        refine hK.out _ _ (by go_keep) (fun hHeld => ?_)
        clear hK K
        try simp only [Act.put, List.setIfInBounds_toArray, List.set_cons_zero, List.set_cons_succ]
        refine wpAnyH_ready (rs := [1]) (by kernel_rfl) (by simp) ?_
        refine AllReadyH.cons rfl (fun K hK => ?_) AllReadyH.nil
        go_simp
        refine hK.out _ _ hHeld (fun hHeld => ?_)
        clear hK K
        try simp only [Act.put, List.setIfInBounds_toArray, List.set_cons_zero, List.set_cons_succ]
        refine wpAnyH_ready (rs := [23]) (by kernel_rfl) (by simp) ?_
        refine AllReadyH.cons rfl (fun K hK => ?_) AllReadyH.nil
        refine step_push (w := wr.drew.alloc (.cells #[.float .f32 el] 41)) (by rfl) (.tmp 26) (.tmp 47) (by rfl) C3.out el wr.heap.size 1 (by rfl) (by rfl) O3.out small.out ?_
        intro g cp w3 g3 o3 c6 f5 C4
        refine hK.out _ _ ⟨(o3 w.heap.size 0 (by omega)).trans (by go_keep), (o3 w.heap.size 1 (by omega)).trans (by go_keep), (o3 w.heap.size 3 (by omega)).trans (by go_keep), (o3 b' (o' + (sx + p)) (by omega)).trans (by go_keep)⟩ (fun hHeld => ?_)
        clear hK K
        try simp only [Act.put, List.setIfInBounds_toArray, List.set_cons_zero, List.set_cons_succ]
        refine wpAnyH_take (i := 24) (v := ?_) rfl (by kernel_rfl) (by kernel_rfl) (by kernel_rfl) (fun _ _ _ h => h) (Or.inl ⟨by rfl, ?_⟩) hHeld ?_
        rotate_left
        · intro w0 hSw; (try dsimp only at hSw); go_simp; try with_reducible rfl
        try simp only [Act.put, List.setIfInBounds_toArray, List.set_cons_zero, List.set_cons_succ]
        refine wpAnyH_ready (rs := [25]) (by kernel_rfl) (by simp) ?_
        refine AllReadyH.cons rfl (fun K hK => ?_) AllReadyH.nil
        go_simp
        refine hK.out _ _ ⟨(World.cell?_setCell_far _ _ _ _ (by show w2.heap.size ≠ w.heap.size; omega)).trans hHeld.1, (World.cell?_setCell_far _ _ _ _ (by show w2.heap.size ≠ w.heap.size; omega)).trans hHeld.2.1, (World.cell?_setCell_far _ _ _ _ (by show w2.heap.size ≠ w.heap.size; omega)).trans hHeld.2.2.1, (World.cell?_setCell_far _ _ _ _ (by show w2.heap.size ≠ b'; omega)).trans hHeld.2.2.2⟩ (fun hHeld => ?_)
        clear hK K
        try simp only [Act.put, List.setIfInBounds_toArray, List.set_cons_zero, List.set_cons_succ]
        refine wpAnyH_done (by kernel_rfl) ?_ _
        refine NoPanic.normal ?_
        have C5 := Lib.hid C4
        clear C4 c3 c6 c5 f5 C3 O3 c0 c1 c2 c4 c7 c8 o3 hHeld
        go_wp2
        go_roundw
        case rel => exact ⟨k + 1, by omega, by go_num, ⟨_, _, C5.out, by simp [NN.out], same_snoc NN.out VV.out (by rw [← EL.out]; exact Same.refl _ _)⟩⟩
        case measure => simp [intOf]; omega
    · have hk2 : k = len := by omega
      subst hk2
      obtain ⟨a1, ln, cp, v1, e, c0, c1, c2, c3, d0, d1, d2, d3, f0, f1, f2, f3, hfin⟩ := Going.result ⟨v, vs, hC, hn, hv⟩ (fun k e => by cases e)
      have HF := Lib.hid hfin
      obtain ⟨⟨_, b0, b1, b2, b3⟩, _, _⟩ := R4
      clear hfin hC hn hv
      subst e
      go_wp2
      obtain ⟨⟨v2, vs2, e2, g2, h2, hn2, hv2⟩, g1, _⟩ := HF.out _ rfl
      simp only [Ending.returned.injEq, Value.agg.injEq, Array.mk.injEq, List.cons.injEq, and_true, true_and] at e2
      subst e2
      refine bodyPost_ret (v := .tuple #[.agg #[.int .i64 X, .int .i64 Y, .bool r, .slice a1 ln cp], .bool true]) ?_ rfl
        (FieldOut.yes (keep_trans K (below_of_grown g1)) (h2.base (by omega)) hn2 hv2)
      simp [results, Try.results40, go_sem, *]

set_option maxHeartbeats 1000000 in
theorem spec_MirrorField_no (x y : Int) (r : Bool) (a : Option Addr) (len cap : Nat) (V : Nat → Nat) (w : World) (hl : len ≤ 9223372036854775807) (hv : validB x y len = false) :
    Calls Try.prog 40 #[.agg #[.int .i64 x, .int .i64 y, .bool r, .slice a len cap]] w (FieldOut 0 0 false false 0 V w) := by
  have HV := Lib.hid hv
  clear hv
  have K := keep_trans (keep_own w (.cells #[.int .i64 x, .int .i64 y, .bool r, .slice a len cap] 37)) (keep_own _ (.cells #[.int .i64 0, .int .i64 0, .bool false, .slice none 0 0] 37))
  have R := (box_at w x y r (.slice a len cap) 37).keep (keep_own _ (.cells #[.int .i64 0, .int .i64 0, .bool false, .slice none 0 0] 37))
  go_enter Try.func40, Try.ntmps40
  go_wp2_with fail
  refine (spec_l02Is _ x y r a len cap _ R hl).mono ?_
  rintro e w1 ⟨n1, rfl, rfl⟩
  rw [HV.out]
  have HK := Lib.hid (keep_drewN K n1)
  clear K R
  go_wp2
  refine bodyPost_ret (v := .tuple #[.agg #[.int .i64 0, .int .i64 0, .bool false, .slice none 0 0], .bool false]) ?_ rfl (FieldOut.no _ _ _ (below_res4 HK.out (by omega) _ _ _ _))
  simp [results, Try.results40, go_sem, *]

set_option maxHeartbeats 1000000 in
theorem impl_MirrorField_no (x y : Int) (r : Bool) (a : Option Addr) (len cap : Nat) (V : Nat → Nat) (w : World) (hl : len ≤ 9223372036854775807) (hv : validB x y len = false) :
    Calls Try.prog 41 #[.agg #[.int .i64 x, .int .i64 y, .bool r, .slice a len cap]] w (FieldOut 0 0 false false 0 V w) := by
  have HV := Lib.hid hv
  clear hv
  have K0 := keep_trans (keep_own w (.cells #[.int .i64 x, .int .i64 y, .bool r, .slice a len cap] 37)) (keep_own _ (.cells #[.int .i64 0, .int .i64 0, .bool false, .slice none 0 0] 37))
  have Z0 : Own ((w.alloc (.cells #[.int .i64 x, .int .i64 y, .bool r, .slice a len cap] 37)).alloc (.cells #[.int .i64 0, .int .i64 0, .bool false, .slice none 0 0] 37)) (w.heap.size + 1) 37 #[.int .i64 0, .int .i64 0, .bool false, .slice none 0 0] := by
    simpa using Own.alloc (w.alloc (.cells #[.int .i64 x, .int .i64 y, .bool r, .slice a len cap] 37)) 37 #[.int .i64 0, .int .i64 0, .bool false, .slice none 0 0]
  go_enter Try.func41, Try.ntmps41
  go_wp2_with fail
  refine (impl_ValidField x y r a len cap _ hl).mono ?_
  rintro e w1 ⟨rfl, k1⟩
  rw [HV.out]
  have K1 := keep_trans K0 k1
  obtain ⟨d0, d1, d2, d3, f0, f1, f2, f3⟩ := (Z0.below k1 Z0.lt).zero4
  have HK := Lib.hid K1
  clear K0 Z0 k1 K1
  go_wp2
  refine bodyPost_ret (v := .tuple #[.agg #[.int .i64 0, .int .i64 0, .bool false, .slice none 0 0], .bool false]) ?_ rfl (FieldOut.no _ _ _ (below_res4 HK.out (by omega) _ _ _ _))
  simp [results, Try.results41, go_sem, *]

end Go.Proofs.Ytbcocjakpnhmaaa
