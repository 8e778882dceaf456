/- Fields made of a field: scaled. Under no condition. -/
import Derived.Test.YtbcocjakpnhmaaaMu
import Derived.Test.YtbcocjakpnhmaaaCt
namespace Go.Proofs.Ytbcocjakpnhmaaa
open Go Go.RowKit
set_option linter.unusedVariables false
set_option linter.unusedSimpArgs false

set_option maxHeartbeats 2000000 in
theorem spec_ScaleField_yes (X Y : Nat) (r : Bool) (a : Option Addr) (len cap : Nat) (xs : List Nat) (by_ : Nat) (w : World) (hs : Holds w a len (fvals .f32 xs)) (hv : validB X Y len = true) :
    Calls Try.prog 42 #[.agg #[.int .i64 X, .int .i64 Y, .bool r, .slice a len cap], .float .f32 by_] w (FieldOut X Y r true len (fun k => fmul .f32 (xs.getD k 0) by_) w) := by
  obtain ⟨X', Y', e1, e2, hX1, hX2, hY1, hY2, hlen⟩ := valid_parts hv
  obtain rfl : X = X' := by omega
  obtain rfl : Y = Y' := by omega
  have hle : X * Y ≤ 16 * 16 := Nat.mul_le_mul hX2 hY2
  have hge : 1 * 1 ≤ X * Y := Nat.mul_le_mul hX1 hY1
  have hl1 : 1 ≤ len := by omega
  have hl2 : len ≤ 256 := by omega
  have HV := Lib.hid hv
  have HL := Lib.hid hlen
  clear hv e1 e2 hlen hle hge
  have K := keep_box w (.cells #[.int .i64 X, .int .i64 Y, .bool r, .slice a len cap] 37)
  have R := FieldRd.mk' w X Y r a len cap xs 37 hs (by omega)
  rcases hs.split with h0 | ⟨b, o, rfl, hb, hc⟩
  · omega
  clear hc hs
  have R2 := R.keep (keep_own _ (.cells #[.int .i64 0, .int .i64 0, .bool false, .slice none 0 0] 37))
  go_enter Try.func42, Try.ntmps42
  go_wp2_with fail
  refine (spec_l02Is _ X Y r _ len cap _ R2.box (by omega)).mono ?_
  rintro e w1 ⟨n1, rfl, rfl⟩
  rw [HV.out]
  have R3 := R2.drewN n1
  obtain ⟨⟨_, c0, c1, c2, c3⟩, hs3, _⟩ := R3
  go_wp2_with fail
  refine (spec_l02New X Y r _).mono ?_
  rintro e w2 ⟨v0, rfl, k2, h2⟩
  have hB := Lib.hid (Going.begin (W := w.alloc (.cells #[.int .i64 X, .int .i64 Y, .bool r, .slice (some ⟨b, o, none⟩) len cap] 37)) X Y r (fun k => fmul .f32 (xs.getD k 0) by_) rfl (keep_trans (keep_drewN (Below.refl _ _) n1) k2) h2)
  obtain ⟨a0, cap0, rfl, _⟩ := h2.value
  have hsz : w.heap.size + 1 < w2.heap.size := Nat.lt_of_lt_of_le (by simp) k2.size
  clear k2 h2 c0 c1 c2 c3 hs3 R2
  generalize hW : w.alloc (.cells #[.int .i64 X, .int .i64 Y, .bool r, .slice (some ⟨b, o, none⟩) len cap] 37) = W at *
  have hWs : W.heap.size = w.heap.size + 1 := by rw [← hW]; simp
  clear hW
  rw [hWs] at hB
  go_wp2
  go_loopw [7] (fun i wr => ∃ k : Nat, k ≤ len ∧ i = .int .i64 k ∧ Going W none (w.heap.size + 1) w2.heap.size X Y r (fun k => fmul .f32 (xs.getD k 0) by_) k wr) (fun i _ => len - (intOf i).toNat)
  case atStart => exact ⟨0, Nat.zero_le _, rfl, hB.out⟩
  case round =>
    obtain ⟨k, hk, rfl, hgo⟩ := hrel
    obtain ⟨v, vs, hC, hn, hv⟩ := hgo
    have R4 := R.keep (below_of_grown hC.grow)
    by_cases hlt : k < len
    · obtain ⟨⟨hb4, c0, c1, c2, c3⟩, hs4, _⟩ := R4
      rcases hs4.split with h0 | ⟨b', o', e, hb5, hc⟩
      · omega
      obtain ⟨rfl, rfl⟩ : b' = b ∧ o' = o := by simpa using e.symm
      have c4 : wr.cell? ⟨b', o' + k, none⟩ = some (.float .f32 (xs.getD k 0)) := hc k hlt
      obtain ⟨el, hel⟩ : ∃ el, xs.getD k 0 = el := ⟨_, rfl⟩
      rw [hel] at c4
      have EL := Lib.hid hel
      have hM := run_afv Try.prog .mul rfl 41 .f32 el by_ wr.drew
      have PV : Hid (Same .f32 (afv .mul .f32 el by_ wr.drew) (fmul .f32 el by_)) := Lib.hid ⟨cn_afv .mul rfl .f32 _ _ _⟩
      generalize afv .mul .f32 el by_ wr.drew = pv at hM PV
      generalize afn .mul .f32 el by_ = pn at hM
      have CC := Lib.hid hC
      have VV := Lib.hid hv
      have NN := Lib.hid hn
      have C3 := Lib.hid ((hC.later (grown_of_below (keep_drewN (Below.refl _ _) (1 + pn))) (fun k e => by cases e)).alloc (.cells #[.float .f32 pv] 41))
      have O3 := Lib.hid (Own.alloc (wr.drewN (1 + pn)) 41 #[.float .f32 pv])
      have small : Hid (vs.length ≤ 1048576) := Lib.hid (by omega)
      have c5 : wr.cell? ⟨w2.heap.size, 3, none⟩ = some v := hC.cell
      have c7 := C3.out.cell
      clear hc hs4 R HV e hel hC hn hv
      go_wp2
      refine wp_region_noPanic ?_
      refine wp_region_held_drew (S := fun w' => w'.cell? ⟨w.heap.size, 3, none⟩ = some (.slice (some ⟨b', o', none⟩) len cap) ∧ w'.cell? ⟨b', o' + k, none⟩ = some (.float .f32 el)) (by kernel_rfl) ⟨c3, c4⟩ (fun hHeld => ?_)
      refine wpAnyH_take (i := 0) (v := ?_) rfl (by kernel_rfl) (by kernel_rfl) (by kernel_rfl) (fun _ _ _ h => h) (Or.inl ⟨by rfl, ?_⟩) hHeld ?_
      rotate_left
      · intro w0 hSw; (try dsimp only at hSw); go_simp; try with_reducible rfl
      try simp only [Act.put, List.setIfInBounds_toArray, List.set_cons_zero, List.set_cons_succ]
      refine wpAnyH_take (i := 2) (v := ?_) rfl (by kernel_rfl) (by kernel_rfl) (by kernel_rfl) (fun _ _ _ h => h) (Or.inl ⟨by rfl, ?_⟩) hHeld ?_
      rotate_left
      · intro w0 hSw; (try dsimp only at hSw); go_simp; try with_reducible rfl
      try simp only [Act.put, List.setIfInBounds_toArray, List.set_cons_zero, List.set_cons_succ]
      refine wpAnyH_take (i := 3) (v := ?_) rfl (by kernel_rfl) (by kernel_rfl) (by kernel_rfl) (fun _ _ _ h => h) (Or.inl ⟨by rfl, ?_⟩) hHeld ?_
      rotate_left
      · intro w0 hSw; (try dsimp only at hSw); go_simp; try with_reducible rfl
      try simp only [Act.put, List.setIfInBounds_toArray, List.set_cons_zero, List.set_cons_succ]
      refine wpAnyH_take (i := 4) (v := ?_) rfl (by kernel_rfl) (by kernel_rfl) (by kernel_rfl) (fun _ _ _ h => h) (Or.inl ⟨by rfl, ?_⟩) hHeld ?_
      rotate_left
      · intro w0 hSw; (try dsimp only at hSw); go_simp; try with_reducible rfl
      try simp only [Act.put, List.setIfInBounds_toArray, List.set_cons_zero, List.set_cons_succ]
      refine wpAnyH_take (i := 5) (v := ?_) rfl (by kernel_rfl) (by kernel_rfl) (by kernel_rfl) (fun _ _ _ h => h) (Or.inl ⟨by rfl, ?_⟩) hHeld ?_
      rotate_left
      · intro w0 hSw; (try dsimp only at hSw); go_simp; try with_reducible rfl
      try simp only [Act.put, List.setIfInBounds_toArray, List.set_cons_zero, List.set_cons_succ]
      refine wpAnyH_take (i := 6) (v := ?_) rfl (by kernel_rfl) (by kernel_rfl) (by kernel_rfl) (fun _ _ _ h => h) (Or.inl ⟨by rfl, ?_⟩) hHeld ?_
      rotate_left
      · intro w0 hSw; (try dsimp only at hSw); go_simp; try with_reducible rfl
      try simp only [Act.put, List.setIfInBounds_toArray, List.set_cons_zero, List.set_cons_succ]
      refine wpAnyH_take (i := 7) (v := ?_) rfl (by kernel_rfl) (by kernel_rfl) (by kernel_rfl) (fun _ _ _ h => h) (Or.inl ⟨by rfl, ?_⟩) hHeld ?_
      rotate_left
      · intro w0 hSw; (try dsimp only at hSw); go_simp; try with_reducible rfl
      try simp only [Act.put, List.setIfInBounds_toArray, List.set_cons_zero, List.set_cons_succ]
      refine wpAnyH_ready (rs := [1, 8]) (by kernel_rfl) (by simp) ?_
      refine AllReadyH.cons rfl (fun K hK => ?_) (AllReadyH.cons rfl (fun K hK => ?_) AllReadyH.nil)
      · go_simp
        refine hK.out _ _ hHeld (fun hHeld => ?_)
        clear hK K
        try simp only [Act.put, List.setIfInBounds_toArray, List.set_cons_zero, List.set_cons_succ]
        refine wpAnyH_ready (rs := [8]) (by kernel_rfl) (by simp) ?_
        refine AllReadyH.cons rfl (fun K hK => ?_) AllReadyH.nil
        go_simp
        refine hK.out _ _ (by first | exact hHeld | go_keep) (fun hHeld => ?_)
        clear hK K
        try simp only [Act.put, List.setIfInBounds_toArray, List.set_cons_zero, List.set_cons_succ]
        refine wpAnyH_ready (rs := [9]) (by kernel_rfl) (by simp) ?_
        refine AllReadyH.cons rfl (fun K hK => ?_) AllReadyH.nil
        go_simp
        refine hK.out _ _ (by first | exact hHeld | go_keep) (fun hHeld => ?_)
        clear hK K
        try simp only [Act.put, List.setIfInBounds_toArray, List.set_cons_zero, List.set_cons_succ]
        refine wpAnyH_ready (rs := [10]) (by kernel_rfl) (by simp) ?_
        refine AllReadyH.cons rfl (fun K hK => ?_) AllReadyH.nil
        refine step_push (w := (wr.drewN (1 + pn)).alloc (.cells #[.float .f32 pv] 41)) (by rfl) (.tmp 26) (.tmp 34) (by rfl) C3.out pv wr.heap.size 1 (by rfl) (by rfl) O3.out small.out ?_
        intro g cp w3 g3 o3 c6 f5 C4
        refine hK.out _ _ ⟨(o3 w.heap.size 3 (by omega)).trans (by go_keep), (o3 b' (o' + k) (by omega)).trans (by go_keep)⟩ (fun hHeld => ?_)
        clear hK K
        try simp only [Act.put, List.setIfInBounds_toArray, List.set_cons_zero, List.set_cons_succ]
        refine wpAnyH_take (i := 11) (v := ?_) rfl (by kernel_rfl) (by kernel_rfl) (by kernel_rfl) (fun _ _ _ h => h) (Or.inl ⟨by rfl, ?_⟩) hHeld ?_
        rotate_left
        · intro w0 hSw; (try dsimp only at hSw); go_simp; try with_reducible rfl
        try simp only [Act.put, List.setIfInBounds_toArray, List.set_cons_zero, List.set_cons_succ]
        refine wpAnyH_ready (rs := [12]) (by kernel_rfl) (by simp) ?_
        refine AllReadyH.cons rfl (fun K hK => ?_) AllReadyH.nil
        go_simp
        refine hK.out _ _ ⟨(World.cell?_setCell_far _ _ _ _ (by show w2.heap.size ≠ w.heap.size; omega)).trans hHeld.1, (World.cell?_setCell_far _ _ _ _ (by show w2.heap.size ≠ b'; omega)).trans hHeld.2⟩ (fun hHeld => ?_)
        clear hK K
        try simp only [Act.put, List.setIfInBounds_toArray, List.set_cons_zero, List.set_cons_succ]
        refine wpAnyH_done (by kernel_rfl) ?_ _
        refine NoPanic.normal ?_
        have C5 := Lib.hid C4
        clear C4 c3 c6 c5 f5 C3 O3 c0 c1 c2 c4 c7 o3 hHeld hM
        go_wp2
        go_roundw
        case rel => exact ⟨k + 1, by omega, by go_num, ⟨_, _, C5.out, by simp [NN.out], same_snoc NN.out VV.out (by rw [EL.out]; exact PV.out)⟩⟩
        case measure => simp [intOf]; omega
      · go_simp
        refine hK.out _ _ (by first | exact hHeld | go_keep) (fun hHeld => ?_)
        clear hK K
        try simp only [Act.put, List.setIfInBounds_toArray, List.set_cons_zero, List.set_cons_succ]
        refine wpAnyH_ready (rs := [1, 9]) (by kernel_rfl) (by simp) ?_
        refine AllReadyH.cons rfl (fun K hK => ?_) (AllReadyH.cons rfl (fun K hK => ?_) AllReadyH.nil)
        · go_simp
          refine hK.out _ _ hHeld (fun hHeld => ?_)
          clear hK K
          try simp only [Act.put, List.setIfInBounds_toArray, List.set_cons_zero, List.set_cons_succ]
          refine wpAnyH_ready (rs := [9]) (by kernel_rfl) (by simp) ?_
          refine AllReadyH.cons rfl (fun K hK => ?_) AllReadyH.nil
          go_simp
          refine hK.out _ _ (by first | exact hHeld | go_keep) (fun hHeld => ?_)
          clear hK K
          try simp only [Act.put, List.setIfInBounds_toArray, List.set_cons_zero, List.set_cons_succ]
          refine wpAnyH_ready (rs := [10]) (by kernel_rfl) (by simp) ?_
          refine AllReadyH.cons rfl (fun K hK => ?_) AllReadyH.nil
          refine step_push (w := (wr.drewN (1 + pn)).alloc (.cells #[.float .f32 pv] 41)) (by rfl) (.tmp 26) (.tmp 34) (by rfl) C3.out pv wr.heap.size 1 (by rfl) (by rfl) O3.out small.out ?_
          intro g cp w3 g3 o3 c6 f5 C4
          refine hK.out _ _ ⟨(o3 w.heap.size 3 (by omega)).trans (by go_keep), (o3 b' (o' + k) (by omega)).trans (by go_keep)⟩ (fun hHeld => ?_)
          clear hK K
          try simp only [Act.put, List.setIfInBounds_toArray, List.set_cons_zero, List.set_cons_succ]
          refine wpAnyH_take (i := 11) (v := ?_) rfl (by kernel_rfl) (by kernel_rfl) (by kernel_rfl) (fun _ _ _ h => h) (Or.inl ⟨by rfl, ?_⟩) hHeld ?_
          rotate_left
          · intro w0 hSw; (try dsimp only at hSw); go_simp; try with_reducible rfl
          try simp only [Act.put, List.setIfInBounds_toArray, List.set_cons_zero, List.set_cons_succ]
          refine wpAnyH_ready (rs := [12]) (by kernel_rfl) (by simp) ?_
          refine AllReadyH.cons rfl (fun K hK => ?_) AllReadyH.nil
          go_simp
          refine hK.out _ _ ⟨(World.cell?_setCell_far _ _ _ _ (by show w2.heap.size ≠ w.heap.size; omega)).trans hHeld.1, (World.cell?_setCell_far _ _ _ _ (by show w2.heap.size ≠ b'; omega)).trans hHeld.2⟩ (fun hHeld => ?_)
          clear hK K
          try simp only [Act.put, List.setIfInBounds_toArray, List.set_cons_zero, List.set_cons_succ]
          refine wpAnyH_done (by kernel_rfl) ?_ _
          refine NoPanic.normal ?_
          have C5 := Lib.hid C4
          clear C4 c3 c6 c5 f5 C3 O3 c0 c1 c2 c4 c7 o3 hHeld hM
          go_wp2
          go_roundw
          case rel => exact ⟨k + 1, by omega, by go_num, ⟨_, _, C5.out, by simp [NN.out], same_snoc NN.out VV.out (by rw [EL.out]; exact PV.out)⟩⟩
          case measure => simp [intOf]; omega
        · go_simp
          refine hK.out _ _ (by first | exact hHeld | go_keep) (fun hHeld => ?_)
          clear hK K
          try simp only [Act.put, List.setIfInBounds_toArray, List.set_cons_zero, List.set_cons_succ]
          refine wpAnyH_ready (rs := [1]) (by kernel_rfl) (by simp) ?_
          refine AllReadyH.cons rfl (fun K hK => ?_) AllReadyH.nil
          go_simp
          refine hK.out _ _ hHeld (fun hHeld => ?_)
          clear hK K
          try simp only [Act.put, List.setIfInBounds_toArray, List.set_cons_zero, List.set_cons_succ]
          refine wpAnyH_ready (rs := [10]) (by kernel_rfl) (by simp) ?_
          refine AllReadyH.cons rfl (fun K hK => ?_) AllReadyH.nil
          refine step_push (w := (wr.drewN (1 + pn)).alloc (.cells #[.float .f32 pv] 41)) (by rfl) (.tmp 26) (.tmp 34) (by rfl) C3.out pv wr.heap.size 1 (by rfl) (by rfl) O3.out small.out ?_
          intro g cp w3 g3 o3 c6 f5 C4
          refine hK.out _ _ ⟨(o3 w.heap.size 3 (by omega)).trans (by go_keep), (o3 b' (o' + k) (by omega)).trans (by go_keep)⟩ (fun hHeld => ?_)
          clear hK K
          try simp only [Act.put, List.setIfInBounds_toArray, List.set_cons_zero, List.set_cons_succ]
          refine wpAnyH_take (i := 11) (v := ?_) rfl (by kernel_rfl) (by kernel_rfl) (by kernel_rfl) (fun _ _ _ h => h) (Or.inl ⟨by rfl, ?_⟩) hHeld ?_
          rotate_left
          · intro w0 hSw; (try dsimp only at hSw); go_simp; try with_reducible rfl
          try simp only [Act.put, List.setIfInBounds_toArray, List.set_cons_zero, List.set_cons_succ]
          refine wpAnyH_ready (rs := [12]) (by kernel_rfl) (by simp) ?_
          refine AllReadyH.cons rfl (fun K hK => ?_) AllReadyH.nil
          go_simp
          refine hK.out _ _ ⟨(World.cell?_setCell_far _ _ _ _ (by show w2.heap.size ≠ w.heap.size; omega)).trans hHeld.1, (World.cell?_setCell_far _ _ _ _ (by show w2.heap.size ≠ b'; omega)).trans hHeld.2⟩ (fun hHeld => ?_)
          clear hK K
          try simp only [Act.put, List.setIfInBounds_toArray, List.set_cons_zero, List.set_cons_succ]
          refine wpAnyH_done (by kernel_rfl) ?_ _
          refine NoPanic.normal ?_
          have C5 := Lib.hid C4
          clear C4 c3 c6 c5 f5 C3 O3 c0 c1 c2 c4 c7 o3 hHeld hM
          go_wp2
          go_roundw
          case rel => exact ⟨k + 1, by omega, by go_num, ⟨_, _, C5.out, by simp [NN.out], same_snoc NN.out VV.out (by rw [EL.out]; exact PV.out)⟩⟩
          case measure => simp [intOf]; omega
    · have hk2 : k = len := by omega
      subst hk2
      obtain ⟨a1, ln, cp, v1, e, c0, c1, c2, c3, d0, d1, d2, d3, f0, f1, f2, f3, hfin⟩ := Going.result ⟨v, vs, hC, hn, hv⟩ (fun k e => by cases e)
      have HF := Lib.hid hfin
      obtain ⟨⟨_, b0, b1, b2, b3⟩, _, _⟩ := R4
      clear hfin hC hn hv
      subst e
      go_wp2
      obtain ⟨⟨v2, vs2, e2, g2, h2, hn2, hv2⟩, g1, _⟩ := HF.out _ rfl
      simp only [Ending.returned.injEq, Value.agg.injEq, Array.mk.injEq, List.cons.injEq, and_true, true_and] at e2
      subst e2
      refine bodyPost_ret (v := .tuple #[.agg #[.int .i64 X, .int .i64 Y, .bool r, .slice a1 ln cp], .bool true]) ?_ rfl
        (FieldOut.yes (keep_trans K (below_of_grown g1)) (h2.base (by omega)) hn2 hv2)
      simp [results, Try.results42, go_sem, *]

set_option maxHeartbeats 1000000 in
theorem spec_ScaleField_no (x y : Int) (r : Bool) (a : Option Addr) (len cap : Nat) (by_ : Nat) (V : Nat → Nat) (w : World) (hl : len ≤ 9223372036854775807) (hv : validB x y len = false) :
    Calls Try.prog 42 #[.agg #[.int .i64 x, .int .i64 y, .bool r, .slice a len cap], .float .f32 by_] w (FieldOut 0 0 false false 0 V w) := by
  have HV := Lib.hid hv
  clear hv
  have K := keep_trans (keep_own w (.cells #[.int .i64 x, .int .i64 y, .bool r, .slice a len cap] 37)) (keep_own _ (.cells #[.int .i64 0, .int .i64 0, .bool false, .slice none 0 0] 37))
  have R := (box_at w x y r (.slice a len cap) 37).keep (keep_own _ (.cells #[.int .i64 0, .int .i64 0, .bool false, .slice none 0 0] 37))
  go_enter Try.func42, Try.ntmps42
  go_wp2_with fail
  refine (spec_l02Is _ x y r a len cap _ R hl).mono ?_
  rintro e w1 ⟨n1, rfl, rfl⟩
  rw [HV.out]
  have HK := Lib.hid (keep_drewN K n1)
  clear K R
  go_wp2
  refine bodyPost_ret (v := .tuple #[.agg #[.int .i64 0, .int .i64 0, .bool false, .slice none 0 0], .bool false]) ?_ rfl (FieldOut.no _ _ _ (below_res4 HK.out (by omega) _ _ _ _))
  simp [results, Try.results42, go_sem, *]

set_option maxHeartbeats 1000000 in
theorem impl_ScaleField_no (x y : Int) (r : Bool) (a : Option Addr) (len cap : Nat) (by_ : Nat) (V : Nat → Nat) (w : World) (hl : len ≤ 9223372036854775807) (hv : validB x y len = false) :
    Calls Try.prog 43 #[.agg #[.int .i64 x, .int .i64 y, .bool r, .slice a len cap], .float .f32 by_] w (FieldOut 0 0 false false 0 V w) := by
  have HV := Lib.hid hv
  clear hv
  have K0 := keep_trans (keep_trans (keep_own w (.cells #[.int .i64 x, .int .i64 y, .bool r, .slice a len cap] 37)) (keep_own _ (.cells #[.float .f32 by_] 41))) (keep_own _ (.cells #[.int .i64 0, .int .i64 0, .bool false, .slice none 0 0] 37))
  have Z0 : Own (((w.alloc (.cells #[.int .i64 x, .int .i64 y, .bool r, .slice a len cap] 37)).alloc (.cells #[.float .f32 by_] 41)).alloc (.cells #[.int .i64 0, .int .i64 0, .bool false, .slice none 0 0] 37)) (w.heap.size + 1 + 1) 37 #[.int .i64 0, .int .i64 0, .bool false, .slice none 0 0] := by
    simpa using Own.alloc ((w.alloc (.cells #[.int .i64 x, .int .i64 y, .bool r, .slice a len cap] 37)).alloc (.cells #[.float .f32 by_] 41)) 37 #[.int .i64 0, .int .i64 0, .bool false, .slice none 0 0]
  go_enter Try.func43, Try.ntmps43
  go_wp2_with fail
  refine (impl_ValidField x y r a len cap _ hl).mono ?_
  rintro e w1 ⟨rfl, k1⟩
  rw [HV.out]
  have K1 := keep_trans K0 k1
  obtain ⟨d0, d1, d2, d3, f0, f1, f2, f3⟩ := (Z0.below k1 Z0.lt).zero4
  have HK := Lib.hid K1
  clear K0 Z0 k1 K1
  go_wp2
  refine bodyPost_ret (v := .tuple #[.agg #[.int .i64 0, .int .i64 0, .bool false, .slice none 0 0], .bool false]) ?_ rfl (FieldOut.no _ _ _ (below_res4 HK.out (by omega) _ _ _ _))
  simp [results, Try.results43, go_sem, *]

end Go.Proofs.Ytbcocjakpnhmaaa
