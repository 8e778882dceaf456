/- The program's fields made of a field. Under no condition. -/
import Derived.Test.YtbcocjakpnhmaaaMt
namespace Go.Proofs.Ytbcocjakpnhmaaa
open Go Go.RowKit
set_option linter.unusedVariables false
set_option linter.unusedSimpArgs false

theorem impl_at (X Y : Nat) (r : Bool) (a : Option Addr) (len cap : Nat) (xs : List Nat) (i j : Nat) (w : World) (hs : Holds w a len (fvals .f32 xs)) (hX : X ≤ 16) (hj : j ≤ 16) (hi : i ≤ 16) (hlt : i + X * j < len) (hl : len ≤ 1048576) :
    Calls Try.prog 70 #[.agg #[.int .i64 X, .int .i64 Y, .bool r, .slice a len cap], .int .i64 i, .int .i64 j] w fun e w' => e = .returned (.float .f32 (xs.getD (i + X * j) 0)) ∧ Below w.heap.size w w' := by
  have K := keep_own w (.cells #[.int .i64 X, .int .i64 Y, .bool r, .slice a len cap] 37)
  have hs' := hs.keep K
  obtain ⟨p, hp, hpb⟩ : ∃ p : Nat, p = X * j ∧ p ≤ 16 * 16 := ⟨X * j, rfl, Nat.mul_le_mul hX hj⟩
  have hmul : (X : Int) * (j : Int) = (p : Int) := by rw [hp]; simp
  rw [← hp] at hlt ⊢
  clear hp
  rcases hs'.split with h0 | ⟨b, o, rfl, hb, hc⟩
  · omega
  have c4 := hc _ hlt
  clear hc hs hs'
  generalize hel : fvals .f32 xs (i + p) = el at c4
  have hel2 : el = .float .f32 (xs.getD (i + p) 0) := hel ▸ rfl
  subst hel2
  have hw3 : IntKind.i64.wrap ((i : Int) + (p : Int)) = (i : Int) + (p : Int) := wrap_small (by omega) (by omega)
  have hnat : ((i : Int) + (p : Int)).toNat = i + p := by omega
  clear hel
  generalize xs.getD (i + p) 0 = el at *
  go_enter Try.func70, Try.ntmps70
  go_wp2
  go_ret
  exact ⟨rfl, K⟩

theorem swapIx_at {X Y xx yy : Nat} (hx : xx < Y) : swapIx X Y (xx + Y * yy) = yy + X * xx := by
  unfold swapIx
  rw [Nat.add_mul_div_left _ _ (by omega), Nat.add_mul_mod_self_left, Nat.div_eq_of_lt hx, Nat.mod_eq_of_lt hx, Nat.zero_add]

theorem index_lt {X Y x y len : Nat} (hx : x < X) (hy : y < Y) (hl : len = X * Y) : x + X * y < len := by
  have : X * (y + 1) ≤ X * Y := Nat.mul_le_mul_left _ hy
  rw [Nat.mul_succ] at this
  omega

theorem swap_fn (X Y : Nat) (r : Bool) (a : Option Addr) (len cap : Nat) (xs : List Nat) (xx yy fb : Nat) (w : World) (h : FieldRd w fb X Y r a len cap xs) (hX : X ≤ 16) (hY : Y ≤ 16) (hl : len = X * Y) (hx : xx < Y) (hy : yy < X) :
    Calls Try.prog 69 #[.int .i64 xx, .int .i64 yy, .pointer (some ⟨fb, 0, none⟩)] w fun e w' => e = .returned (.float .f32 (xs.getD (swapIx X Y (xx + Y * yy)) 0)) ∧ Below w.heap.size w w' := by
  rw [swapIx_at hx]
  have hlt := index_lt (X := X) (Y := Y) (x := yy) (y := xx) hy hx hl
  obtain ⟨⟨_, c0, c1, c2, c3⟩, hs, hsm⟩ := h
  clear hl
  go_enter Try.func69, Try.ntmps69
  go_wp2_with fail
  refine (impl_at X Y r a len cap xs yy xx _ hs hX (by omega) (by omega) hlt hsm).mono ?_
  rintro e w1 ⟨rfl, k⟩
  go_wp2
  go_ret
  exact ⟨rfl, k⟩

set_option maxHeartbeats 1000000 in
theorem impl_SwapField_yes (X Y : Nat) (r : Bool) (a : Option Addr) (len cap : Nat) (xs : List Nat) (w : World) (hs : Holds w a len (fvals .f32 xs)) (hv : validB X Y len = true) :
    Calls Try.prog 39 #[.agg #[.int .i64 X, .int .i64 Y, .bool r, .slice a len cap]] w (FieldOut Y X r true len (fun k => xs.getD (swapIx X Y k) 0) w) := by
  have hmf : ∀ (fn : Fn) (first cap : Array Value) (w : World), (Instr.makeFunc fn first cap).run Try.prog w = .ok (.func fn first cap) w := fun _ _ _ _ => rfl
  obtain ⟨X', Y', e1, e2, hX1, hX2, hY1, hY2, hlen⟩ := valid_parts hv
  obtain rfl : X = X' := by omega
  obtain rfl : Y = Y' := by omega
  have hle : X * Y ≤ 16 * 16 := Nat.mul_le_mul hX2 hY2
  have hl2 : len ≤ 256 := by omega
  have HV := Lib.hid hv
  have HL := Lib.hid hlen
  clear hv e1 e2 hlen hle
  have R0 := (FieldRd.mk' w X Y r a len cap xs 37 hs (by omega)).keep (keep_own _ (.cells #[.int .i64 0, .int .i64 0, .bool false, .slice none 0 0] 37))
  have K0 := keep_trans (keep_own w (.cells #[.int .i64 X, .int .i64 Y, .bool r, .slice a len cap] 37)) (keep_own _ (.cells #[.int .i64 0, .int .i64 0, .bool false, .slice none 0 0] 37))
  have Z0 : Own ((w.alloc (.cells #[.int .i64 X, .int .i64 Y, .bool r, .slice a len cap] 37)).alloc (.cells #[.int .i64 0, .int .i64 0, .bool false, .slice none 0 0] 37)) (w.heap.size + 1) 37 #[.int .i64 0, .int .i64 0, .bool false, .slice none 0 0] := by
    simpa using Own.alloc (w.alloc (.cells #[.int .i64 X, .int .i64 Y, .bool r, .slice a len cap] 37)) 37 #[.int .i64 0, .int .i64 0, .bool false, .slice none 0 0]
  clear hs
  go_enter Try.func39, Try.ntmps39
  go_wp2_with fail
  refine (impl_ValidField X Y r a len cap _ (by omega)).mono ?_
  rintro e w1 ⟨rfl, k1⟩
  rw [HV.out]
  have R1 := R0.keep k1
  have K1 := keep_trans K0 k1
  have Z1 := Z0.below k1 Z0.lt
  clear R0 K0 Z0 k1
  have R1' := R1
  obtain ⟨⟨_, c0, c1, c2, c3⟩, _, _⟩ := R1'
  have hz := Z1.lt
  have HR := Lib.hid R1
  have HZ := Lib.hid Z1
  have HK := Lib.hid K1
  clear R1 K1 Z1 HV
  go_wp2_with fail
  refine (impl_made Y X r 69 #[.pointer (some ⟨w.heap.size, 0, none⟩)] (fun k => xs.getD (swapIx X Y k) 0) none (fun _ _ => True) _ (enters_of Try.func69 (by kernel_rfl) rfl) hY2 hX2 (fun k e => by cases e) trivial (fun _ _ _ _ _ _ _ => trivial) ?_).mono ?_
  · intro xx yy w2 hxx hyy g _
    refine (swap_fn X Y r a len cap xs xx yy w.heap.size w2 (HR.out.keep (below_of_grown g)) hX2 hY2 HL.out hxx hyy).mono ?_
    rintro e w3 ⟨rfl, k3⟩
    exact ⟨_, rfl, Same.refl _ _, grown_of_below k3, trivial⟩
  rw [Nat.mul_comm Y X, ← HL.out]
  rintro e w2 ⟨⟨v, vs, rfl, g, h, hn, hv⟩, _⟩
  have k := below_of_grown g
  obtain ⟨d0, d1, d2, d3, f0, f1, f2, f3⟩ := (HZ.out.below k hz).zero4
  obtain ⟨a1, cp, rfl, _⟩ := h.value
  have HH := Lib.hid h
  have HK2 := Lib.hid (keep_trans HK.out k)
  clear g h k HK c0 c1 c2 c3
  go_wp2
  refine bodyPost_ret (v := .tuple #[.agg #[.int .i64 Y, .int .i64 X, .bool r, .slice a1 vs.length cp], .bool true]) (by simp [results, Try.results39, go_sem, *]) rfl
    (FieldOut.yes (below_res4 HK2.out (by omega) _ _ _ _) ((FOwn.res4 (W := w) HH.out (by omega) _ _ _ _).base (by omega)) hn hv)

set_option maxHeartbeats 1000000 in
theorem spec_SwapField_no (x y : Int) (r : Bool) (a : Option Addr) (len cap : Nat) (V : Nat → Nat) (w : World) (hl : len ≤ 9223372036854775807) (hv : validB x y len = false) :
    Calls Try.prog 38 #[.agg #[.int .i64 x, .int .i64 y, .bool r, .slice a len cap]] w (FieldOut 0 0 false false 0 V w) := by
  have HV := Lib.hid hv
  clear hv
  have K := keep_trans (keep_own w (.cells #[.int .i64 x, .int .i64 y, .bool r, .slice a len cap] 37)) (keep_own _ (.cells #[.int .i64 0, .int .i64 0, .bool false, .slice none 0 0] 37))
  have R := (box_at w x y r (.slice a len cap) 37).keep (keep_own _ (.cells #[.int .i64 0, .int .i64 0, .bool false, .slice none 0 0] 37))
  go_enter Try.func38, Try.ntmps38
  go_wp2_with fail
  refine (spec_l02Is _ x y r a len cap _ R hl).mono ?_
  rintro e w1 ⟨n1, rfl, rfl⟩
  rw [HV.out]
  have HK := Lib.hid (keep_drewN K n1)
  clear K R
  go_wp2
  refine bodyPost_ret (v := .tuple #[.agg #[.int .i64 0, .int .i64 0, .bool false, .slice none 0 0], .bool false]) ?_ rfl (FieldOut.no _ _ _ (below_res4 HK.out (by omega) _ _ _ _))
  simp [results, Try.results38, go_sem, *]

set_option maxHeartbeats 1000000 in
theorem impl_SwapField_no (x y : Int) (r : Bool) (a : Option Addr) (len cap : Nat) (V : Nat → Nat) (w : World) (hl : len ≤ 9223372036854775807) (hv : validB x y len = false) :
    Calls Try.prog 39 #[.agg #[.int .i64 x, .int .i64 y, .bool r, .slice a len cap]] w (FieldOut 0 0 false false 0 V w) := by
  have HV := Lib.hid hv
  clear hv
  have K0 := keep_trans (keep_own w (.cells #[.int .i64 x, .int .i64 y, .bool r, .slice a len cap] 37)) (keep_own _ (.cells #[.int .i64 0, .int .i64 0, .bool false, .slice none 0 0] 37))
  have Z0 : Own ((w.alloc (.cells #[.int .i64 x, .int .i64 y, .bool r, .slice a len cap] 37)).alloc (.cells #[.int .i64 0, .int .i64 0, .bool false, .slice none 0 0] 37)) (w.heap.size + 1) 37 #[.int .i64 0, .int .i64 0, .bool false, .slice none 0 0] := by
    simpa using Own.alloc (w.alloc (.cells #[.int .i64 x, .int .i64 y, .bool r, .slice a len cap] 37)) 37 #[.int .i64 0, .int .i64 0, .bool false, .slice none 0 0]
  go_enter Try.func39, Try.ntmps39
  go_wp2_with fail
  refine (impl_ValidField x y r a len cap _ hl).mono ?_
  rintro e w1 ⟨rfl, k1⟩
  rw [HV.out]
  have K1 := keep_trans K0 k1
  obtain ⟨d0, d1, d2, d3, f0, f1, f2, f3⟩ := (Z0.below k1 Z0.lt).zero4
  have HK := Lib.hid K1
  clear K0 Z0 k1 K1
  go_wp2
  refine bodyPost_ret (v := .tuple #[.agg #[.int .i64 0, .int .i64 0, .bool false, .slice none 0 0], .bool false]) ?_ rfl (FieldOut.no _ _ _ (below_res4 HK.out (by omega) _ _ _ _))
  simp [results, Try.results39, go_sem, *]

end Go.Proofs.Ytbcocjakpnhmaaa
