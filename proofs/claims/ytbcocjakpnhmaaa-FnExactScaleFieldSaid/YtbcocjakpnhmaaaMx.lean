/- each, and the program's MirrorField. Under no condition. -/
import Derived.Test.YtbcocjakpnhmaaaMv
namespace Go.Proofs.Ytbcocjakpnhmaaa
open Go Go.RowKit
set_option linter.unusedVariables false
set_option linter.unusedSimpArgs false

set_option maxHeartbeats 1000000 in
theorem impl_each (X Y : Nat) (r : Bool) (s : Value) (cf : FuncId) (caps : Array Value) (V : Nat → Nat) (w : World) (hen : Enters Try.prog cf) (hX : X ≤ 16) (hY : Y ≤ 16)
    (hcl : ∀ (xx yy : Nat) (w1 : World), xx < X → yy < Y → Below w.heap.size w w1 →
      Calls Try.prog cf (#[.int .i64 xx, .int .i64 yy] ++ caps) w1 fun e w2 => ∃ b, e = .returned (.float .f32 b) ∧ Same .f32 b (V (xx + X * yy)) ∧ Below w1.heap.size w1 w2) :
    Calls Try.prog 71 #[.agg #[.int .i64 X, .int .i64 Y, .bool r, s], .func (.func cf) #[] caps] w (FieldMade X Y r (X * Y) V w none) := by
  have HC := Lib.hid hcl
  have HE := Lib.hid hen
  clear hcl hen
  have K0 := keep_trans (keep_own w (.cells #[.int .i64 X, .int .i64 Y, .bool r, s] 37)) (keep_own _ (.cells #[.int .i64 0, .int .i64 0, .bool false, .slice none 0 0] 37))
  have Z0 : Own ((w.alloc (.cells #[.int .i64 X, .int .i64 Y, .bool r, s] 37)).alloc (.cells #[.int .i64 0, .int .i64 0, .bool false, .slice none 0 0] 37)) (w.heap.size + 1) 37 #[.int .i64 0, .int .i64 0, .bool false, .slice none 0 0] := by
    simpa using Own.alloc (w.alloc (.cells #[.int .i64 X, .int .i64 Y, .bool r, s] 37)) 37 #[.int .i64 0, .int .i64 0, .bool false, .slice none 0 0]
  have hz := Z0.lt
  have HZ := Lib.hid Z0
  have HK := Lib.hid K0
  clear Z0 K0
  go_enter Try.func71, Try.ntmps71
  go_wp2_with fail
  refine (impl_made X Y r cf caps V none (fun _ _ => True) _ HE.out hX hY (fun k e => by cases e) trivial (fun _ _ _ _ _ _ _ => trivial) ?_).mono ?_
  · intro xx yy w2 hxx hyy g _
    refine (HC.out xx yy w2 hxx hyy (keep_trans HK.out (below_of_grown g))).mono ?_
    rintro e w3 ⟨b, rfl, hb, k3⟩
    exact ⟨_, rfl, hb, grown_of_below k3, trivial⟩
  rintro e w2 ⟨⟨v, vs, rfl, g, h, hn, hv⟩, _⟩
  have k := below_of_grown g
  obtain ⟨d0, d1, d2, d3, f0, f1, f2, f3⟩ := (HZ.out.below k hz).zero4
  obtain ⟨a1, cp, rfl, _⟩ := h.value
  have HH := Lib.hid h
  have HK2 := Lib.hid (keep_trans HK.out k)
  clear g h k HK
  go_wp2
  refine bodyPost_ret (v := .agg #[.int .i64 X, .int .i64 Y, .bool r, .slice a1 vs.length cp]) (by simp [results, Try.results71, go_sem, *]) rfl
    ⟨_, _, rfl, grown_of_below (below_res4 HK2.out (by omega) _ _ _ _), (FOwn.res4 (W := w) HH.out (by first | (simp; done) | (simp; omega)) _ _ _ _).base (by first | (simp; done) | (simp; omega)), hn, hv⟩

theorem mirIx_at {X xx yy : Nat} (hx : xx < X) : mirIx X (xx + X * yy) = (X - 1 - xx) + X * yy := by
  unfold mirIx
  rw [Nat.add_mul_div_left _ _ (by omega), Nat.add_mul_mod_self_left, Nat.div_eq_of_lt hx, Nat.mod_eq_of_lt hx, Nat.zero_add]

theorem mirror_fn (X Y : Nat) (r : Bool) (a : Option Addr) (len cap : Nat) (xs : List Nat) (xx yy fb : Nat) (w : World) (h : FieldRd w fb X Y r a len cap xs) (hX : X ≤ 16) (hY : Y ≤ 16) (hl : len = X * Y) (hx : xx < X) (hy : yy < Y) :
    Calls Try.prog 72 #[.int .i64 xx, .int .i64 yy, .pointer (some ⟨fb, 0, none⟩)] w fun e w' => e = .returned (.float .f32 (xs.getD (mirIx X (xx + X * yy)) 0)) ∧ Below w.heap.size w w' := by
  rw [mirIx_at hx]
  have hlt := index_lt (X := X) (Y := Y) (x := X - 1 - xx) (y := yy) (by omega) hy hl
  obtain ⟨s, hs1, hs2⟩ : ∃ s : Nat, s = X - 1 - xx ∧ (X : Int) - 1 - (xx : Int) = (s : Int) := ⟨X - 1 - xx, rfl, by omega⟩
  rw [← hs1] at hlt ⊢
  obtain ⟨⟨_, c0, c1, c2, c3⟩, hs, hsm⟩ := h
  have hsX : s ≤ 16 := by omega
  have hw0 : IntKind.i64.wrap ((X : Int) - 1) = (X : Int) - 1 := wrap_small (by omega) (by omega)
  have hw1 : IntKind.i64.wrap (s : Int) = (s : Int) := wrap_small (by omega) (by omega)
  clear hl hs1
  go_enter Try.func72, Try.ntmps72
  go_wp2_with fail
  refine (impl_at X Y r a len cap xs s yy _ hs hX (by omega) (by omega) hlt hsm).mono ?_
  rintro e w1 ⟨rfl, k⟩
  go_wp2
  go_ret
  exact ⟨rfl, k⟩

set_option maxHeartbeats 1000000 in
theorem impl_MirrorField_yes (X Y : Nat) (r : Bool) (a : Option Addr) (len cap : Nat) (xs : List Nat) (w : World) (hs : Holds w a len (fvals .f32 xs)) (hv : validB X Y len = true) :
    Calls Try.prog 41 #[.agg #[.int .i64 X, .int .i64 Y, .bool r, .slice a len cap]] w (FieldOut X Y r true len (fun k => xs.getD (mirIx X k) 0) w) := by
  have hmf : ∀ (fn : Fn) (first cap : Array Value) (w : World), (Instr.makeFunc fn first cap).run Try.prog w = .ok (.func fn first cap) w := fun _ _ _ _ => rfl
  obtain ⟨X', Y', e1, e2, hX1, hX2, hY1, hY2, hlen⟩ := valid_parts hv
  obtain rfl : X = X' := by omega
  obtain rfl : Y = Y' := by omega
  have hle : X * Y ≤ 16 * 16 := Nat.mul_le_mul hX2 hY2
  have hl2 : len ≤ 256 := by omega
  have HV := Lib.hid hv
  have HL := Lib.hid hlen
  clear hv e1 e2 hlen hle
  have R0 := (FieldRd.mk' w X Y r a len cap xs 37 hs (by omega)).keep (keep_own _ (.cells #[.int .i64 0, .int .i64 0, .bool false, .slice none 0 0] 37))
  have K0 := keep_trans (keep_own w (.cells #[.int .i64 X, .int .i64 Y, .bool r, .slice a len cap] 37)) (keep_own _ (.cells #[.int .i64 0, .int .i64 0, .bool false, .slice none 0 0] 37))
  have Z0 : Own ((w.alloc (.cells #[.int .i64 X, .int .i64 Y, .bool r, .slice a len cap] 37)).alloc (.cells #[.int .i64 0, .int .i64 0, .bool false, .slice none 0 0] 37)) (w.heap.size + 1) 37 #[.int .i64 0, .int .i64 0, .bool false, .slice none 0 0] := by
    simpa using Own.alloc (w.alloc (.cells #[.int .i64 X, .int .i64 Y, .bool r, .slice a len cap] 37)) 37 #[.int .i64 0, .int .i64 0, .bool false, .slice none 0 0]
  clear hs
  go_enter Try.func41, Try.ntmps41
  go_wp2_with fail
  refine (impl_ValidField X Y r a len cap _ (by omega)).mono ?_
  rintro e w1 ⟨rfl, k1⟩
  rw [HV.out]
  have R1 := R0.keep k1
  have K1 := keep_trans K0 k1
  have Z1 := Z0.below k1 Z0.lt
  clear R0 K0 Z0 k1
  have R1' := R1
  obtain ⟨⟨_, c0, c1, c2, c3⟩, _, _⟩ := R1'
  have hz := Z1.lt
  have HR := Lib.hid R1
  have HZ := Lib.hid Z1
  have HK := Lib.hid K1
  clear R1 K1 Z1 HV
  go_wp2_with fail
  refine (impl_each X Y r (.slice a len cap) 72 #[.pointer (some ⟨w.heap.size, 0, none⟩)] (fun k => xs.getD (mirIx X k) 0) _ (enters_of Try.func72 (by kernel_rfl) rfl) hX2 hY2 ?_).mono ?_
  · intro xx yy w2 hxx hyy g
    refine (mirror_fn X Y r a len cap xs xx yy w.heap.size w2 (HR.out.keep g) hX2 hY2 HL.out hxx hyy).mono ?_
    rintro e w3 ⟨rfl, k3⟩
    exact ⟨_, rfl, Same.refl _ _, k3⟩
  rw [← HL.out]
  rintro e w2 ⟨v, vs, rfl, g, h, hn, hv⟩
  have k := below_of_grown g
  obtain ⟨d0, d1, d2, d3, f0, f1, f2, f3⟩ := (HZ.out.below k hz).zero4
  obtain ⟨a1, cp, rfl, _⟩ := h.value
  have HH := Lib.hid h
  have HK2 := Lib.hid (keep_trans HK.out k)
  clear g h k HK c0 c1 c2 c3
  go_wp2
  refine bodyPost_ret (v := .tuple #[.agg #[.int .i64 X, .int .i64 Y, .bool r, .slice a1 vs.length cp], .bool true]) (by simp [results, Try.results41, go_sem, *]) rfl
    (FieldOut.yes (below_res4 HK2.out (by omega) _ _ _ _) ((FOwn.res4 (W := w) HH.out (by omega) _ _ _ _).base (by omega)) hn hv)


end Go.Proofs.Ytbcocjakpnhmaaa
