/- PutValue: the reference's and the program's. Under no condition. -/
import Derived.Test.YtbcocjakpnhmaaaPw
namespace Go.Proofs.Ytbcocjakpnhmaaa
open Go Go.RowKit
set_option linter.unusedVariables false
set_option linter.unusedSimpArgs false

def putB (x y : Int) (len : Nat) (px py : Int) : Bool := validB x y len && inB px 0 (x - 1) && inB py 0 (y - 1)
theorem same_set {vs xs : List Nat} {n i val : Nat} (hl : vs.length = xs.length) (hv : ∀ k, k < n → Same .f32 (vs.getD k 0) (xs.getD k 0)) : ∀ k, k < n → Same .f32 ((vs.set i val).getD k 0) ((xs.set i val).getD k 0) := by
  intro k hk
  by_cases e : i = k
  · subst e
    by_cases h1 : i < vs.length
    · have h2 : i < xs.length := by omega
      simpa [List.getD, h1, h2] using Same.refl _ _
    · have h2 : ¬ i < xs.length := by omega
      simpa [List.getD, h1, h2] using Same.refl _ _
  · have := hv k hk
    simpa [List.getD, List.getElem?_set_ne e] using this
theorem own_row (B l c : Nat) : (Value.slice (some ⟨B, 0, none⟩) l c).ownBlock = some B := rfl
theorem put_parts {x y : Int} {len : Nat} {px py : Int} (h : putB x y len px py = true) : ∃ X Y A B : Nat, x = X ∧ y = Y ∧ px = A ∧ py = B ∧ validB X Y len = true ∧ A < X ∧ B < Y := by
  simp only [putB, Bool.and_eq_true] at h
  obtain ⟨⟨h1, h2⟩, h3⟩ := h
  obtain ⟨X, Y, rfl, rfl, _⟩ := valid_parts h1
  have g2 : (0 : Int) ≤ px ∧ px ≤ (X : Int) - 1 := by simpa [inB] using h2
  have g3 : (0 : Int) ≤ py ∧ py ≤ (Y : Int) - 1 := by simpa [inB] using h3
  exact ⟨X, Y, px.toNat, py.toNat, rfl, rfl, by omega, by omega, h1, by omega, by omega⟩

set_option maxHeartbeats 2000000 in
theorem spec_PutValue_yes (X Y A B : Nat) (r : Bool) (a : Option Addr) (len cap : Nat) (xs : List Nat) (val : Nat) (w : World) (hs : Holds w a len (fvals .f32 xs)) (hl : xs.length = len) (hv : validB X Y len = true) (hA : A < X) (hB : B < Y) :
    Calls Try.prog 44 #[.agg #[.int .i64 X, .int .i64 Y, .bool r, .slice a len cap], .int .i64 A, .int .i64 B, .float .f32 val] w (FieldOut X Y r true len (fun k => (xs.set (A + X * B) val).getD k 0) w) := by
  obtain ⟨X', Y', e1, e2, hX1, hX2, hY1, hY2, hlen⟩ := valid_parts hv
  obtain rfl : X = X' := by omega
  obtain rfl : Y = Y' := by omega
  have hlt := index_lt (X := X) (Y := Y) (x := A) (y := B) hA hB hlen
  have hle : X * Y ≤ 16 * 16 := Nat.mul_le_mul hX2 hY2
  have hl2 : len ≤ 256 := by omega
  have hB1 : Hid (inB (A : Int) 0 ((X : Int) - 1) = true) := Lib.hid (by simp [inB]; omega)
  have hB2 : Hid (inB (B : Int) 0 ((Y : Int) - 1) = true) := Lib.hid (by simp [inB]; omega)
  have hw1 : IntKind.i64.wrap ((X : Int) - 1) = (X : Int) - 1 := wrap_small (by omega) (by omega)
  have hw2 : IntKind.i64.wrap ((Y : Int) - 1) = (Y : Int) - 1 := wrap_small (by omega) (by omega)
  obtain ⟨p, hp, hpb⟩ : ∃ p : Nat, p = X * B ∧ p ≤ 16 * 16 := ⟨X * B, rfl, Nat.mul_le_mul hX2 (by omega)⟩
  have hmul : (X : Int) * (B : Int) = (p : Int) := by rw [hp]; simp
  rw [← hp] at hlt ⊢
  have hw3 : IntKind.i64.wrap ((A : Int) + (p : Int)) = (A : Int) + (p : Int) := wrap_small (by omega) (by omega)
  have hw4 : IntKind.i64.wrap (p : Int) = (p : Int) := wrap_small (by omega) (by omega)
  have hnat : ((A : Int) + (p : Int)).toNat = A + p := by omega
  have hi0 : (0 : Int) ≤ (A : Int) + (p : Int) := by omega
  have hi1 : (A : Int) + (p : Int) < (len : Int) := by omega
  have hl0 : Hid (0 < len) := Lib.hid (by omega)
  have HV := Lib.hid hv
  have HL := Lib.hid hl
  clear hv e1 e2 hlen hle hp hl
  have K0 := keep_trans (keep_own w (.cells #[.int .i64 X, .int .i64 Y, .bool r, .slice a len cap] 37)) (keep_own _ (.cells #[.int .i64 0, .int .i64 0, .bool false, .slice none 0 0] 37))
  have R2 := (FieldRd.mk' w X Y r a len cap xs 37 hs (by omega)).keep (keep_own _ (.cells #[.int .i64 0, .int .i64 0, .bool false, .slice none 0 0] 37))
  have Z0 := Own.alloc (w.alloc (.cells #[.int .i64 X, .int .i64 Y, .bool r, .slice a len cap] 37)) 37 #[.int .i64 0, .int .i64 0, .bool false, .slice none 0 0]
  have eS : (w.alloc (.cells #[.int .i64 X, .int .i64 Y, .bool r, .slice a len cap] 37)).heap.size = w.heap.size + 1 := by simp
  have eS2 : ((w.alloc (.cells #[.int .i64 X, .int .i64 Y, .bool r, .slice a len cap] 37)).alloc (.cells #[.int .i64 0, .int .i64 0, .bool false, .slice none 0 0] 37)).heap.size = w.heap.size + 1 + 1 := by simp
  rw [eS] at Z0
  clear hs
  go_enter Try.func44, Try.ntmps44
  go_wp2_with fail
  refine (spec_l02Is _ X Y r _ len cap _ R2.box (by omega)).mono ?_
  rintro e w1 ⟨n1, rfl, rfl⟩
  rw [HV.out]
  have R3 := R2.drewN n1
  have Z1 := Z0.drewN n1
  have K1 := keep_drewN K0 n1
  have eW : (((w.alloc (.cells #[.int .i64 X, .int .i64 Y, .bool r, .slice a len cap] 37)).alloc (.cells #[.int .i64 0, .int .i64 0, .bool false, .slice none 0 0] 37)).drewN n1).heap.size = w.heap.size + 1 + 1 := eS2
  clear R2 Z0 K0 eS eS2
  generalize ((w.alloc (.cells #[.int .i64 X, .int .i64 Y, .bool r, .slice a len cap] 37)).alloc (.cells #[.int .i64 0, .int .i64 0, .bool false, .slice none 0 0] 37)).drewN n1 = W1 at *
  have R3' := R3
  obtain ⟨⟨_, c0, c1, c2, c3⟩, _, _⟩ := R3'
  have HR := Lib.hid R3
  have HZ := Lib.hid Z1
  have HK := Lib.hid K1
  clear R3 Z1 K1
  go_wp2_with fail
  refine (spec_l00In _ _ _ _).mono ?_
  rintro e w' ⟨rfl, rfl⟩
  rw [hB1.out]
  go_wp2_with fail
  refine (spec_l00In _ _ _ _).mono ?_
  rintro e w' ⟨rfl, rfl⟩
  rw [hB2.out]
  go_wp2_with fail
  refine (spec_l02Own X Y r a len cap xs w.heap.size _ HR.out HL.out hl0.out hl2).mono ?_
  rintro e w2 ⟨v, vs, rfl, g, h, hn, hv2⟩
  obtain ⟨gb, cp, rfl⟩ := h.at_block' hn hl0.out
  have k2 := below_of_grown g
  have s2 := g.size
  rw [eW] at h s2
  obtain ⟨q0, qf, hgb, hgb2⟩ := h.spot' hn (i := A + p) hlt
  have h3 := Lib.hid ((h.keep (keep_own w2 (.cells #[.int .i64 X, .int .i64 Y, .bool r, .slice (some ⟨gb, 0, none⟩) len cp] 37))).put' hn (i := A + p) hlt val)
  obtain ⟨u0, uf, _, _⟩ := (h.keep (keep_own w2 (.cells #[.int .i64 X, .int .i64 Y, .bool r, .slice (some ⟨gb, 0, none⟩) len cp] 37))).spot' hn (i := A + p) hlt
  have R4 := Lib.hid ((HR.out.keep k2).keep (keep_own w2 (.cells #[.int .i64 X, .int .i64 Y, .bool r, .slice (some ⟨gb, 0, none⟩) len cp] 37)))
  have Z4 := (HZ.out.below k2 (by omega)).alloc_later (.cells #[.int .i64 X, .int .i64 Y, .bool r, .slice (some ⟨gb, 0, none⟩) len cp] 37)
  have K4 := keep_trans (keep_trans HK.out k2) (keep_own w2 (.cells #[.int .i64 X, .int .i64 Y, .bool r, .slice (some ⟨gb, 0, none⟩) len cp] 37))
  have ob := Own.alloc w2 37 #[.int .i64 X, .int .i64 Y, .bool r, .slice (some ⟨gb, 0, none⟩) len cp]
  have hg1 : gb ≠ w2.heap.size := by omega
  have hg2 : gb ≠ w.heap.size + 1 := by omega
  have hg3 : gb ≠ w.heap.size := by omega
  have c' := R4.out
  obtain ⟨⟨_, t0, t1, t2, t3⟩, _, _⟩ := c'
  have Z5 := Lib.hid (Z4.other (a := ⟨gb, A + p, none⟩) hg2 (.float .f32 val))
  have O5 := Lib.hid (ob.other (a := ⟨gb, A + p, none⟩) hg1 (.float .f32 val))
  have K5 : Hid (Below w.heap.size w ((w2.alloc (.cells #[.int .i64 X, .int .i64 Y, .bool r, .slice (some ⟨gb, 0, none⟩) len cp] 37)).setCell ⟨gb, A + p, none⟩ (.float .f32 val))) := Lib.hid (K4.setCell (by show w.heap.size ≤ gb; omega) _)
  have hv3 := Lib.hid hv2
  have hn3 := Lib.hid hn
  have hl3 : Hid (vs.length = xs.length) := Lib.hid (by rw [hn, HL.out])
  clear hn hv2 h k2 g Z4 K4 ob hgb hgb2 c0 c1 c2 c3 q0 qf HR HZ HK R4
  obtain ⟨d0, d1, d2, d3, f0, f1, f2, f3⟩ := Z5.out.zero4
  have o0 := O5.out.cell 0
  have o1 := O5.out.cell 1
  have o2 := O5.out.cell 2
  have o3 := O5.out.cell 3
  simp only [List.getElem?_toArray, List.getElem?_cons_zero, List.getElem?_cons_succ] at o0 o1 o2 o3
  go_wp2
  refine bodyPost_ret (v := .tuple #[.agg #[.int .i64 X, .int .i64 Y, .bool r, .slice (some ⟨gb, 0, none⟩) len cp], .bool true]) (by simp [results, Try.results44, go_sem, *]) rfl
    (FieldOut.yes (below_res4 K5.out (by omega) _ _ _ _) ((FOwn.res4 (W := w) h3.out (by omega) _ _ _ _).base (by omega)) (by simp [hn3.out]) (same_set hl3.out hv3.out))

set_option maxHeartbeats 2000000 in
theorem impl_PutValue_yes (X Y A B : Nat) (r : Bool) (a : Option Addr) (len cap : Nat) (xs : List Nat) (val : Nat) (w : World) (hs : Holds w a len (fvals .f32 xs)) (hl : xs.length = len) (hv : validB X Y len = true) (hA : A < X) (hB : B < Y) :
    Calls Try.prog 45 #[.agg #[.int .i64 X, .int .i64 Y, .bool r, .slice a len cap], .int .i64 A, .int .i64 B, .float .f32 val] w (FieldOut X Y r true len (fun k => (xs.set (A + X * B) val).getD k 0) w) := by
  obtain ⟨X', Y', e1, e2, hX1, hX2, hY1, hY2, hlen⟩ := valid_parts hv
  obtain rfl : X = X' := by omega
  obtain rfl : Y = Y' := by omega
  have hlt := index_lt (X := X) (Y := Y) (x := A) (y := B) hA hB hlen
  have hle : X * Y ≤ 16 * 16 := Nat.mul_le_mul hX2 hY2
  have hl2 : len ≤ 256 := by omega
  have hB1 : Hid (inB (A : Int) 0 ((X : Int) - 1) = true) := Lib.hid (by simp [inB]; omega)
  have hB2 : Hid (inB (B : Int) 0 ((Y : Int) - 1) = true) := Lib.hid (by simp [inB]; omega)
  have hw1 : IntKind.i64.wrap ((X : Int) - 1) = (X : Int) - 1 := wrap_small (by omega) (by omega)
  have hw2 : IntKind.i64.wrap ((Y : Int) - 1) = (Y : Int) - 1 := wrap_small (by omega) (by omega)
  obtain ⟨p, hp, hpb⟩ : ∃ p : Nat, p = X * B ∧ p ≤ 16 * 16 := ⟨X * B, rfl, Nat.mul_le_mul hX2 (by omega)⟩
  have hmul : (X : Int) * (B : Int) = (p : Int) := by rw [hp]; simp
  rw [← hp] at hlt ⊢
  have hw3 : IntKind.i64.wrap ((A : Int) + (p : Int)) = (A : Int) + (p : Int) := wrap_small (by omega) (by omega)
  have hw4 : IntKind.i64.wrap (p : Int) = (p : Int) := wrap_small (by omega) (by omega)
  have hnat : ((A : Int) + (p : Int)).toNat = A + p := by omega
  have hi0 : (0 : Int) ≤ (A : Int) + (p : Int) := by omega
  have hi1 : (A : Int) + (p : Int) < (len : Int) := by omega
  have hl0 : Hid (0 < len) := Lib.hid (by omega)
  have HV := Lib.hid hv
  have HL := Lib.hid hl
  clear hv e1 e2 hlen hle hp hl
  rcases hs.split with h0 | ⟨b, o, rfl, hb, hc⟩
  · omega
  clear hc
  have K0 := keep_trans (keep_own w (.cells #[.int .i64 X, .int .i64 Y, .bool r, .slice (some ⟨b, o, none⟩) len cap] 37)) (keep_own _ (.cells #[.int .i64 0, .int .i64 0, .bool false, .slice none 0 0] 37))
  have B0 := (Own.alloc w 37 #[.int .i64 X, .int .i64 Y, .bool r, .slice (some ⟨b, o, none⟩) len cap]).alloc_later (.cells #[.int .i64 0, .int .i64 0, .bool false, .slice none 0 0] 37)
  have Z0 := Own.alloc (w.alloc (.cells #[.int .i64 X, .int .i64 Y, .bool r, .slice (some ⟨b, o, none⟩) len cap] 37)) 37 #[.int .i64 0, .int .i64 0, .bool false, .slice none 0 0]
  have eS : (w.alloc (.cells #[.int .i64 X, .int .i64 Y, .bool r, .slice (some ⟨b, o, none⟩) len cap] 37)).heap.size = w.heap.size + 1 := by simp
  have eS2 : ((w.alloc (.cells #[.int .i64 X, .int .i64 Y, .bool r, .slice (some ⟨b, o, none⟩) len cap] 37)).alloc (.cells #[.int .i64 0, .int .i64 0, .bool false, .slice none 0 0] 37)).heap.size = w.heap.size + 1 + 1 := by simp
  rw [eS] at Z0
  go_enter Try.func45, Try.ntmps45
  go_wp2_with fail
  refine (impl_ValidField X Y r _ len cap _ (by omega)).mono ?_
  rintro e w1 ⟨rfl, k1⟩
  rw [HV.out]
  have s1 := k1.size
  rw [eS2] at s1
  have K1 := keep_trans K0 k1
  have B1 := B0.below k1 (by omega)
  have Z1 := Z0.below k1 (by omega)
  have HS := Lib.hid (hs.keep K1)
  clear K0 Z0 B0 eS eS2 k1 hs
  have b0 := B1.cell 0
  have b1 := B1.cell 1
  have b2 := B1.cell 2
  have b3 := B1.cell 3
  simp only [List.getElem?_toArray, List.getElem?_cons_zero, List.getElem?_cons_succ] at b0 b1 b2 b3
  have HB := Lib.hid B1
  have HZ := Lib.hid Z1
  have HK := Lib.hid K1
  clear B1 Z1 K1
  go_wp2_with fail
  refine (impl_within _ _ _ _).mono ?_
  rintro e w' ⟨rfl, rfl⟩
  rw [hB1.out]
  go_wp2_with fail
  refine (impl_within _ _ _ _).mono ?_
  rintro e w' ⟨rfl, rfl⟩
  rw [hB2.out]
  go_wp2_with fail
  refine (slices_Clone b o len cap xs _ HS.out HL.out hl0.out (by omega)).mono ?_
  rintro e w2 ⟨gb, cp, rfl, k2, h⟩
  have s2 := k2.size
  obtain ⟨q0, qf, hgb, hgb2⟩ := h.spot' HL.out (i := A + p) hlt
  have B2 := HB.out.below k2 HB.out.lt
  have Z2 := HZ.out.below k2 HZ.out.lt
  have K2 := keep_trans HK.out k2
  have hg2 : gb ≠ w.heap.size + 1 := by omega
  have hg3 : gb ≠ w.heap.size := by omega
  have f33 := B2.frozen 3
  have b33 := B2.cell 3
  simp only [List.getElem?_toArray, List.getElem?_cons_zero, List.getElem?_cons_succ] at b33
  have hw12 : w.heap.size ≠ w.heap.size + 1 := by omega
  have B3 : Own (w2.setCell ⟨w.heap.size, 3, none⟩ (.slice (some ⟨gb, 0, none⟩) len cp)) w.heap.size 37 #[.int .i64 X, .int .i64 Y, .bool r, .slice (some ⟨gb, 0, none⟩) len cp] := by simpa using B2.set 3 (.slice (some ⟨gb, 0, none⟩) len cp)
  have Z3 := Z2.other (a := ⟨w.heap.size, 3, none⟩) hw12 (.slice (some ⟨gb, 0, none⟩) len cp)
  have K3 : Below w.heap.size w (w2.setCell ⟨w.heap.size, 3, none⟩ (.slice (some ⟨gb, 0, none⟩) len cp)) := K2.setCell (by show w.heap.size ≤ w.heap.size; omega) _
  have h3 := h.other (grown_setCell (grown_refl w2 (some w.heap.size)) ⟨w.heap.size, 3, none⟩ (.slice (some ⟨gb, 0, none⟩) len cp) (.inr rfl)) (.inr (by rw [own_row]; intro e; simp at e; omega))
  generalize hw3 : w2.setCell ⟨w.heap.size, 3, none⟩ (.slice (some ⟨gb, 0, none⟩) len cp) = w3 at *
  obtain ⟨u0, uf, _, _⟩ := h3.spot' HL.out (i := A + p) hlt
  have h4 := Lib.hid (h3.put' HL.out (i := A + p) hlt val)
  have r0 := B3.cell 0
  have r1 := B3.cell 1
  have r2 := B3.cell 2
  have r3 := B3.cell 3
  simp only [List.getElem?_toArray, List.getElem?_cons_zero, List.getElem?_cons_succ] at r0 r1 r2 r3
  have B4 := Lib.hid (B3.other (a := ⟨gb, A + p, none⟩) hg3 (.float .f32 val))
  have Z4 := Lib.hid (Z3.other (a := ⟨gb, A + p, none⟩) hg2 (.float .f32 val))
  have K4 : Hid (Below w.heap.size w (w3.setCell ⟨gb, A + p, none⟩ (.float .f32 val))) := Lib.hid (K3.setCell (by show w.heap.size ≤ gb; omega) _)
  obtain ⟨d0, d1, d2, d3, f0, f1, f2, f3⟩ := Z4.out.zero4
  have o0 := B4.out.cell 0
  have o1 := B4.out.cell 1
  have o2 := B4.out.cell 2
  have o3 := B4.out.cell 3
  simp only [List.getElem?_toArray, List.getElem?_cons_zero, List.getElem?_cons_succ] at o0 o1 o2 o3
  have hlset : Hid ((xs.set (A + p) val).length = len) := Lib.hid (by simp [HL.out])
  clear b0 b1 b2 b3 h k2 B2 Z2 K2 B3 Z3 K3 h3 q0 qf HB HZ HK HS
  go_wp2
  refine bodyPost_ret (v := .tuple #[.agg #[.int .i64 X, .int .i64 Y, .bool r, .slice (some ⟨gb, 0, none⟩) len cp], .bool true]) (by simp [results, Try.results45, go_sem, *]) rfl
    (FieldOut.yes (below_res4 K4.out (by omega) _ _ _ _) ((FOwn.res4 (W := w) h4.out (by omega) _ _ _ _).base (by omega)) hlset.out (fun k hk => Same.refl _ _))

set_option maxHeartbeats 2000000 in
theorem spec_PutValue_no (x y A B : Int) (r : Bool) (a : Option Addr) (len cap val : Nat) (V : Nat → Nat) (w : World) (hl : len ≤ 9223372036854775807) (hp : putB x y len A B = false) :
    Calls Try.prog 44 #[.agg #[.int .i64 x, .int .i64 y, .bool r, .slice a len cap], .int .i64 A, .int .i64 B, .float .f32 val] w (FieldOut 0 0 false false 0 V w) := by
  have K0 := keep_trans (keep_own w (.cells #[.int .i64 x, .int .i64 y, .bool r, .slice a len cap] 37)) (keep_own _ (.cells #[.int .i64 0, .int .i64 0, .bool false, .slice none 0 0] 37))
  have eS : (w.alloc (.cells #[.int .i64 x, .int .i64 y, .bool r, .slice a len cap] 37)).heap.size = w.heap.size + 1 := by simp
  have R0 := (box_at w x y r (.slice a len cap) 37).keep (keep_own _ (.cells #[.int .i64 0, .int .i64 0, .bool false, .slice none 0 0] 37))
  have Z0 := Own.alloc (w.alloc (.cells #[.int .i64 x, .int .i64 y, .bool r, .slice a len cap] 37)) 37 #[.int .i64 0, .int .i64 0, .bool false, .slice none 0 0]
  rw [eS] at Z0
  clear eS
  go_enter Try.func44, Try.ntmps44
  go_wp2_with fail
  refine (spec_l02Is _ x y r a len cap _ R0 hl).mono ?_
  rintro e w1 ⟨n1, rfl, rfl⟩
  have K1 := keep_drewN K0 n1
  have R1 := R0.drewN n1
  have Z1 := Z0.drewN n1
  clear K0 R0 Z0
  generalize ((w.alloc (.cells #[.int .i64 x, .int .i64 y, .bool r, .slice a len cap] 37)).alloc (.cells #[.int .i64 0, .int .i64 0, .bool false, .slice none 0 0] 37)).drewN n1 = w1 at *
  obtain ⟨d0, d1, d2, d3, f0, f1, f2, f3⟩ := Z1.zero4
  have HK := Lib.hid K1
  obtain ⟨_, c0, c1, c2, c3⟩ := R1
  clear K1 Z1
  cases hv : validB x y len with
  | true =>
    obtain ⟨X, Y, rfl, rfl, hX1, hX2, hY1, hY2, _⟩ := valid_parts hv
    have hw1 : IntKind.i64.wrap ((X : Int) - 1) = (X : Int) - 1 := wrap_small (by omega) (by omega)
    have hw2 : IntKind.i64.wrap ((Y : Int) - 1) = (Y : Int) - 1 := wrap_small (by omega) (by omega)
    cases hA : inB A 0 ((X : Int) - 1) with
    | true =>
      have hB : Hid (inB B 0 ((Y : Int) - 1) = false) := Lib.hid (by simpa [putB, hv, hA] using hp)
      have HA := Lib.hid hA
      clear hA hv hp
      go_wp2_with fail
      refine (spec_l00In _ _ _ _).mono ?_
      rintro e w' ⟨rfl, rfl⟩
      rw [HA.out]
      go_wp2_with fail
      refine (spec_l00In _ _ _ _).mono ?_
      rintro e w' ⟨rfl, rfl⟩
      rw [hB.out]
      go_wp2
      refine bodyPost_ret (v := .tuple #[.agg #[.int .i64 0, .int .i64 0, .bool false, .slice none 0 0], .bool false]) (by simp [results, Try.results44, go_sem, *]) rfl (FieldOut.no _ _ _ (below_res4 HK.out (by omega) _ _ _ _))
    | false =>
      have HA := Lib.hid hA
      clear hA hv hp
      go_wp2_with fail
      refine (spec_l00In _ _ _ _).mono ?_
      rintro e w' ⟨rfl, rfl⟩
      rw [HA.out]
      go_wp2
      refine bodyPost_ret (v := .tuple #[.agg #[.int .i64 0, .int .i64 0, .bool false, .slice none 0 0], .bool false]) (by simp [results, Try.results44, go_sem, *]) rfl (FieldOut.no _ _ _ (below_res4 HK.out (by omega) _ _ _ _))
  | false =>
    clear hv hp
    go_wp2
    refine bodyPost_ret (v := .tuple #[.agg #[.int .i64 0, .int .i64 0, .bool false, .slice none 0 0], .bool false]) (by simp [results, Try.results44, go_sem, *]) rfl (FieldOut.no _ _ _ (below_res4 HK.out (by omega) _ _ _ _))

set_option maxHeartbeats 2000000 in
theorem impl_PutValue_no (x y A B : Int) (r : Bool) (a : Option Addr) (len cap val : Nat) (V : Nat → Nat) (w : World) (hl : len ≤ 9223372036854775807) (hp : putB x y len A B = false) :
    Calls Try.prog 45 #[.agg #[.int .i64 x, .int .i64 y, .bool r, .slice a len cap], .int .i64 A, .int .i64 B, .float .f32 val] w (FieldOut 0 0 false false 0 V w) := by
  have K0 := keep_trans (keep_own w (.cells #[.int .i64 x, .int .i64 y, .bool r, .slice a len cap] 37)) (keep_own _ (.cells #[.int .i64 0, .int .i64 0, .bool false, .slice none 0 0] 37))
  have eS : (w.alloc (.cells #[.int .i64 x, .int .i64 y, .bool r, .slice a len cap] 37)).heap.size = w.heap.size + 1 := by simp
  have R0 := (box_at w x y r (.slice a len cap) 37).keep (keep_own _ (.cells #[.int .i64 0, .int .i64 0, .bool false, .slice none 0 0] 37))
  have Z0 := Own.alloc (w.alloc (.cells #[.int .i64 x, .int .i64 y, .bool r, .slice a len cap] 37)) 37 #[.int .i64 0, .int .i64 0, .bool false, .slice none 0 0]
  rw [eS] at Z0
  clear eS
  go_enter Try.func45, Try.ntmps45
  go_wp2_with fail
  refine (impl_ValidField x y r a len cap _ hl).mono ?_
  rintro e w1 ⟨rfl, k1⟩
  have K1 := keep_trans K0 k1
  have R1 := R0.keep k1
  have Z1 := Z0.below k1 Z0.lt
  clear K0 R0 Z0 k1
  obtain ⟨d0, d1, d2, d3, f0, f1, f2, f3⟩ := Z1.zero4
  have HK := Lib.hid K1
  obtain ⟨_, c0, c1, c2, c3⟩ := R1
  clear K1 Z1
  cases hv : validB x y len with
  | true =>
    obtain ⟨X, Y, rfl, rfl, hX1, hX2, hY1, hY2, _⟩ := valid_parts hv
    have hw1 : IntKind.i64.wrap ((X : Int) - 1) = (X : Int) - 1 := wrap_small (by omega) (by omega)
    have hw2 : IntKind.i64.wrap ((Y : Int) - 1) = (Y : Int) - 1 := wrap_small (by omega) (by omega)
    cases hA : inB A 0 ((X : Int) - 1) with
    | true =>
      have hB : Hid (inB B 0 ((Y : Int) - 1) = false) := Lib.hid (by simpa [putB, hv, hA] using hp)
      have HA := Lib.hid hA
      clear hA hv hp
      go_wp2_with fail
      refine (impl_within _ _ _ _).mono ?_
      rintro e w' ⟨rfl, rfl⟩
      rw [HA.out]
      go_wp2_with fail
      refine (impl_within _ _ _ _).mono ?_
      rintro e w' ⟨rfl, rfl⟩
      rw [hB.out]
      go_wp2
      refine bodyPost_ret (v := .tuple #[.agg #[.int .i64 0, .int .i64 0, .bool false, .slice none 0 0], .bool false]) (by simp [results, Try.results45, go_sem, *]) rfl (FieldOut.no _ _ _ (below_res4 HK.out (by omega) _ _ _ _))
    | false =>
      have HA := Lib.hid hA
      clear hA hv hp
      go_wp2_with fail
      refine (impl_within _ _ _ _).mono ?_
      rintro e w' ⟨rfl, rfl⟩
      rw [HA.out]
      go_wp2
      refine bodyPost_ret (v := .tuple #[.agg #[.int .i64 0, .int .i64 0, .bool false, .slice none 0 0], .bool false]) (by simp [results, Try.results45, go_sem, *]) rfl (FieldOut.no _ _ _ (below_res4 HK.out (by omega) _ _ _ _))
  | false =>
    clear hv hp
    go_wp2
    refine bodyPost_ret (v := .tuple #[.agg #[.int .i64 0, .int .i64 0, .bool false, .slice none 0 0], .bool false]) (by simp [results, Try.results45, go_sem, *]) rfl (FieldOut.no _ _ _ (below_res4 HK.out (by omega) _ _ _ _))

end Go.Proofs.Ytbcocjakpnhmaaa
