/- The law on FnExactPutValue, walked. Under no condition. -/
import Derived.Test.YtbcocjakpnhmaaaPx
import Derived.Test.YtbcocjakpnhmaaaLm
namespace Go.Proofs.Ytbcocjakpnhmaaa
open Go Go.RowKit
set_option linter.unusedVariables false
set_option linter.unusedSimpArgs false

set_option maxHeartbeats 8000000 in
theorem core_FnExactPutValue (x1 y1 : Int) (r1 ok : Bool) (n : Nat) (V : Nat → Nat) (x y : Int) (rb : Bool) (a : Option Addr) (len cap : Nat) (xs : List Nat) (ap aq : Int) (ab : Nat) (hn : n ≤ 1048576) (h20 : len ≤ 1048576) (hlen : xs.length = len)
    (hspec : ∀ (a : Option Addr) (cap : Nat) (w : World), Holds w a len (fvals .f32 xs) → Calls Try.prog 44 #[.agg #[.int .i64 x, .int .i64 y, .bool rb, .slice a len cap], .int .i64 ap, .int .i64 aq, .float .f32 ab] w (FieldOut x1 y1 r1 ok n V w))
    (himpl : ∀ (a : Option Addr) (cap : Nat) (w : World), Holds w a len (fvals .f32 xs) → Calls Try.prog 45 #[.agg #[.int .i64 x, .int .i64 y, .bool rb, .slice a len cap], .int .i64 ap, .int .i64 aq, .float .f32 ab] w (FieldOut x1 y1 r1 ok n V w)) (w : World) (hs : Holds w a len (fvals .f32 xs)) :
    Calls Try.prog 13 #[.agg #[.int .i64 x, .int .i64 y, .bool rb, .slice a len cap], .int .i64 ap, .int .i64 aq, .float .f32 ab] w fun e w' => e = .returned (.bool true) ∧ Below w.heap.size w w' := by
  have e1 : (ok != ok) = false := by simp
  have hleft := left_pos h20
  have hcap2 : len ≤ 9223372036854775807 := by omega
  have HS := Lib.hid hspec
  have HI := Lib.hid himpl
  have HL := Lib.hid hlen
  clear hspec himpl hlen
  have K := keep_alloc w (.cells #[.int .i64 x, .int .i64 y, .bool rb, .slice a len cap] 34)
  have A := box_in w x y rb (.slice a len cap) 34
  replace hs := hs.keep K
  go_enter Try.func13, Try.ntmps13
  go_wp2_with fail
  refine (laws_szField x y rb a len cap _ hcap2).mono ?_
  rintro e w1 ⟨rfl, k1⟩
  rw [hleft]
  clear hleft
  replace hs := hs.keep k1
  replace A := A.keep k1
  replace K := keep_trans K k1
  clear k1
  have c' := A
  obtain ⟨_, p0, p1, p2, p3⟩ := c'
  go_wp2_with fail
  refine (laws_toField x y rb a len cap xs _ hs h20).mono ?_
  rintro e w2 ⟨B2, cur2, rfl, k2, hB2, o2, z2, q2⟩
  have h2 := o2.holds q2
  replace hs := hs.keep k2
  replace A := A.keep k2
  replace K := keep_trans K k2
  clear p0 p1 p2 p3 k2 o2 z2 q2
  go_wp2_with fail
  refine (HS.out _ _ _ h2).mono ?_
  rintro e w3 ⟨v0, vs0, rfl, k3, F0, n0, s0⟩
  obtain ⟨a0, c0, rfl, h0⟩ := F0.at n0
  have Z0 := Lib.hid s0
  have kb := keep_own w3 (.cells #[.int .i64 x1, .int .i64 y1, .bool r1, .slice a0 n c0] 37)
  have W := box_in w3 x1 y1 r1 (.slice a0 n c0) 37
  replace hs := (hs.keep k3).keep kb
  replace A := (A.keep k3).keep kb
  replace K := keep_trans (keep_trans K k3) kb
  replace h0 := h0.keep kb
  clear k3 kb F0 s0 h2
  have c' := A
  obtain ⟨_, p0, p1, p2, p3⟩ := c'
  go_wp2_with fail
  generalize w3.alloc (.cells #[.int .i64 x1, .int .i64 y1, .bool r1, .slice a0 n c0] 37) = C at *
  generalize w3.heap.size = bW at *
  have KC := Below.refl C.heap.size C
  refine (laws_toField x y rb a len cap xs _ hs h20).mono ?_
  rintro e w4 ⟨B4, cur4, rfl, k4, hB4, o4, z4, q4⟩
  have F4 := FOwn.of_copy hB4 o4 z4 q4 HL.out h20
  have h4 := o4.holds q4
  have b4 := o4.lt
  have kb := keep_own w4 (.cells #[.int .i64 x, .int .i64 y, .bool rb, .slice (some ⟨B4, 0, none⟩) len len] 37)
  have X := box_in w4 x y rb (.slice (some ⟨B4, 0, none⟩) len len) 37
  replace KC := keep_trans (keep_trans KC k4) kb
  replace F4 := F4.keep kb
  replace h4 := h4.keep kb
  clear p0 p1 p2 p3 k4 kb o4 z4 q4
  have c' := X
  obtain ⟨_, p0, p1, p2, p3⟩ := c'
  go_wp2_with fail
  refine (HI.out _ _ _ h4).mono ?_
  rintro e w6 ⟨v1, vs1, rfl, k6, F1, n1, s1⟩
  obtain ⟨a1, c1, rfl, h1⟩ := F1.at n1
  have Z1 := Lib.hid s1
  have hne := F1.lt
  have b6 := k6.size
  have kb := keep_own w6 (.cells #[.int .i64 x1, .int .i64 y1, .bool r1, .slice a1 n c1] 37)
  have G := box_in w6 x1 y1 r1 (.slice a1 n c1) 37
  replace KC := keep_trans (keep_trans KC k6) kb
  replace F4 := (F4.keep k6).keep kb
  replace X := (X.keep k6).keep kb
  replace F1 := F1.keep kb
  replace h1 := h1.keep kb
  clear p0 p1 p2 p3 k6 kb s1 h4
  have c' := W.keep KC
  obtain ⟨_, p0, p1, p2, p3⟩ := c'
  have c' := G
  obtain ⟨_, g0, g1, g2, g3⟩ := c'
  go_wp2_with fail
  refine (laws_eqField x1 y1 r1 _ _ n _ _ vs1 vs0 _ h1 (h0.keep KC) hn (fun i hi => (Z1.out i hi).trans (Z0.out i hi).symm)).mono ?_
  rintro e w8 ⟨rfl, k8⟩
  replace KC := keep_trans KC k8
  replace F4 := F4.keep k8
  replace X := X.keep k8
  replace F1 := F1.keep k8
  replace G := G.keep k8
  clear p0 p1 p2 p3 g0 g1 g2 g3 k8 h1
  simp only [size_alloc'] at b6 hne
  have c' := A.keep KC
  obtain ⟨_, p0, p1, p2, p3⟩ := c'
  have c' := X
  obtain ⟨_, u0, u1, u2, u3⟩ := c'
  go_wp2_with fail
  go_region_with (first
    | (go_at_call 24; refine (laws_toField x y rb a len cap xs _ ((hs.keep KC).drewN 1) h20).mono ?_; rintro e w9 ⟨B9, cur9, rfl, k9, hB9, o9, z9, q9⟩; obtain ⟨_, t0, t1, t2, t3⟩ := (X.drewN 1).keep k9)
    | (go_at_call 26; refine (laws_eqField x y rb _ _ len _ _ xs xs _ (by have h := ((F4.drewN 1).keep k9).holds; rwa [HL.out] at h) (o9.holds q9) h20 (fun i _ => Same.refl _ _)).mono ?_; rintro e w10 ⟨rfl, k10⟩))
  all_goals
    replace KC := keep_trans (keep_trans (keep_drewN KC 1) k9) k10
    replace F4 := ((F4.drewN 1).keep k9).keep k10
    replace X := ((X.drewN 1).keep k9).keep k10
    replace F1 := ((F1.drewN 1).keep k9).keep k10
    replace G := ((G.drewN 1).keep k9).keep k10
    clear p0 p1 p2 p3 u0 u1 u2 u3 t0 t1 t2 t3 k9 k10 o9 z9 q9
    have c' := X
    obtain ⟨_, p0, p1, p2, p3⟩ := c'
    go_wp2_with fail
    refine (laws_markField x y rb C.heap.size _ xs 1 _ F4 (by rw [HL.out]; exact h20) (by omega) (by omega) KC.size).mono ?_
    rw [HL.out]
    rintro e w11 ⟨rfl, g11, M4⟩
    rw [own_block] at g11
    replace KC := below_grown KC g11 (fun k e => by simp at e; omega)
    replace G := G.grown g11 (fun e => by simp at e; omega)
    replace F1 := F1.other g11 (by
      cases e : (Value.slice a1 n c1).ownBlock with
      | none => exact .inl rfl
      | some k => exact .inr (fun e2 => by have := (hne k e).1; simp at e2; omega))
    have h1 := F1.holds
    rw [n1] at h1
    clear p0 p1 p2 p3 F4 X g11 M4
    have c' := W.keep KC
    obtain ⟨_, p0, p1, p2, p3⟩ := c'
    have c' := G
    obtain ⟨_, g0, g1, g2, g3⟩ := c'
    go_wp2_with fail
    refine (laws_eqField x1 y1 r1 _ _ n _ _ vs1 vs0 _ h1 (h0.keep KC) hn (fun i hi => (Z1.out i hi).trans (Z0.out i hi).symm)).mono ?_
    rintro e w12 ⟨rfl, k12⟩
    replace KC := keep_trans KC k12
    replace F1 := F1.keep k12
    replace G := G.keep k12
    clear p0 p1 p2 p3 g0 g1 g2 g3 k12 h1
    have c' := G
    obtain ⟨_, g0, g1, g2, g3⟩ := c'
    go_wp2_with fail
    refine (laws_markField x1 y1 r1 _ _ vs1 1 _ F1 (by rw [n1]; exact hn) (by omega) (by omega) (by have := KC.size; have := G.lt; simp only [size_alloc']; omega)).mono ?_
    rw [n1]
    rintro e w13 ⟨rfl, g13, M1⟩
    have hC4 : C.heap.size ≤ w4.heap.size := by omega
    replace KC := below_grown KC g13 (fun k e => by have := (hne k e).1; omega)
    replace G := G.grown g13 (fun e => by have := (hne _ e).2; omega)
    have h1 := M1.holds
    rw [marks_length] at h1
    clear F1 g0 g1 g2 g3 g13
    have c' := G
    obtain ⟨_, g0, g1, g2, g3⟩ := c'
    go_wp2_with fail
    refine (laws_heldField x1 y1 r1 a1 n c1 1 _ h1 hn (by omega) (by omega)).mono ?_
    rintro e w14 ⟨rfl, k14⟩
    replace KC := keep_trans KC k14
    replace G := G.keep k14
    replace h1 := h1.keep k14
    clear g0 g1 g2 g3 k14
    have c' := A.keep KC
    obtain ⟨_, p0, p1, p2, p3⟩ := c'
    go_wp2_with fail
    refine (laws_toField x y rb a len cap xs _ (hs.keep KC) h20).mono ?_
    rintro e w15 ⟨B15, cur15, rfl, k15, hB15, o15, z15, q15⟩
    have h15 := o15.holds q15
    replace KC := keep_trans KC k15
    replace G := G.keep k15
    replace h1 := h1.keep k15
    clear p0 p1 p2 p3 k15 o15 z15 q15
    go_wp2_with fail
    refine (HI.out _ _ _ h15).mono ?_
    rintro e w16 ⟨v2, vs2, rfl, k16, F2, n2, s2⟩
    obtain ⟨a2, c2, rfl, h2⟩ := F2.at n2
    have Z2 := Lib.hid s2
    have kb := keep_own w16 (.cells #[.int .i64 x1, .int .i64 y1, .bool r1, .slice a2 n c2] 37)
    have D := box_in w16 x1 y1 r1 (.slice a2 n c2) 37
    replace KC := keep_trans (keep_trans KC k16) kb
    replace G := (G.keep k16).keep kb
    replace h1 := (h1.keep k16).keep kb
    replace h2 := h2.keep kb
    clear k16 kb F2 s2 h15
    have c' := W.keep KC
    obtain ⟨_, p0, p1, p2, p3⟩ := c'
    have c' := D
    obtain ⟨_, d0, d1, d2, d3⟩ := c'
    go_wp2_with fail
    refine (laws_eqField x1 y1 r1 _ _ n _ _ vs2 vs0 _ h2 (h0.keep KC) hn (fun i hi => (Z2.out i hi).trans (Z0.out i hi).symm)).mono ?_
    rintro e w17 ⟨rfl, k17⟩
    replace KC := keep_trans KC k17
    replace G := G.keep k17
    replace h1 := h1.keep k17
    clear p0 p1 p2 p3 d0 d1 d2 d3 h2 k17
    have c' := G
    obtain ⟨_, g0, g1, g2, g3⟩ := c'
    go_wp2_with fail
    refine (laws_heldField x1 y1 r1 a1 n c1 1 _ h1 hn (by omega) (by omega)).mono ?_
    rintro e w18 ⟨rfl, k18⟩
    replace KC := keep_trans KC k18
    clear g0 g1 g2 g3 k18
    go_wp2
    go_ret
    exact ⟨rfl, keep_trans K KC⟩

theorem walk_FnExactPutValue (x y : Int) (rb : Bool) (a : Option Addr) (len cap : Nat) (xs : List Nat) (ap aq : Int) (ab : Nat) (w : World) (hrow : FRow .f32 w a len cap xs) (_ : (Lit.int .i64 ap).wf = true) (_ : (Lit.int .i64 aq).wf = true) (_ : (Lit.float .f32 ab).wf = true) :
    Calls Try.prog 13 #[.agg #[.int .i64 x, .int .i64 y, .bool rb, .slice a len cap], .int .i64 ap, .int .i64 aq, .float .f32 ab] w fun e w' => e = .returned (.bool true) ∧ Below w.heap.size w w' := by
  obtain ⟨hs, hlen, hcap, hmax, hfit⟩ := hrow
  have hcap2 : len ≤ 9223372036854775807 := by unfold maxLen at hmax; omega
  by_cases h20 : len ≤ 1048576
  · cases hv : validB x y len with
    | true =>
      obtain ⟨X, Y, rfl, rfl, _⟩ := valid_parts hv
      cases hp : putB X Y len ap aq with
      | true =>
        obtain ⟨X', Y', A, B, e1, e2, rfl, rfl, _, hA, hB⟩ := put_parts hp
        obtain rfl : X = X' := by omega
        obtain rfl : Y = Y' := by omega
        exact core_FnExactPutValue X Y rb true len (fun k => (xs.set (A + X * B) ab).getD k 0) X Y rb a len cap xs A B ab h20 h20 hlen (fun a cap w h => spec_PutValue_yes X Y A B rb a len cap xs ab w h hlen hv hA hB) (fun a cap w h => impl_PutValue_yes X Y A B rb a len cap xs ab w h hlen hv hA hB) w hs
      | false => exact core_FnExactPutValue 0 0 false false 0 (fun _ => 0) X Y rb a len cap xs ap aq ab (by omega) h20 hlen (fun a cap w h => spec_PutValue_no X Y ap aq rb a len cap ab _ w hcap2 hp) (fun a cap w h => impl_PutValue_no X Y ap aq rb a len cap ab _ w hcap2 hp) w hs
    | false =>
      exact core_FnExactPutValue 0 0 false false 0 (fun _ => 0) x y rb a len cap xs ap aq ab (by omega) h20 hlen (fun a cap w h => spec_PutValue_no x y ap aq rb a len cap ab _ w hcap2 (by simp [putB, hv])) (fun a cap w h => impl_PutValue_no x y ap aq rb a len cap ab _ w hcap2 (by simp [putB, hv])) w hs
  · have hleft := left_neg (Nat.not_le.1 h20)
    clear hlen hcap hmax hfit hs
    go_enter Try.func13, Try.ntmps13
    go_wp2_with (first | (go_at_call 22; refine (laws_szField x y rb a len cap _ hcap2).mono ?_; rintro e w1 ⟨rfl, k1⟩; rw [hleft]))
    go_ret
    exact ⟨rfl, keep_trans ((Below.refl w.heap.size w).alloc (Nat.le_refl _) _) k1⟩

end Go.Proofs.Ytbcocjakpnhmaaa
