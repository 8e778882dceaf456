/- Contracts on finite and subnormal numbers, bits and roots. Under no condition. -/
import Derived.Test.YtpjhgfeibkldmaaGreatDoorZa
import Derived.Test.YtpjhgfeibkldmaaGreatDoorZb
namespace Go.Proofs.YtpjhgfeibkldmaaGreatDoor
open Go Go.RowKit
set_option linter.unusedVariables false
set_option linter.unusedSimpArgs false
set_option exponentiation.threshold 3000

theorem i64_and_nat (a b : Nat) (ha : a < 9223372036854775808) (hb : b < 9223372036854775808) : bits .and .i64 (a : Int) (b : Int) = ((a &&& b : Nat) : Int) := by
  have hx : a &&& b < 2 ^ 63 := Nat.and_lt_two_pow _ (by omega)
  have e : ∀ n : Nat, n < 2 ^ 63 → (BitVec.ofInt 64 (n : Int)).toNat = n := by
    intro n hn
    rw [BitVec.ofInt_natCast, BitVec.toNat_ofNat]; exact Nat.mod_eq_of_lt (by omega)
  show IntKind.i64.wrap ((BitVec.ofInt 64 (a : Int) &&& BitVec.ofInt 64 (b : Int)).toNat : Int) = _
  rw [BitVec.toNat_and, e a ha, e b hb, IntKind.wrap_i64]
  omega

theorem and_eq (x m : Nat) (hx : x < 2 ^ 32) (hm : m < 2 ^ 32) : bits .and .i64 (x : Int) (m : Int) = ((x &&& m : Nat) : Int) := i64_and_nat x m (by omega) (by omega)

theorem field_zero (x : Nat) (hx : x < 2 ^ 32) : (bits .and .i64 (bitsOf x) 2139095040 == 0) = decide (rung Ieee.single x < 2 ^ 23) := by
  cases hn : isN .f32 x with
  | true =>
    have e : bitsOf x = ((2143289344 : Nat) : Int) := by simp [bitsOf, hn]
    rw [e, show (2139095040 : Int) = ((2139095040 : Nat) : Int) from rfl, and_eq _ _ (by decide) (by decide)]
    rw [isN_eq] at hn
    have h1 : Ieee.single.infRung < rung Ieee.single x := of_decide_eq_true hn
    have h2 : Ieee.single.infRung = 255 * 2 ^ 23 := by decide
    have : ¬ rung Ieee.single x < 2 ^ 23 := by omega
    rw [decide_eq_false this]
    decide
  | false =>
    rw [bitsOf_num hn, show (2139095040 : Int) = ((2139095040 : Nat) : Int) from rfl, and_eq _ _ hx (by decide), Bool.eq_iff_iff, decide_eq_true_eq, ← and_field_zero x hx]
    simp

set_option maxRecDepth 100000 in
theorem spec_l01Finite (x : Nat) (w : World) :
    Calls Tryz.prog 62 #[.float .f32 x] w fun e w' => ∃ n, e = .returned (.bool (finB .f32 x)) ∧ w' = w.drewN n := by
  go_enter Tryz.func62, Tryz.ntmps62
  go_wp2_with (first | (refine wpList_farith rfl _ _ _ _ _ rfl rfl _ _ _ rfl rfl ?_; rintro r n ⟨hr⟩ hl; simp only [fbin] at hr) | (refine wpList_fwid rfl _ _ _ rfl _ rfl (by rw [Tryz.underlying28]; rfl) Tryz.underlying46 ?_; rintro r n ⟨hr⟩ hl))
  go_ret
  exact ⟨_, ret_bool (sub_self_cmp ⟨hr⟩), rfl⟩

set_option maxRecDepth 100000 in
theorem math_IsNaN (x : Nat) (w : World) :
    Calls Tryz.prog 96 #[.float .f64 x] w fun e w' => e = .returned (.bool (isN .f64 x)) ∧ w = w' := by
  have e := Lib.hid (order_self .f64 x)
  go_enter Tryz.func96, Tryz.ntmps96
  go_wp2
  go_ret
  exact ⟨ret_bool e.out, rfl⟩

set_option maxRecDepth 100000 in
theorem math_IsInf0 (x : Nat) (w : World) (hx : x < 2 ^ 64) :
    Calls Tryz.prog 97 #[.float .f64 x, .int .i64 0] w fun e w' => e = .returned (.bool (infB x)) ∧ w = w' := by
  have e := Lib.hid (abs_gtr_max x)
  go_enter Tryz.func97, Tryz.ntmps97
  go_wp2_with (first | (go_at_call 65; refine (math_Abs _ _ hx).mono ?_; rintro e w' ⟨rfl, rfl⟩))
  go_ret
  exact ⟨ret_bool e.out, rfl⟩

set_option maxRecDepth 100000 in
theorem impl_finite (x : Nat) (w : World) (hx : x < 2 ^ 64) :
    Calls Tryz.prog 82 #[.float .f64 x] w fun e w' => e = .returned (.bool (finB .f64 x)) ∧ w = w' := by
  have e := Lib.hid (fin_eq x)
  cases hn : isN .f64 x with
  | true =>
    go_enter Tryz.func82, Tryz.ntmps82
    go_wp2_with (first | (go_at_call 96; refine (math_IsNaN _ _).mono ?_; rintro e w' ⟨rfl, rfl⟩) | (go_at_call 97; refine (math_IsInf0 _ _ hx).mono ?_; rintro e w' ⟨rfl, rfl⟩))
    go_ret
    exact ⟨ret_bool (by rw [e.out, hn]; rfl), rfl⟩
  | false =>
    go_enter Tryz.func82, Tryz.ntmps82
    go_wp2_with (first | (go_at_call 96; refine (math_IsNaN _ _).mono ?_; rintro e w' ⟨rfl, rfl⟩) | (go_at_call 97; refine (math_IsInf0 _ _ hx).mono ?_; rintro e w' ⟨rfl, rfl⟩))
    go_ret
    exact ⟨ret_bool (by rw [e.out, hn]; rfl), rfl⟩

set_option maxRecDepth 100000 in
theorem impl_IsFinite (x : Nat) (w : World) :
    Calls Tryz.prog 61 #[.float .f32 x] w fun e w' => ∃ n, e = .returned (.bool (finB .f32 x)) ∧ w' = w.drewN n := by
  go_enter Tryz.func61, Tryz.ntmps61
  go_wp2_with (first | (refine wpList_farith rfl _ _ _ _ _ rfl rfl _ _ _ rfl rfl ?_; rintro r n ⟨hr⟩ hl; simp only [fbin] at hr) | (refine wpList_fwid rfl _ _ _ rfl _ rfl (by rw [Tryz.underlying28]; rfl) Tryz.underlying46 ?_; rintro r n ⟨hr⟩ hl) | (go_at_call 82; refine (impl_finite _ _ hl).mono ?_; rintro e w' ⟨rfl, rfl⟩))
  go_ret
  exact ⟨_, ret_bool (by rw [Same.finB ⟨hr⟩, wid_finB]), rfl⟩

set_option maxRecDepth 100000 in
theorem impl_IsSubnormal (x : Nat) (w : World) :
    Calls Tryz.prog 33 #[.float .f32 x] w fun e w' => ∃ n, e = .returned (.bool (subB x)) ∧ w' = w.drewN n := by
  have e1 := neq_zero x
  by_cases hz : 0 < rung Ieee.single x
  · rw [decide_eq_true hz] at e1
    have e2 : Hid (subB x = decide (rung Ieee.single x < 2 ^ 23)) := Lib.hid (by unfold subB; rw [decide_eq_decide]; exact ⟨fun h => h.2, fun h => ⟨hz, h⟩⟩)
    go_enter Tryz.func33, Tryz.ntmps33
    go_wp2_with (first | (refine wpList_farith rfl _ _ _ _ _ rfl rfl _ _ _ rfl rfl ?_; rintro r n ⟨hr⟩ hl; simp only [fbin] at hr) | (refine wpList_fwid rfl _ _ _ rfl _ rfl (by rw [Tryz.underlying28]; rfl) Tryz.underlying46 ?_; rintro r n ⟨hr⟩ hl) | (go_at_call 65; refine (math_Abs _ _ hl).mono ?_; rintro e w' ⟨rfl, rfl⟩))
    go_ret
    exact ⟨_, ret_bool (by rw [e2.out]; exact small_cmp ⟨hr⟩), rfl⟩
  · rw [decide_eq_false hz] at e1
    have e2 : subB x = false := by unfold subB; rw [decide_eq_false_iff_not]; exact fun h => hz h.1
    rw [e2]
    go_enter Tryz.func33, Tryz.ntmps33
    go_wp2
    go_ret
    exact ⟨0, rfl, rfl⟩

theorem and_sign (x i : Nat) : x &&& 2 ^ i = x / 2 ^ i % 2 * 2 ^ i := by
  apply Nat.eq_of_testBit_eq
  intro j
  rw [Nat.testBit_and, Nat.testBit_two_pow, Nat.testBit_mul_two_pow, show x / 2 ^ i % 2 = x / 2 ^ i % 2 ^ 1 from rfl, Nat.testBit_mod_two_pow, Nat.testBit_div_two_pow]
  by_cases h : i = j
  · subst h; simp
  · by_cases g : i ≤ j
    · have : ¬ j - i < 1 := by omega
      simp [h, this]
    · simp [h, g]
theorem copy0 (x : Nat) (hx : x < 2 ^ 64) : (bits BinOp.or IntKind.u64 (bits BinOp.andNot IntKind.u64 0 9223372036854775808) (bits BinOp.and IntKind.u64 (x : Int) 9223372036854775808)).toNat = x / 2 ^ 63 * 2 ^ 63 := by
  have h1 : bits BinOp.andNot IntKind.u64 0 9223372036854775808 = ((0 : Nat) : Int) := by decide
  have h2 : bits BinOp.and IntKind.u64 (x : Int) 9223372036854775808 = bits BinOp.and IntKind.u64 (x : Int) ((9223372036854775808 : Nat) : Int) := rfl
  have h3 := and_sign x 63
  have h4 : x / 2 ^ 63 % 2 = x / 2 ^ 63 := Nat.mod_eq_of_lt (by omega)
  rw [h4] at h3
  rw [h1, h2, u64_and_nat x 9223372036854775808 (by omega) (by omega), show x &&& 9223372036854775808 = x / 2 ^ 63 * 2 ^ 63 from h3, u64_or_nat _ _ (by omega) (by omega), Int.toNat_natCast, Nat.zero_or]
theorem from_sign (x : Nat) (hx : x < 2 ^ 32) (hn : isN .f32 x = false) : (bits BinOp.and IntKind.i64 (bitsOf x) 2147483648 % 4294967296).toNat = x / 2 ^ 31 * 2 ^ 31 := by
  have h2 : bits BinOp.and IntKind.i64 (x : Int) 2147483648 = bits BinOp.and IntKind.i64 (x : Int) ((2147483648 : Nat) : Int) := rfl
  have h3 := and_sign x 31
  have h4 : x / 2 ^ 31 % 2 = x / 2 ^ 31 := Nat.mod_eq_of_lt (by omega)
  rw [h4] at h3
  rw [bitsOf_num hn, h2, i64_and_nat x 2147483648 (by omega) (by omega), show x &&& 2147483648 = x / 2 ^ 31 * 2 ^ 31 from h3]
  omega
theorem low_num {x : Nat} (h : rung Ieee.single x < 2 ^ 23) : isN .f32 x = false := by
  rw [isN_eq]
  have h2 : Ieee.single.infRung = 255 * 2 ^ 23 := by decide
  have : ¬ Ieee.single.infRung < rung Ieee.single x := by omega
  exact decide_eq_false this

set_option maxRecDepth 100000 in
theorem math_Copysign0 (x : Nat) (w : World) (hx : x < 2 ^ 64) :
    Calls Tryz.prog 63 #[.float .f64 0, .float .f64 x] w fun e w' => e = .returned (.float .f64 (x / 2 ^ 63 * 2 ^ 63)) ∧ w = w' := by
  go_enter Tryz.func63, Tryz.ntmps63
  go_wp2
  go_ret
  exact ⟨ret_f (copy0 x hx), rfl⟩

def flushV (x : Nat) : Nat := if rung Ieee.single x < 2 ^ 23 then x / 2 ^ 31 * 2 ^ 31 else x

theorem flush_not {x : Nat} (hx : x < 2 ^ 32) (h : subB x = false) : flushV x = x := by
  unfold flushV
  by_cases hz : rung Ieee.single x < 2 ^ 23
  · rw [if_pos hz]
    have h0 : rung Ieee.single x = 0 := by
      unfold subB at h
      rw [decide_eq_false_iff_not] at h
      omega
    unfold rung at h0
    rw [show Ieee.single.signWeight = 2 ^ 31 by decide] at h0
    omega
  · rw [if_neg hz]
theorem top_yes {y : Nat} (h : 2 ^ 63 ≤ y) (g : y < 2 ^ 64) : y / 2 ^ 63 * 2 ^ 63 = 2 ^ 63 := by omega
theorem top_no {y : Nat} (h : ¬ 2 ^ 63 ≤ y) : y / 2 ^ 63 * 2 ^ 63 = 0 := by omega
theorem top31_yes {y : Nat} (h : 2 ^ 31 ≤ y) (g : y < 2 ^ 32) : y / 2 ^ 31 * 2 ^ 31 = 2 ^ 31 := by omega
theorem top31_no {y : Nat} (h : ¬ 2 ^ 31 ≤ y) : y / 2 ^ 31 * 2 ^ 31 = 0 := by omega
theorem flush_sub {x : Nat} (hx : x < 2 ^ 32) (h : subB x = true) {r r' : Nat} (hr : Same .f64 r (fwid x)) (hr' : fover .f64 (r / 2 ^ 63 * 2 ^ 63) .f32 = false → Same .f32 r' (fconv .f64 (r / 2 ^ 63 * 2 ^ 63) .f32)) :
    Same .f32 r' (flushV x) := by
  have hz : rung Ieee.single x < 2 ^ 23 := by unfold subB at h; rw [decide_eq_true_eq] at h; exact h.2
  have hn := low_num hz
  have e := hr.eq (wid_notnan hn)
  subst e
  have hs := wid_sgn hn
  have hf : fwid x < 2 ^ 64 := by
    have hM := Ieee.double.infRung_lt
    obtain ⟨c, c1, c2⟩ := wid_word hn
    rw [c2]; exact Ieee.double.word_lt _ (by omega)
  have hs2 : sgn Ieee.single x = decide (2 ^ 31 ≤ x) := by
    have e : Ieee.single.signWeight = 2 ^ 31 := by decide
    unfold sgn
    rw [e]
    by_cases h1 : 2 ^ 31 ≤ x
    · have : x / 2 ^ 31 = 1 := by omega
      simp [this]; omega
    · have : x / 2 ^ 31 = 0 := by omega
      simp [this]; omega
  rw [hs2, decide_eq_decide] at hs
  unfold flushV
  rw [if_pos hz]
  by_cases h1 : 2 ^ 31 ≤ x
  · have h2 := hs.2 h1
    have e1 : fwid x / 2 ^ 63 * 2 ^ 63 = 2 ^ 63 := top_yes h2 hf
    have e2 : x / 2 ^ 31 * 2 ^ 31 = 2 ^ 31 := top31_yes h1 hx
    rw [e1] at hr'
    rw [e2]
    have := hr' (by decide +kernel)
    have e3 : fconv .f64 (2 ^ 63) .f32 = 2 ^ 31 := by decide +kernel
    rwa [e3] at this
  · have h2 : ¬ 2 ^ 63 ≤ fwid x := fun g => h1 (hs.1 g)
    have e1 : fwid x / 2 ^ 63 * 2 ^ 63 = 0 := top_no h2
    have e2 : x / 2 ^ 31 * 2 ^ 31 = 0 := top31_no h1
    rw [e1] at hr'
    rw [e2]
    have := hr' (by decide +kernel)
    have e3 : fconv .f64 0 .f32 = 0 := by decide +kernel
    rwa [e3] at this

set_option maxRecDepth 100000 in
theorem impl_FlushNumber (x : Nat) (w : World) (hx : x < 2 ^ 32) :
    Calls Tryz.prog 28 #[.float .f32 x] w fun e w' => ∃ r n, e = .returned (.float .f32 r) ∧ Same .f32 r (flushV x) ∧ w' = w.drewN n := by
  cases hs : subB x with
  | true =>
    go_enter Tryz.func28, Tryz.ntmps28
    go_wp2_with (first | (go_at_call 33; refine (impl_IsSubnormal _ _).mono ?_; rintro e w' ⟨n0, rfl, rfl⟩) | (refine wpList_farith rfl _ _ _ _ _ rfl rfl _ _ _ rfl rfl ?_; rintro r n ⟨hr⟩ hl; simp only [fbin] at hr) | (refine wpList_fwid rfl _ _ _ rfl _ rfl (by rw [Tryz.underlying28]; rfl) Tryz.underlying46 ?_; rintro r n ⟨hr⟩ hl) | (go_at_call 63; refine (math_Copysign0 _ _ hl).mono ?_; rintro e w' ⟨rfl, rfl⟩) | (refine wpList_fconv rfl _ _ _ rfl .f64 _ rfl .f32 (by decide) (by rw [Tryz.underlying46]; rfl) Tryz.underlying28 ?_; intro r2 n2 hr2 hl2))
    go_ret
    exact ⟨_, _, rfl, flush_sub hx hs ⟨hr⟩ hr2, rfl⟩
  | false =>
    have e4 := flush_not hx hs
    rw [e4]
    go_enter Tryz.func28, Tryz.ntmps28
    go_wp2_with (first | (go_at_call 33; refine (impl_IsSubnormal _ _).mono ?_; rintro e w' ⟨n0, rfl, rfl⟩))
    go_ret
    exact ⟨_, _, rfl, Same.refl _ _, rfl⟩

set_option maxRecDepth 100000 in
theorem impl_FromBits (m : Int) (w : World) :
    Calls Tryz.prog 20 #[.int .i64 m] w fun e w' => e = .returned (.tuple #[.float .f32 (if inB m 0 4294967295 then m.toNat else 0), .bool (inB m 0 4294967295)]) ∧ w = w' := by
  cases hb : inB m 0 4294967295 with
  | true =>
    have h0 : 0 ≤ m ∧ m ≤ 4294967295 := by simpa [inB] using hb
    obtain ⟨h0, h1⟩ := h0
    go_enter Tryz.func20, Tryz.ntmps20
    go_wp2_with (first | (go_at_call 54; refine (impl_within _ _ _ _).mono ?_; rintro e w' ⟨rfl, rfl⟩))
    go_ret2
    have e : m % 4294967296 = m := by omega
    exact ⟨by simp [e], rfl⟩
  | false =>
    go_enter Tryz.func20, Tryz.ntmps20
    go_wp2_with (first | (go_at_call 54; refine (impl_within _ _ _ _).mono ?_; rintro e w' ⟨rfl, rfl⟩))
    go_ret2
    exact ⟨by simp, rfl⟩

set_option maxRecDepth 100000 in
theorem math_Sqrt (x : Nat) (w : World) :
    Calls Tryz.prog 44 #[.float .f64 x] w fun e w' => ∃ r n, e = .returned (.float .f64 r) ∧ Same .f64 r (fsqrt .f64 x) ∧ Fits .f64 r ∧ w' = w.drewN n := by
  obtain ⟨r, n, h, hs, hf⟩ := ext_sqrt x w
  go_enter Tryz.func44, Tryz.ntmps44
  go_wp2
  go_ret
  exact ⟨_, _, rfl, hs, hf, rfl⟩

/-- The root of a number. -/
def rootV (x : Nat) : Nat := fconv .f64 (fsqrt .f64 (fwid x)) .f32
theorem root_same {x r1 r2 r3 : Nat} (h1 : Same .f64 r1 (fwid x)) (h2 : Same .f64 r2 (fsqrt .f64 r1)) (h3 : fover .f64 r2 .f32 = false → Same .f32 r3 (fconv .f64 r2 .f32)) : Same .f32 r3 (rootV x) := by
  have h4 := h3 (root_ok h1 h2)
  unfold rootV
  rwa [h2.conv, h1.sqrt] at h4

set_option maxRecDepth 100000 in
theorem spec_l01Sqrt (x : Nat) (w : World) :
    Calls Tryz.prog 45 #[.float .f32 x] w fun e w' => ∃ r n, e = .returned (.float .f32 r) ∧ Same .f32 r (rootV x) ∧ Fits .f32 r ∧ w' = w.drewN n := by
  go_enter Tryz.func45, Tryz.ntmps45
  go_wp2_with (first | (refine wpList_farith rfl _ _ _ _ _ rfl rfl _ _ _ rfl rfl ?_; rintro r n ⟨hr⟩ hl; simp only [fbin] at hr) | (refine wpList_fwid rfl _ _ _ rfl _ rfl (by rw [Tryz.underlying28]; rfl) Tryz.underlying46 ?_; rintro r n ⟨hr⟩ hl) | (go_at_call 44; refine (math_Sqrt _ _).mono ?_; rintro e w' ⟨r1, n1, rfl, hr1, hl1, rfl⟩) | (go_at_call 72; go_in) | (refine wpList_fconv rfl _ _ _ rfl .f64 _ rfl .f32 (by decide) (by rw [Tryz.underlying46]; rfl) Tryz.underlying28 ?_; intro r2 n2 hr2 hl2))
  go_ret
  exact ⟨_, _, rfl, root_same ⟨hr⟩ hr1 hr2, hl2, rfl⟩

end Go.Proofs.YtpjhgfeibkldmaaGreatDoor

