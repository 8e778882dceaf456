/- The contracts of the functions on single numbers. Under no condition. -/
import Derived.Test.YtcnamhmoocdccaaChecked
import Derived.Test.YtcnamhmoocdccaaEx
import Derived.Test.YtcnamhmoocdccaaFv
import Derived.WalkKit
import Derived.WalkLawsBesides
import Derived.WalkSpells
import Derived.KernelRfl
namespace Go.Proofs.Ytcnamhmoocdccaa
open Go
set_option linter.unusedVariables false
set_option linter.unusedSimpArgs false

def bitsOf (x : Nat) : Int := if isN .f32 x then 2143289344 else x

theorem spec_l01Bits (x : Nat) (w : World) (hx : x < 2 ^ 32) :
    Calls Try.prog 98 #[.float .f32 x] w fun e w' => e = .returned (.int .i64 (bitsOf x)) ∧ w = w' := by
  have e1 := order_self .f32 x
  by_cases hn : isN .f32 x = true
  · rw [hn] at e1
    have eb : bitsOf x = 2143289344 := by simp [bitsOf, hn]
    rw [eb]
    go_enter Try.func98, Try.ntmps98
    go_wp2
    go_ret
    exact ⟨rfl, rfl⟩
  · simp only [Bool.not_eq_true] at hn
    rw [hn] at e1
    have eb : bitsOf x = x := by simp [bitsOf, hn]
    rw [eb]
    go_enter Try.func98, Try.ntmps98
    go_wp2
    go_ret
    exact ⟨rfl, rfl⟩

theorem sameFloat_true (a b : Nat) (w : World) (h : Same .f64 a b) :
    Calls Try.prog 19 #[.float .f64 a, .float .f64 b] w fun e w' => ∃ n, e = .returned (.bool true) ∧ w' = w.drewN n := by
  have e1 := order_self .f64 a
  have e2 := order_self .f64 b
  have e3 := h.isN
  by_cases hn : isN .f64 b = true
  · rw [hn] at e3
    rw [e3] at e1; rw [hn] at e2
    go_enter Try.func19, Try.ntmps19
    go_wp2
    go_ret
    exact ⟨0, rfl, rfl⟩
  · simp only [Bool.not_eq_true] at hn
    have hab := h.eq hn
    subst hab
    rw [hn] at e1
    clear e2 e3 h
    have e4 := order_self' .f64 a
    rw [hn] at e4
    by_cases hz : (FloatKind.f64.format.order a 0 == some .eq) = true
    · go_enter Try.func19, Try.ntmps19
      go_wp2_with (first | (refine wpList_farith rfl _ _ _ _ _ rfl rfl _ _ _ rfl rfl ?_; rintro r n ⟨hr⟩ hl; simp only [fbin] at hr) | (refine wpList_fwid rfl _ _ _ rfl _ rfl (by rw [Try.underlying27]; rfl) Try.underlying31 ?_; rintro r n ⟨hr⟩ hl))
      go_ret
      refine ⟨_, ret_bool ?_, rfl⟩
      simp only [order_pord, *, beq_self_eq_true]
    · simp only [Bool.not_eq_true] at hz
      go_enter Try.func19, Try.ntmps19
      go_wp2
      go_ret
      exact ⟨0, rfl, rfl⟩

theorem math_Abs (x : Nat) (w : World) (hx : x < 2 ^ 64) :
    Calls Try.prog 49 #[.float .f64 x] w fun e w' => e = .returned (.float .f64 (x % 2 ^ 63)) ∧ w = w' := by
  go_enter Try.func49, Try.ntmps49
  go_wp2
  go_ret
  exact ⟨ret_f (abs_bits x hx), rfl⟩

def sameB (a b : Nat) : Bool := bitsOf a == bitsOf b

theorem bitsOf_num {a : Nat} (h : isN .f32 a = false) : bitsOf a = a := by simp [bitsOf, h]
theorem nan_num : isN .f32 2143289344 = true := by decide
theorem sameB_nan_l {a b : Nat} (ha : isN .f32 a = true) (hb : isN .f32 b = false) : sameB a b = false := by
  unfold sameB
  rw [bitsOf_num hb]
  simp only [bitsOf, ha, if_true, beq_eq_false_iff_ne, ne_eq]
  intro h
  have : b = 2143289344 := by omega
  rw [this, nan_num] at hb
  cases hb
theorem sameB_nan_r {a b : Nat} (ha : isN .f32 a = false) (hb : isN .f32 b = true) : sameB a b = false := by
  unfold sameB
  rw [bitsOf_num ha]
  simp only [bitsOf, hb, if_true, beq_eq_false_iff_ne, ne_eq]
  intro h
  have : a = 2143289344 := by omega
  rw [this, nan_num] at ha
  cases ha
theorem sameB_nan {a b : Nat} (ha : isN .f32 a = true) (hb : isN .f32 b = true) : sameB a b = true := by
  simp [sameB, bitsOf, ha, hb]
theorem sameB_ne {a b : Nat} (ha : isN .f32 a = false) (hb : isN .f32 b = false) (h : (FloatKind.f32.format.order a b == some .eq) = false) : sameB a b = false := by
  rw [eql_num ha hb] at h
  simp only [decide_eq_false_iff_not] at h
  unfold sameB
  rw [bitsOf_num ha, bitsOf_num hb]
  simp only [beq_eq_false_iff_ne, ne_eq]
  intro e
  have : a = b := by omega
  exact h (by rw [this])
theorem sameB_eq {a b : Nat} (ha : isN .f32 a = false) (hb : isN .f32 b = false) (la : a < 2 ^ 32) (lb : b < 2 ^ 32) (h : (FloatKind.f32.format.order a b == some .eq) = true) :
    sameB a b = (sgn Ieee.single a == sgn Ieee.single b) := by
  rw [eql_num ha hb] at h
  simp only [decide_eq_true_eq] at h
  unfold sameB
  rw [bitsOf_num ha, bitsOf_num hb]
  by_cases hs : sgn Ieee.single a = sgn Ieee.single b
  · have := eq_of_sval (k := .f32) la lb hs h
    rw [this]; simp
  · have : ¬ a = b := fun e => hs (by rw [e])
    have h2 : ¬ ((a : Int) = b) := by omega
    rw [beq_eq_false_iff_ne.2 h2, beq_eq_false_iff_ne.2 hs]

theorem spec_SameNumber (a b : Nat) (w : World) (la : a < 2 ^ 32) (lb : b < 2 ^ 32) :
    Calls Try.prog 41 #[.float .f32 a, .float .f32 b] w fun e w' => e = .returned (.bool (sameB a b)) ∧ w = w' := by
  go_enter Try.func41, Try.ntmps41
  go_wp2_with (first | (go_at_call 73; go_in) | (go_at_call 98; refine (spec_l01Bits _ _ (by first | exact la | exact lb)).mono ?_; rintro e w' ⟨rfl, rfl⟩))
  go_ret
  exact ⟨rfl, rfl⟩

end Go.Proofs.Ytcnamhmoocdccaa
