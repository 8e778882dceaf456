/- The contracts of the functions on single numbers. Under no condition. -/
import Derived.Test.YtifcacjjmgjnhaaChecked
import Derived.Test.YtifcacjjmgjnhaaEx
import Derived.Test.YtifcacjjmgjnhaaFv
import Derived.WalkKit
import Derived.WalkLawsBesides
import Derived.WalkSpells
import Derived.KernelRfl
namespace Go.Proofs.Ytifcacjjmgjnhaa
open Go
set_option linter.unusedVariables false
set_option linter.unusedSimpArgs false

def bitsOf (x : Nat) : Int := if isN .f32 x then 2143289344 else x

theorem impl_BitsOf (x : Nat) (w : World) (hx : x < 2 ^ 32) :
    Calls Try.prog 16 #[.float .f32 x] w fun e w' => e = .returned (.int .i64 (bitsOf x)) ∧ w = w' := by
  have e1 := order_self .f32 x
  by_cases hn : isN .f32 x = true
  · rw [hn] at e1
    have eb : bitsOf x = 2143289344 := by simp [bitsOf, hn]
    rw [eb]
    go_enter Try.func16, Try.ntmps16
    go_wp2
    go_ret
    exact ⟨rfl, rfl⟩
  · simp only [Bool.not_eq_true] at hn
    rw [hn] at e1
    have eb : bitsOf x = x := by simp [bitsOf, hn]
    rw [eb]
    go_enter Try.func16, Try.ntmps16
    go_wp2
    go_ret
    exact ⟨rfl, rfl⟩

theorem spec_l01Bits (x : Nat) (w : World) (hx : x < 2 ^ 32) :
    Calls Try.prog 40 #[.float .f32 x] w fun e w' => e = .returned (.int .i64 (bitsOf x)) ∧ w = w' := by
  have e1 := order_self .f32 x
  by_cases hn : isN .f32 x = true
  · rw [hn] at e1
    have eb : bitsOf x = 2143289344 := by simp [bitsOf, hn]
    rw [eb]
    go_enter Try.func40, Try.ntmps40
    go_wp2
    go_ret
    exact ⟨rfl, rfl⟩
  · simp only [Bool.not_eq_true] at hn
    rw [hn] at e1
    have eb : bitsOf x = x := by simp [bitsOf, hn]
    rw [eb]
    go_enter Try.func40, Try.ntmps40
    go_wp2
    go_ret
    exact ⟨rfl, rfl⟩

theorem sameFloat_true (a b : Nat) (w : World) (h : Same .f64 a b) :
    Calls Try.prog 25 #[.float .f64 a, .float .f64 b] w fun e w' => ∃ n, e = .returned (.bool true) ∧ w' = w.drewN n := by
  have e1 := order_self .f64 a
  have e2 := order_self .f64 b
  have e3 := h.isN
  by_cases hn : isN .f64 b = true
  · rw [hn] at e3
    rw [e3] at e1; rw [hn] at e2
    go_enter Try.func25, Try.ntmps25
    go_wp2
    go_ret
    exact ⟨0, rfl, rfl⟩
  · simp only [Bool.not_eq_true] at hn
    have hab := h.eq hn
    subst hab
    rw [hn] at e1
    clear e2 e3 h
    have e4 := order_self' .f64 a
    rw [hn] at e4
    by_cases hz : (FloatKind.f64.format.order a 0 == some .eq) = true
    · go_enter Try.func25, Try.ntmps25
      go_wp2_with (first | (refine wpList_farith rfl _ _ _ _ _ rfl rfl _ _ _ rfl rfl ?_; rintro r n ⟨hr⟩; simp only [fbin] at hr) | (refine wpList_fwid rfl _ _ _ rfl _ rfl (by rw [Try.underlying23]; rfl) Try.underlying31 ?_; rintro r n ⟨hr⟩))
      go_ret
      refine ⟨_, ret_bool ?_, rfl⟩
      simp only [order_pord, *, beq_self_eq_true]
    · simp only [Bool.not_eq_true] at hz
      go_enter Try.func25, Try.ntmps25
      go_wp2
      go_ret
      exact ⟨0, rfl, rfl⟩

end Go.Proofs.Ytifcacjjmgjnhaa
