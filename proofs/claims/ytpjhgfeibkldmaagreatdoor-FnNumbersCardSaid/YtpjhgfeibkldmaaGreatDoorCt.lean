/- Contracts of sums and products of lists. Under no condition. -/
import Derived.Test.YtpjhgfeibkldmaaGreatDoorCs
import Derived.RegionTactic
import Derived.ChangeAlike
namespace Go.Proofs.YtpjhgfeibkldmaaGreatDoor
open Go Go.RowKit
set_option linter.unusedVariables false
set_option linter.unusedSimpArgs false

/-- The sum of the numbers V 0 .. V (k-1), from left to right. -/
def accF (V : Nat → Nat) : Nat → Nat
  | 0 => 0
  | k + 1 => fadd .f32 (accF V k) (V k)

theorem acc_step {V : Nat → Nat} {k s r : Nat} (h : Same .f32 s (accF V k)) (hr : cn .f32 r = cn .f32 (fadd .f32 s (V k))) : Same .f32 r (accF V (k + 1)) := by
  refine ⟨hr.trans ?_⟩
  show _ = cn .f32 (fadd .f32 (accF V k) (V k))
  rw [h.add (Same.refl _ _)]

def sumV (xs : List Nat) (i : Nat) : Nat := xs[i]?.getD 0
def dotV (xs ys : List Nat) (i : Nat) : Nat := fmul .f32 (xs[i]?.getD 0) (ys[i]?.getD 0)

/-- What SumNumbers answers. -/
def SumOut (V : Nat → Nat) (few : Bool) (len : Nat) (w : World) (e : Ending) (w' : World) : Prop :=
  ∃ s n, e = .returned (.tuple #[.float .f32 s, .bool few]) ∧ Same .f32 s (if few then accF V len else 0) ∧ w' = w.drewN n

theorem impl_SumNumbers (a : Option Addr) (len cap : Nat) (xs : List Nat) (w : World) (hs : Holds w a len (fvals .f32 xs)) (hl : len ≤ 1048576) :
    Calls Tryz.prog 30 #[.slice a len cap] w (SumOut (sumV xs) (decide (len ≤ 256)) len w) := by
  have H := Lib.hid hs.split
  clear hs
  by_cases hf : len ≤ 256
  · rw [decide_eq_true hf]
    go_enter Tryz.func30, Tryz.ntmps30
    go_wp2
    go_loopw [4, 12] (fun sv i wr => ∃ k : Nat, k ≤ len ∧ i = .int .i64 k ∧ ∃ s n, sv = .float .f32 s ∧ Same .f32 s (accF (sumV xs) k) ∧ wr = w.drewN n) (fun _ i _ => len - (intOf i).toNat)
    case atStart => exact ⟨0, Nat.zero_le _, rfl, 0, 0, rfl, Same.refl _ _, rfl⟩
    case round =>
      obtain ⟨k, hk, rfl, s, n, rfl, hs, rfl⟩ := hrel
      have HS := Lib.hid hs
      clear hs
      by_cases hlt : k < len
      · rcases H.out with h0 | ⟨b, o, rfl, hb, hc⟩
        · omega
        have h1 : w.cell? ⟨b, o + k, none⟩ = some (.float .f32 (sumV xs k)) := hc k hlt
        clear H hc
        go_wp2_with (first | (refine wpList_farith rfl _ _ _ _ _ rfl rfl _ _ _ rfl rfl ?_; rintro r n ⟨hr⟩ hl; simp only [fbin] at hr) | (refine wpList_fwid rfl _ _ _ rfl _ rfl (by rw [Tryz.underlying28]; rfl) Tryz.underlying46 ?_; rintro r n ⟨hr⟩ hl))
        go_roundw
        case rel => exact ⟨k + 1, by omega, by go_num, _, _, rfl, acc_step HS.out hr, rfl⟩
        case measure => simp [intOf]; omega
      · have hk2 : k = len := by omega
        subst hk2
        go_wp2
        go_ret2
        exact ⟨_, _, rfl, HS.out, rfl⟩
  · rw [decide_eq_false hf]
    go_enter Tryz.func30, Tryz.ntmps30
    go_wp2
    go_ret2
    exact ⟨_, 0, rfl, Same.refl _ _, rfl⟩

theorem acc_step2 {V : Nat → Nat} {k s r rm : Nat} (h : Same .f32 s (accF V k)) (hm : cn .f32 rm = cn .f32 (V k)) (hr : cn .f32 r = cn .f32 (fadd .f32 s rm)) : Same .f32 r (accF V (k + 1)) := by
  refine acc_step h (hr.trans ?_)
  rw [Same.add (Same.refl _ s) ⟨hm⟩]

end Go.Proofs.YtpjhgfeibkldmaaGreatDoor

