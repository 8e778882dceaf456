/- Contracts of sums and products of lists. Under no condition. -/
import Derived.Test.YtbcocjakpnhmaaaCs
import Derived.RegionTactic
import Derived.ChangeAlike
namespace Go.Proofs.Ytbcocjakpnhmaaa
open Go Go.RowKit
set_option linter.unusedVariables false
set_option linter.unusedSimpArgs false

/-- The sum of the numbers V 0 .. V (k-1), from left to right. -/
def accF (V : Nat → Nat) : Nat → Nat
  | 0 => 0
  | k + 1 => fadd .f32 (accF V k) (V k)

theorem acc_step {V : Nat → Nat} {k s r : Nat} (h : Same .f32 s (accF V k)) (hr : cn .f32 r = cn .f32 (fadd .f32 s (V k))) : Same .f32 r (accF V (k + 1)) := by
  refine ⟨hr.trans ?_⟩
  show _ = cn .f32 (fadd .f32 (accF V k) (V k))
  rw [h.add (Same.refl _ _)]

def sumV (xs : List Nat) (i : Nat) : Nat := xs[i]?.getD 0
def dotV (xs ys : List Nat) (i : Nat) : Nat := fmul .f32 (xs[i]?.getD 0) (ys[i]?.getD 0)

/-- What SumNumbers answers. -/
def SumOut (V : Nat → Nat) (few : Bool) (len : Nat) (w : World) (e : Ending) (w' : World) : Prop :=
  ∃ s n, e = .returned (.tuple #[.float .f32 s, .bool few]) ∧ Same .f32 s (if few then accF V len else 0) ∧ w' = w.drewN n

theorem acc_step2 {V : Nat → Nat} {k s r rm : Nat} (h : Same .f32 s (accF V k)) (hm : cn .f32 rm = cn .f32 (V k)) (hr : cn .f32 r = cn .f32 (fadd .f32 s rm)) : Same .f32 r (accF V (k + 1)) := by
  refine acc_step h (hr.trans ?_)
  rw [Same.add (Same.refl _ s) ⟨hm⟩]

end Go.Proofs.Ytbcocjakpnhmaaa
