/- The contract of areWithin, and what it calls of the library. Under no condition. -/
import Derived.Test.YtmfaickanmdfnaaDoorCb
import Derived.Test.YtmfaickanmdfnaaDoorSl
import Derived.Lib.Hide
namespace Go.Proofs.YtmfaickanmdfnaaDoor
open Go Go.RowKit
set_option linter.unusedVariables false
set_option linter.unusedSimpArgs false

/-- All of the first k numbers are in the range. -/
def allIn (z : Nat → Int) (lo hi : Int) : Nat → Bool
  | 0 => true
  | k + 1 => allIn z lo hi k && inB (z k) lo hi

theorem allIn_false {z : Nat → Int} {lo hi : Int} {k len : Nat} (hk : k < len) (h : inB (z k) lo hi = false) : allIn z lo hi len = false := by
  induction len with
  | zero => omega
  | succ n ih =>
    unfold allIn
    by_cases e : k = n
    · subst e; rw [h, Bool.and_false]
    · rw [ih (by omega), Bool.false_and]

end Go.Proofs.YtmfaickanmdfnaaDoor
