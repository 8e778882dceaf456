/- Contracts on fields, second part: what the laws do with them. Under no condition. -/
import Derived.Test.YtmfaickanmdfnaaDoorFd
namespace Go.Proofs.YtmfaickanmdfnaaDoor
open Go Go.RowKit
set_option linter.unusedVariables false
set_option linter.unusedSimpArgs false

/-- How much of 2^20 a list leaves. -/
def leftV (len : Nat) : Int := if len ≤ 1048576 then 1048576 - len else -1

/-- A field's copy, its list in a block of its own from block n on. -/
def FieldCopy (x y : Int) (r : Bool) (V : Nat → Value) (len : Nat) (w : World) (e : Ending) (w' : World) : Prop :=
  ∃ B cur, e = .returned (.agg #[.int .i64 x, .int .i64 y, .bool r, .slice (some ⟨B, 0, none⟩) len len]) ∧ Below w.heap.size w w' ∧ w.heap.size ≤ B ∧ Own w' B 54 cur ∧ cur.size = len ∧ ∀ i, i < len → cur[i]? = some (V i)

end Go.Proofs.YtmfaickanmdfnaaDoor
