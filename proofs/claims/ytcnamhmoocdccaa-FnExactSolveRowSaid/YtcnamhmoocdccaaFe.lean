/- Contracts on fields, second part: what the laws do with them. Under no condition. -/
import Derived.Test.YtcnamhmoocdccaaFd
namespace Go.Proofs.Ytcnamhmoocdccaa
open Go Go.RowKit
set_option linter.unusedVariables false
set_option linter.unusedSimpArgs false

/-- How much of 2^20 a list leaves. -/
def leftV (len : Nat) : Int := if len ≤ 1048576 then 1048576 - len else -1

/-- A field's copy, its list in a block of its own from block n on. -/
def FieldCopy (x y : Int) (r : Bool) (V : Nat → Value) (len : Nat) (w : World) (e : Ending) (w' : World) : Prop :=
  ∃ B cur, e = .returned (.agg #[.int .i64 x, .int .i64 y, .bool r, .slice (some ⟨B, 0, none⟩) len len]) ∧ Below w.heap.size w w' ∧ w.heap.size ≤ B ∧ Own w' B 27 cur ∧ cur.size = len ∧ ∀ i, i < len → cur[i]? = some (V i)

theorem laws_eqField (x y : Int) (r : Bool) (a b : Option Addr) (len cap cap' : Nat) (xs ys : List Nat) (w : World) (hx : Holds w a len (fvals .f32 xs)) (hy : Holds w b len (fvals .f32 ys)) (hl : len ≤ 1048576)
    (hsame : ∀ i, i < len → Same .f32 (xs.getD i 0) (ys.getD i 0)) :
    Calls Try.prog 29 #[.agg #[.int .i64 x, .int .i64 y, .bool r, .slice a len cap], .agg #[.int .i64 x, .int .i64 y, .bool r, .slice b len cap']] w fun e w' => e = .returned (.bool true) ∧ Below w.heap.size w w' := by
  have K : Below w.heap.size w ((w.alloc (.cells #[.int .i64 x, .int .i64 y, .bool r, .slice a len cap] 46)).alloc (.cells #[.int .i64 x, .int .i64 y, .bool r, .slice b len cap'] 46)) := ((Below.refl _ _).alloc (Nat.le_refl _) _).alloc (by simp) _
  have hx' := hx.keep K
  have hy' := hy.keep K
  have e1 : (x != x) = false := by simp
  have e2 : (y != y) = false := by simp
  have e3 : (r != r) = false := by simp
  clear hx hy
  go_enter Try.func29, Try.ntmps29
  go_wp2_with fail
  refine (laws_eqFloat32S _ _ len _ _ xs ys _ hx' hy' hl hsame).mono ?_
  rintro e w' ⟨n, rfl, rfl⟩
  go_wp2
  go_ret
  exact ⟨rfl, keep_drewN K _⟩

end Go.Proofs.Ytcnamhmoocdccaa
