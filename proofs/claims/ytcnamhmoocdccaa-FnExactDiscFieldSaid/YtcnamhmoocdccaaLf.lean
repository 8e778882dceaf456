/- Laws on fields, walked: each returns true and writes nothing that was there. Under no condition. -/
import Derived.Test.YtcnamhmoocdccaaFe
import Derived.Deep.RegionWith
namespace Go.Proofs.Ytcnamhmoocdccaa
open Go Go.RowKit
set_option linter.unusedVariables false
set_option linter.unusedSimpArgs false

/-- What is told of a field that came in. -/
def FieldIn (w : World) (a : Option Addr) (len cap : Nat) (xs : List Nat) : Prop := FRow .f32 w a len cap xs

theorem left_neg {len : Nat} (h : 1048576 < len) : leftV len = -1 := by unfold leftV; rw [if_neg (by omega)]
theorem left_pos {len : Nat} (h : len ≤ 1048576) : leftV len = 1048576 - len := by unfold leftV; rw [if_pos h]

theorem box_in (w : World) (x y : Int) (r : Bool) (s : Value) (t : TypeId) : FieldAt (w.alloc (.cells #[.int .i64 x, .int .i64 y, .bool r, s] t)) w.heap.size x y r s :=
  ⟨by simp, by go_simp, by go_simp, by go_simp, by go_simp⟩
theorem keep_alloc (w : World) (o : Obj) : Below w.heap.size w (w.alloc o) := (Below.refl w.heap.size w).alloc (Nat.le_refl _) o

end Go.Proofs.Ytcnamhmoocdccaa
