/- Contracts on fields: sizes, copies, comparison, validity. Under no condition. -/
import Derived.Test.YtcnamhmoocdccaaAw
import Derived.Test.YtcnamhmoocdccaaCs
import Derived.Deep.QuietTactic
import Derived.BigQuiet
import Derived.Laws.ResultCell
namespace Go.Proofs.Ytcnamhmoocdccaa
open Go Go.RowKit
set_option linter.unusedVariables false
set_option linter.unusedSimpArgs false

def sizeB (x y : Int) : Bool := inB x 1 16 && inB y 1 16
def validB (x y : Int) (len : Nat) : Bool := sizeB x y && decide ((len : Int) = x * y)

theorem size_bounds {x y : Int} (h : sizeB x y = true) : (1 ≤ x ∧ x ≤ 16) ∧ (1 ≤ y ∧ y ≤ 16) := by
  simpa [sizeB, inB] using h

theorem spec_l02Size (x y : Int) (w : World) :
    Calls Try.prog 60 #[.int .i64 x, .int .i64 y] w fun e w' => e = .returned (.bool (sizeB x y)) ∧ w = w' := by
  cases hx : inB x 1 16 with
  | true =>
    have e : Hid (sizeB x y = inB y 1 16) := Lib.hid (by simp [sizeB, hx])
    go_enter Try.func60, Try.ntmps60
    go_wp2_with (first | (go_at_call 94; refine (spec_l00In _ _ _ _).mono ?_; rintro e w' ⟨rfl, rfl⟩))
    go_ret
    exact ⟨ret_bool e.out.symm, rfl⟩
  | false =>
    have e : Hid (sizeB x y = false) := Lib.hid (by simp [sizeB, hx])
    go_enter Try.func60, Try.ntmps60
    go_wp2_with (first | (go_at_call 94; refine (spec_l00In _ _ _ _).mono ?_; rintro e w' ⟨rfl, rfl⟩))
    go_ret
    exact ⟨ret_bool e.out.symm, rfl⟩

theorem spec_l02Size_is {x y : Int} {v : Bool} (h : sizeB x y = v) (w : World) :
    Calls Try.prog 60 #[.int .i64 x, .int .i64 y] w fun e w' => e = .returned (.bool v) ∧ w' = w :=
  (spec_l02Size x y w).mono fun e w' ⟨h1, h2⟩ => ⟨by rw [h1, h], h2.symm⟩

/-- A field in memory. -/
structure FieldAt (w : World) (b : Nat) (x y : Int) (r : Bool) (s : Value) : Prop where
  lt : b < w.heap.size
  x : w.cell? ⟨b, 0, none⟩ = some (.int .i64 x)
  y : w.cell? ⟨b, 1, none⟩ = some (.int .i64 y)
  r : w.cell? ⟨b, 2, none⟩ = some (.bool r)
  s : w.cell? ⟨b, 3, none⟩ = some s

theorem FieldAt.keep {w w' : World} {b : Nat} {x y : Int} {r : Bool} {s : Value} (h : FieldAt w b x y r s) (k : Below w.heap.size w w') : FieldAt w' b x y r s :=
  ⟨Nat.lt_of_lt_of_le h.lt k.size, (k.cell (p := ⟨b, 0, none⟩) h.lt).trans h.x, (k.cell (p := ⟨b, 1, none⟩) h.lt).trans h.y, (k.cell (p := ⟨b, 2, none⟩) h.lt).trans h.r, (k.cell (p := ⟨b, 3, none⟩) h.lt).trans h.s⟩
theorem FieldAt.drewN {w : World} {b : Nat} {x y : Int} {r : Bool} {s : Value} (h : FieldAt w b x y r s) (n : Nat) : FieldAt (w.drewN n) b x y r s := ⟨h.lt, h.x, h.y, h.r, h.s⟩

end Go.Proofs.Ytcnamhmoocdccaa
