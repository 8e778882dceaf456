/- Contracts on fields: sizes, copies, comparison, validity. Under no condition. -/
import Derived.Test.YtbcocjakpnhmaaaAw
import Derived.Test.YtbcocjakpnhmaaaCs
import Derived.Deep.QuietTactic
import Derived.BigQuiet
import Derived.Laws.ResultCell
namespace Go.Proofs.Ytbcocjakpnhmaaa
open Go Go.RowKit
set_option linter.unusedVariables false
set_option linter.unusedSimpArgs false

def sizeB (x y : Int) : Bool := inB x 1 16 && inB y 1 16
def validB (x y : Int) (len : Nat) : Bool := sizeB x y && decide ((len : Int) = x * y)

theorem size_bounds {x y : Int} (h : sizeB x y = true) : (1 ≤ x ∧ x ≤ 16) ∧ (1 ≤ y ∧ y ≤ 16) := by
  simpa [sizeB, inB] using h

theorem spec_l02Size (x y : Int) (w : World) :
    Calls Try.prog 59 #[.int .i64 x, .int .i64 y] w fun e w' => e = .returned (.bool (sizeB x y)) ∧ w = w' := by
  cases hx : inB x 1 16 with
  | true =>
    have e : Hid (sizeB x y = inB y 1 16) := Lib.hid (by simp [sizeB, hx])
    go_enter Try.func59, Try.ntmps59
    go_wp2_with (first | (go_at_call 74; refine (spec_l00In _ _ _ _).mono ?_; rintro e w' ⟨rfl, rfl⟩))
    go_ret
    exact ⟨ret_bool e.out.symm, rfl⟩
  | false =>
    have e : Hid (sizeB x y = false) := Lib.hid (by simp [sizeB, hx])
    go_enter Try.func59, Try.ntmps59
    go_wp2_with (first | (go_at_call 74; refine (spec_l00In _ _ _ _).mono ?_; rintro e w' ⟨rfl, rfl⟩))
    go_ret
    exact ⟨ret_bool e.out.symm, rfl⟩

theorem spec_l02Size_is {x y : Int} {v : Bool} (h : sizeB x y = v) (w : World) :
    Calls Try.prog 59 #[.int .i64 x, .int .i64 y] w fun e w' => e = .returned (.bool v) ∧ w' = w :=
  (spec_l02Size x y w).mono fun e w' ⟨h1, h2⟩ => ⟨by rw [h1, h], h2.symm⟩

/-- A field in memory. -/
structure FieldAt (w : World) (b : Nat) (x y : Int) (r : Bool) (s : Value) : Prop where
  lt : b < w.heap.size
  x : w.cell? ⟨b, 0, none⟩ = some (.int .i64 x)
  y : w.cell? ⟨b, 1, none⟩ = some (.int .i64 y)
  r : w.cell? ⟨b, 2, none⟩ = some (.bool r)
  s : w.cell? ⟨b, 3, none⟩ = some s

theorem FieldAt.keep {w w' : World} {b : Nat} {x y : Int} {r : Bool} {s : Value} (h : FieldAt w b x y r s) (k : Below w.heap.size w w') : FieldAt w' b x y r s :=
  ⟨Nat.lt_of_lt_of_le h.lt k.size, (k.cell (p := ⟨b, 0, none⟩) h.lt).trans h.x, (k.cell (p := ⟨b, 1, none⟩) h.lt).trans h.y, (k.cell (p := ⟨b, 2, none⟩) h.lt).trans h.r, (k.cell (p := ⟨b, 3, none⟩) h.lt).trans h.s⟩
theorem FieldAt.drewN {w : World} {b : Nat} {x y : Int} {r : Bool} {s : Value} (h : FieldAt w b x y r s) (n : Nat) : FieldAt (w.drewN n) b x y r s := ⟨h.lt, h.x, h.y, h.r, h.s⟩

theorem spec_l02Is (b : Nat) (x y : Int) (r : Bool) (a : Option Addr) (len cap : Nat) (w : World) (h : FieldAt w b x y r (.slice a len cap)) (hl : len ≤ 9223372036854775807) :
    Calls Try.prog 56 #[.pointer (some ⟨b, 0, none⟩)] w fun e w' => ∃ n, e = .returned (.bool (validB x y len)) ∧ w' = w.drewN n := by
  obtain ⟨_, h1, h2, h3, h4⟩ := h
  cases hs : sizeB x y with
  | true =>
    obtain ⟨⟨hx1, hx2⟩, hy1, hy2⟩ := size_bounds hs
    have hm1 : 0 ≤ x * y := Int.mul_nonneg (by omega) (by omega)
    have hm2 : x * y ≤ 16 * 16 := Int.mul_le_mul hx2 hy2 (by omega) (by omega)
    have e : Hid (validB x y len = ((len : Int) == x * y)) := Lib.hid (by simp [validB, hs]; rfl)
    have HS := Lib.hid hs
    clear hs
    go_enter Try.func56, Try.ntmps56
    go_wp2_with fail
    go_quiet ((go_at_call 59; exact Calls.quiet_of_same (spec_l02Size_is HS.out _)))
    go_wp2
    go_ret
    exact ⟨_, ret_bool e.out.symm, rfl⟩
  | false =>
    have e : Hid (validB x y len = false) := Lib.hid (by simp [validB, hs])
    have HS := Lib.hid hs
    clear hs
    go_enter Try.func56, Try.ntmps56
    go_wp2_with fail
    go_quiet ((go_at_call 59; exact Calls.quiet_of_same (spec_l02Size_is HS.out _)))
    go_wp2
    go_ret
    exact ⟨_, ret_bool e.out.symm, rfl⟩

end Go.Proofs.Ytbcocjakpnhmaaa
