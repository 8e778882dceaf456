/- What the functions without a body give, at this program. Under no condition. -/
import Derived.Test.YtcnamhmoocdccaaChecked
import Derived.Test.YtcnamhmoocdccaaFl
import Derived.Laws.Externs
import Derived.Laws.Cover2
import Derived.KernelRfl
namespace Go.Proofs.Ytcnamhmoocdccaa
open Go

@[go_sem] theorem ext_float32bits (x : Nat) (w : World) : (callFunc 108 #[.float .f32 x]).run Try.prog w = .ok (.value (.int .u32 x)) w := by rw [run_callFunc_extern (e := Extern.MathFloatBits.float32bits) Try.func108 (by kernel_rfl) (by kernel_rfl) (by kernel_rfl) (by kernel_rfl)]; rfl
@[go_sem] theorem ext_float64bits (x : Nat) (w : World) : (callFunc 83 #[.float .f64 x]).run Try.prog w = .ok (.value (.int .u64 x)) w := by rw [run_callFunc_extern (e := Extern.MathFloatBits.float64bits) Try.func83 (by kernel_rfl) (by kernel_rfl) (by kernel_rfl) (by kernel_rfl)]; rfl
@[go_sem] theorem ext_float32frombits (x : Int) (w : World) : (callFunc 104 #[.int .u32 x]).run Try.prog w = .ok (.value (.float .f32 x.toNat)) w := by rw [run_callFunc_extern (e := Extern.MathFloatBits.float32frombits) Try.func104 (by kernel_rfl) (by kernel_rfl) (by kernel_rfl) (by kernel_rfl)]; rfl
@[go_sem] theorem ext_float64frombits (x : Int) (w : World) : (callFunc 82 #[.int .u64 x]).run Try.prog w = .ok (.value (.float .f64 x.toNat)) w := by rw [run_callFunc_extern (e := Extern.MathFloatBits.float64frombits) Try.func82 (by kernel_rfl) (by kernel_rfl) (by kernel_rfl) (by kernel_rfl)]; rfl

theorem run_sqrt (P : Program) (x : Nat) (w : World) : ∃ r n, (Extern.MathSqrt.sqrt #[.float .f64 x]).run P w = .ok (.float .f64 r) (w.drewN n) ∧ Same .f64 r (fsqrt .f64 x) ∧ Fits .f64 r := by
  rw [fsqrt_eq]
  have e : Extern.MathSqrt.sqrt #[.float .f64 x] = (match FloatKind.f64.format.sqrt x with
    | some r => pure (.float .f64 r)
    | none => do pure (.float .f64 (← choose (.nanBits .f64 x x)))) := rfl
  rw [e]
  cases h : FloatKind.f64.format.sqrt x with
  | some r => exact ⟨r, 0, by simp [World.drewN_zero], Same.refl _ _, fits_map .f64 h⟩
  | none =>
    refine ⟨(Question.nanBits .f64 x x).cut (w.tape w.drawn (.nanBits .f64 x x)), 1, ?_, Same.of_nan (isN_draw _ .f64 (.inl ⟨x, x, rfl⟩) _) (isN_nanb .f64), fits_draw _ .f64 (.inl ⟨x, x, rfl⟩) _⟩
    simp [choose, Sem.run, Question.forced, World.drewN]

theorem ext_sqrt (x : Nat) (w : World) : ∃ r n, (callFunc 103 #[.float .f64 x]).run Try.prog w = .ok (.value (.float .f64 r)) (w.drewN n) ∧ Same .f64 r (fsqrt .f64 x) ∧ Fits .f64 r := by obtain ⟨r, n, h, hs⟩ := run_sqrt Try.prog x w; exact ⟨r, n, by rw [run_callFunc_extern (e := Extern.MathSqrt.sqrt) Try.func103 (by kernel_rfl) (by kernel_rfl) (by kernel_rfl) (by kernel_rfl), h]; rfl, hs⟩

end Go.Proofs.Ytcnamhmoocdccaa
