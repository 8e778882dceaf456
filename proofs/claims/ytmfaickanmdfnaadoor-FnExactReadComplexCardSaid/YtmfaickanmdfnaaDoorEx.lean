/- What the functions without a body give, at this program. Under no condition. -/
import Derived.Test.YtmfaickanmdfnaaDoorChecked
import Derived.Test.YtmfaickanmdfnaaDoorFl
import Derived.Laws.Externs
import Derived.Laws.Cover2
import Derived.KernelRfl
namespace Go.Proofs.YtmfaickanmdfnaaDoor
open Go

@[go_sem] theorem ext_float32bits (x : Nat) (w : World) : (callFunc 80 #[.float .f32 x]).run Tryd.prog w = .ok (.value (.int .u32 x)) w := by rw [run_callFunc_extern (e := Extern.MathFloatBits.float32bits) Tryd.func80 (by kernel_rfl) (by kernel_rfl) (by kernel_rfl) (by kernel_rfl)]; rfl
@[go_sem] theorem ext_float32frombits (x : Int) (w : World) : (callFunc 70 #[.int .u32 x]).run Tryd.prog w = .ok (.value (.float .f32 x.toNat)) w := by rw [run_callFunc_extern (e := Extern.MathFloatBits.float32frombits) Tryd.func70 (by kernel_rfl) (by kernel_rfl) (by kernel_rfl) (by kernel_rfl)]; rfl

theorem run_sqrt (P : Program) (x : Nat) (w : World) : ∃ r n, (Extern.MathSqrt.sqrt #[.float .f64 x]).run P w = .ok (.float .f64 r) (w.drewN n) ∧ Same .f64 r (fsqrt .f64 x) ∧ Fits .f64 r := by
  rw [fsqrt_eq]
  have e : Extern.MathSqrt.sqrt #[.float .f64 x] = (match FloatKind.f64.format.sqrt x with
    | some r => pure (.float .f64 r)
    | none => do pure (.float .f64 (← choose (.nanBits .f64 x x)))) := rfl
  rw [e]
  cases h : FloatKind.f64.format.sqrt x with
  | some r => exact ⟨r, 0, by simp [World.drewN_zero], Same.refl _ _, fits_map .f64 h⟩
  | none =>
    refine ⟨(Question.nanBits .f64 x x).cut (w.tape w.drawn (.nanBits .f64 x x)), 1, ?_, Same.of_nan (isN_draw _ .f64 (.inl ⟨x, x, rfl⟩) _) (isN_nanb .f64), fits_draw _ .f64 (.inl ⟨x, x, rfl⟩) _⟩
    simp [choose, Sem.run, Question.forced, World.drewN]


end Go.Proofs.YtmfaickanmdfnaaDoor
