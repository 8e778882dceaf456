/- A field or grains that came in, opened. Under no condition. -/
import Derived.Test.YtbcocjakpnhmaaaChecked
import Derived.Test.YtbcocjakpnhmaaaSl
import Derived.Lib.SmallJoins
import Derived.ChangeArms
import Derived.KernelRfl
namespace Go.Proofs.Ytbcocjakpnhmaaa
open Go Go.RowKit Go.ChangeShapes Go.WideShapes
set_option linter.unusedVariables false
set_option linter.unusedSimpArgs false

theorem cellsField : Try.prog.cellsOf 34 = 4 := by kernel_rfl

theorem open_Field {H : Type} {enc : TypeId × Value → H} {w : World} {spare : Nat → Bool} {held : Bool} {r : Reach} {b0 : Nat} {v : Value} {d : DataW H} {p : List MemPlace}
    (hv : Value.okWide Try.prog w r b0 34 v) (h : DataW.Trod enc Try.prog w 0 spare held 34 v d p) :
    ∃ x y b a len cap xs, v = .agg #[.int .i64 x, .int .i64 y, .bool b, .slice a len cap] ∧ FRow .f32 w a len cap xs ∧ (Lit.int .i64 x).wf = true ∧ (Lit.int .i64 y).wf = true := by
  obtain ⟨v0, v1, v2, v3, y0, y1, y2, y3, n, rfl, _, _, h0, h1, h2, h3⟩ := Go.Joins.open_agg4 Try.underlying34 (by kernel_rfl) cellsField hv h
  obtain ⟨x, e0, _, wx⟩ := DataW.trod_int Try.underlying2 h0
  obtain ⟨y, e1, _, wy⟩ := DataW.trod_int Try.underlying2 h1
  obtain ⟨b, e2, _⟩ := DataW.trod_bool Try.underlying4 h2
  obtain ⟨a, len, cap, e3⟩ := Go.Joins.slice_form Try.underlying32 h3
  simp only [List.cons.injEq, and_true] at e0 e1 e2 e3
  subst e0; subst e1; subst e2; subst e3
  obtain ⟨xs, hx⟩ := frow_of (a := a) (len := len) (cap := cap) (d := y3.1) (ps := y3.2) Try.underlying32 Try.underlying41 (by kernel_rfl) ⟨n, by simpa [Value.cells] using h3⟩
  exact ⟨x, y, b, a, len, cap, xs, rfl, hx, wx, wy⟩

theorem cellsGrains : Try.prog.cellsOf 24 = 3 := by kernel_rfl

theorem open_Grains {H : Type} {enc : TypeId × Value → H} {w : World} {spare : Nat → Bool} {held : Bool} {r : Reach} {b0 : Nat} {v : Value} {d : DataW H} {p : List MemPlace}
    (hv : Value.okWide Try.prog w r b0 24 v) (h : DataW.Trod enc Try.prog w 0 spare held 24 v d p) :
    ∃ x y a len cap xs, v = .agg #[.int .i64 x, .int .i64 y, .slice a len cap] ∧ IRow .i64 w a len cap xs ∧ (Lit.int .i64 x).wf = true ∧ (Lit.int .i64 y).wf = true := by
  obtain ⟨v0, v1, v3, y0, y1, y3, n, rfl, _, _, h0, h1, h3⟩ := Go.Joins.open_agg3 Try.underlying24 (by kernel_rfl) cellsGrains hv h
  obtain ⟨x, e0, _, wx⟩ := DataW.trod_int Try.underlying2 h0
  obtain ⟨y, e1, _, wy⟩ := DataW.trod_int Try.underlying2 h1
  obtain ⟨a, len, cap, e3⟩ := Go.Joins.slice_form Try.underlying22 h3
  simp only [List.cons.injEq, and_true] at e0 e1 e3
  subst e0; subst e1; subst e3
  obtain ⟨xs, hx⟩ := irow_of (a := a) (len := len) (cap := cap) (d := y3.1) (ps := y3.2) Try.underlying22 Try.underlying2 (by kernel_rfl) ⟨n, by simpa [Value.cells] using h3⟩
  exact ⟨x, y, a, len, cap, xs, rfl, hx, wx, wy⟩

end Go.Proofs.Ytbcocjakpnhmaaa
