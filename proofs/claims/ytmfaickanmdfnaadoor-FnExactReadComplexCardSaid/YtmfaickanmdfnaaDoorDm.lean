/- Decimal: the program's side, by the library's contract, and the law. The powers of ten read as the program's text lays them. -/
import Derived.Test.YtmfaickanmdfnaaDoorDk
import Derived.Test.YtmfaickanmdfnaaDoorSh
import Derived.Test.YtmfaickanmdfnaaDoorRows
import Derived.Lib.AppendIntMem
import Derived.Lib.LaidTab
import Derived.Stop.LaidErr
import Derived.WalkKit
import Derived.Below
namespace Go.Proofs.YtmfaickanmdfnaaDoor
open Go Go.RowKit
set_option linter.unusedVariables false
set_option linter.unusedSimpArgs false

/-- The powers of ten read as they are laid, whatever is done from block B on. -/
abbrev Pow (B : Nat) (w : World) : Prop := Lib.TabBelow Tryd.prog B w "internal/strconv.uint64pow10" .u64 Lib.pow10Tab

theorem type_pow : (Tryd.prog.globals[1]?).map (·.type) = some 113 := by kernel_rfl
theorem pow_data {H : Type} : (Rows.laid_internal_strconv_uint64pow10 : DataW H) = Lib.tabData .u64 Lib.pow10Tab := by rfl
/-- What a row's list gives: the powers of ten. -/
theorem pow_of {rest : List (String × DataW Unit)} {W : World} (h : laidMet Tryd.prog (("math/bits.deBruijn32tab", Rows.laid_math_bits_deBruijn32tab) :: ("math/bits.deBruijn64tab", Rows.laid_math_bits_deBruijn64tab) :: ("internal/strconv.uint64pow10", Rows.laid_internal_strconv_uint64pow10) :: rest) W) :
    Lib.TabIs Tryd.prog W "internal/strconv.uint64pow10" .u64 Lib.pow10Tab := by
  have h3 := h.tail.tail
  rw [pow_data] at h3
  exact Lib.tabIs_of_head (by kernel_rfl) type_pow Tryd.underlying113 Tryd.underlying80 (by kernel_rfl) (by kernel_rfl) h3

theorem impl_Decimal (n : Int) (h1 : -9223372036854775808 ≤ n) (h2 : n ≤ 9223372036854775807) (w : World) (B : Nat) (hB : B ≤ w.heap.size) (hT : Pow B w) :
    Calls Tryd.prog 11 #[.int .i64 n] w fun e w' => e = .returned (.string (decT n)) ∧ Below B w w' := by
  go_enter Tryd.func11, Tryd.ntmps11
  go_wp2_with (go_at_call 36; refine (Tryd.strconv_FormatInt_10 n h1 h2 _ hT.here).mono ?_; rintro e w' ⟨rfl, k, os, rfl⟩)
  go_ret
  exact ⟨rfl, Lib.below_grow B w hB k os⟩

theorem walk_FnExactDecimal (n : Int) (W : World) (w0 : (Lit.int .i64 n).wf = true) (hL : laidMet Tryd.prog Rows.fnExactDecimalRow.laid W) (hS : W.ShapedOpen Tryd.prog) :
    Calls Tryd.prog 3 #[.int .i64 n] W fun e W' => e = .returned (.bool true) ∧ Below W.heap.size W W' := by
  obtain ⟨h1, h2⟩ : -9223372036854775808 ≤ n ∧ n ≤ 9223372036854775807 := by simpa [Lit.wf, IntKind.min, IntKind.max, IntKind.signed, IntKind.bits] using w0
  have hT1 : Pow W.heap.size W := Lib.tabBelow_of_tabIs (pow_of hL)
  go_enter Tryd.func3, Tryd.ntmps3
  go_wp2_with (go_at_call 10; refine (spec_Decimal n h1 h2 _).mono ?_; rintro e w1 ⟨rfl, hb1⟩; refine Hid.out ?_)
  refine Lib.hid ?_
  have hT2 := hT1.on hb1
  have hs := hb1.size
  go_wp2_with (go_at_call 11; refine (impl_Decimal n h1 h2 _ W.heap.size hs hT2).mono ?_; rintro e w2 ⟨rfl, hb2⟩)
  go_ret
  exact ⟨rfl, hb1.trans hb2⟩
end Go.Proofs.YtmfaickanmdfnaaDoor
