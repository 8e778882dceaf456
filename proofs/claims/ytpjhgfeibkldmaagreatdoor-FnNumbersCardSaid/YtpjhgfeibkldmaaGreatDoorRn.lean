/- ReadList: the law. The tables and errors of the library read as the program's text lays them. -/
import Derived.Test.YtpjhgfeibkldmaaGreatDoorZc
namespace Go.Proofs.YtpjhgfeibkldmaaGreatDoor
open Go Go.RowKit Go.Proofs.YtpjhgfeibkldmaaGreatDoorW.PrintWords Go.Proofs.YtpjhgfeibkldmaaGreatDoorW.PrintLast Go.Proofs.YtpjhgfeibkldmaaGreatDoorW.PrintMore
attribute [local go_sem] max2_int min2_int max_two min_two max_three min_three max_four min_four
set_option linter.unusedVariables false
set_option linter.unusedSimpArgs false

theorem R_C {w : World} {base : Nat} {ok : Nat → Prop} {l : List Int} {A : Option Addr} {c : Nat} (h : Kd.R (Kd.int .i64) 2 w base ok (.slice A l.length c) l) : Kd.C (Kd.int .i64) w A l.length l := (Kd.R_reads' h).2.2

theorem lay_errs2 {rest : List (String × DataW Unit)} {W : World} (h : laidMet Tryz.prog (("strconv.ErrRange", Rows.laid_strconv_ErrRange) :: ("strconv.ErrSyntax", Rows.laid_strconv_ErrSyntax) :: rest) W) :
    (∃ tp p, W.var? Tryz.prog "strconv.ErrRange" = some #[.iface tp p]) ∧ (∃ tp p, W.var? Tryz.prog "strconv.ErrSyntax" = some #[.iface tp p]) := by
  obtain ⟨a1, s1, h1, _⟩ := laid_sentinel h g_rng rng_type Tryz.underlying95 row_err Tryz.underlying155 Tryz.underlying157 rfl rfl Tryz.underlying9 (by kernel_rfl) (by kernel_rfl)
  obtain ⟨a2, s2, h2, _⟩ := laid_sentinel h.tail g_syn syn_type Tryz.underlying95 row_err Tryz.underlying155 Tryz.underlying157 rfl rfl Tryz.underlying9 (by kernel_rfl) (by kernel_rfl)
  exact ⟨⟨_, _, h1⟩, ⟨_, _, h2⟩⟩

end Go.Proofs.YtpjhgfeibkldmaaGreatDoor

