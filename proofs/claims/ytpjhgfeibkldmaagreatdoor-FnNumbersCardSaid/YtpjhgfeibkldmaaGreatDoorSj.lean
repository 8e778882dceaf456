/- SineTurns: the reference's, the program's, and the law walked. Under no condition. -/
import Derived.Test.YtpjhgfeibkldmaaGreatDoorSi
namespace Go.Proofs.YtpjhgfeibkldmaaGreatDoor
open Go Go.RowKit
set_option linter.unusedVariables false
set_option linter.unusedSimpArgs false
set_option exponentiation.threshold 5000

theorem geD_num {a b : Nat} (ha : isN .f64 a = false) (hb : isN .f64 b = false) : geD a b = decide (sval Ieee.double b ≤ sval Ieee.double a) := by
  unfold geD
  rw [gtr_num ha hb, eql_num ha hb]
  show (decide (sval Ieee.double b < sval Ieee.double a) || decide (sval Ieee.double a = sval Ieee.double b)) = _
  rw [← Bool.decide_or, decide_eq_decide]
  omega
theorem leD_num {a b : Nat} (ha : isN .f64 a = false) (hb : isN .f64 b = false) : leD a b = decide (sval Ieee.double a ≤ sval Ieee.double b) := by
  unfold leD
  rw [lss_num ha hb, eql_num ha hb]
  show (decide (sval Ieee.double a < sval Ieee.double b) || decide (sval Ieee.double a = sval Ieee.double b)) = _
  rw [← Bool.decide_or, decide_eq_decide]
  omega
theorem far_num : isN .f64 4841369599423283200 = false := by decide +kernel
theorem nfar_num : isN .f64 14064741636278059008 = false := by decide +kernel
theorem far_val : sval Ieee.double 4841369599423283200 = ((2 ^ 1126 : Nat) : Int) := by decide +kernel
theorem nfar_val : sval Ieee.double 14064741636278059008 = -((2 ^ 1126 : Nat) : Int) := by decide +kernel
theorem far_abs {y : Nat} (hn : isN .f64 y = false) : geD (y % 2 ^ 63) 4841369599423283200 = decide (2 ^ 1126 ≤ mag Ieee.double (rung Ieee.double y)) := by
  rw [geD_num (by rw [isN_abs]; exact hn) far_num, far_val, sval_abs, decide_eq_decide]
  omega
theorem far_both {y : Nat} (hn : isN .f64 y = false) : (geD y 4841369599423283200 || leD y 14064741636278059008) = decide (2 ^ 1126 ≤ mag Ieee.double (rung Ieee.double y)) := by
  rw [geD_num hn far_num, leD_num hn nfar_num, far_val, nfar_val, ← Bool.decide_or, decide_eq_decide, sval_eq]
  have := Nat.two_pow_pos 1126
  generalize 2 ^ 1126 = C at *
  split <;> omega
theorem near_whole {y : Nat} (h : ¬ 2 ^ 1126 ≤ mag Ieee.double (rung Ieee.double y)) : whole y < 2 ^ 53 := by
  unfold whole
  refine (Nat.div_lt_iff_lt_mul (Nat.two_pow_pos _)).2 ?_
  have : (2 : Nat) ^ 53 * 2 ^ 1074 = 2 * 2 ^ 1126 := by rw [← Nat.pow_add, show (53 + 1074 : Nat) = 1126 + 1 from rfl, Nat.pow_succ (m := 1126), Nat.mul_comm]
  rw [this]
  omega

/-- What SineTurns answers. -/
noncomputable def sinN (x : Nat) : Nat :=
  if finB .f32 x then (if decide (2 ^ 1126 ≤ mag Ieee.double (rung Ieee.double (fwid x))) then 0 else fconv .f64 (sineV (behV (fwid x))) .f32) else fconv .f64 9221120237041090561 .f32
def SinOut (x : Nat) (w : World) (e : Ending) (w' : World) : Prop := ∃ r n, e = .returned (.float .f32 r) ∧ Same .f32 r (sinN x) ∧ Fits .f32 r ∧ w' = w.drewN n

theorem impl_SineTurns (x : Nat) (w : World) : Calls Tryz.prog 37 #[.float .f32 x] w (SinOut x w) := by
  obtain ⟨f0, g0, hC0, hD0⟩ := conv_narrow 9221120237041090561 (narrow_nan nan_c)
  have HD0 := Lib.hid hD0
  clear hD0
  cases hx : finB .f32 x with
  | false =>
    have E : Hid (sinN x = fconv .f64 9221120237041090561 .f32) := Lib.hid (by simp [sinN, hx])
    have HX := Lib.hid hx
    clear hx
    go_enter Tryz.func37, Tryz.ntmps37
    go_wp2_with (first | (go_at_call 61; refine (impl_IsFinite x _).mono ?_; rintro e w' ⟨n0, rfl, rfl⟩; rw [HX.out]) | (go_at_call 66; refine (math_NaN _).mono ?_; rintro e w' ⟨rfl, rfl⟩))
    go_ret
    exact ⟨_, _, rfl, by rw [E.out]; exact (HD0.out _).1, (HD0.out _).2, rfl⟩
  | true =>
    have HX := Lib.hid hx
    obtain ⟨lx, gx, cx⟩ := conv_widen_fin x hx w
    have gf : finB .f64 (fwid x) = true := by rw [wid_finB]; exact hx
    have hn : isN .f64 (fwid x) = false := fin_num gf
    have hfin : rung Ieee.double (fwid x) < Ieee.double.infRung := by unfold finB at gf; exact of_decide_eq_true gf
    have ha := far_abs hn
    have HAB := Lib.hid (fun w => math_Abs (fwid x) w lx)
    obtain ⟨a, haa⟩ : ∃ a, a = fwid x % 2 ^ 63 := ⟨_, rfl⟩
    rw [← haa] at ha
    have HAA := Lib.hid haa
    unfold geD at ha
    by_cases hfar : 2 ^ 1126 ≤ mag Ieee.double (rung Ieee.double (fwid x))
    · have E : Hid (sinN x = 0) := Lib.hid (by unfold sinN; rw [hx, decide_eq_true hfar]; rfl)
      rw [decide_eq_true hfar] at ha
      clear hx lx gf hn hfin haa hfar
      go_enter Tryz.func37, Tryz.ntmps37
      go_wp2_with (first | (go_at_call 61; refine (impl_IsFinite x _).mono ?_; rintro e w' ⟨n0, rfl, rfl⟩; rw [HX.out]) | (go_at_call 65; refine (HAB.out _).mono ?_; rintro e w' ⟨rfl, rfl⟩; rw [← HAA.out]))
      go_ret
      exact ⟨_, _, rfl, by rw [E.out]; exact Same.refl _ _, by unfold Fits; decide, rfl⟩
    · have E : Hid (sinN x = fconv .f64 (sineV (behV (fwid x))) .f32) := Lib.hid (by unfold sinN; rw [hx, decide_eq_false hfar]; rfl)
      have hw := near_whole hfar
      obtain ⟨f1, g1, hC1, hD1⟩ := conv_narrow _ ((sineV_bd (behV_bd hfin hw)).narrow2 (by omega))
      have HD1 := Lib.hid hD1
      have HS := Lib.hid (impl_sine (fwid x) hfin hw)
      rw [decide_eq_false hfar] at ha
      clear hx lx gf hn hfin haa hfar hw hD1
      generalize sineV (behV (fwid x)) = sv at *
      go_enter Tryz.func37, Tryz.ntmps37
      go_wp2_with (first | (go_at_call 61; refine (impl_IsFinite x _).mono ?_; rintro e w' ⟨n0, rfl, rfl⟩; rw [HX.out]) | (go_at_call 65; refine (HAB.out _).mono ?_; rintro e w' ⟨rfl, rfl⟩; rw [← HAA.out]) | (go_at_call 68; refine (HS.out _).mono ?_; rintro e w' ⟨rfl, rfl⟩))
      go_ret
      exact ⟨_, _, rfl, by rw [E.out]; exact (HD1.out _).1, (HD1.out _).2, rfl⟩

/-! ### The reference's. -/
end Go.Proofs.YtpjhgfeibkldmaaGreatDoor

