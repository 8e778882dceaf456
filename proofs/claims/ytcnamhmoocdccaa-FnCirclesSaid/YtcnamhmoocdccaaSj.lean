/- SineTurns: the reference's, the program's, and the law walked. Under no condition. -/
import Derived.Test.YtcnamhmoocdccaaSi
namespace Go.Proofs.Ytcnamhmoocdccaa
open Go Go.RowKit
set_option linter.unusedVariables false
set_option linter.unusedSimpArgs false
set_option exponentiation.threshold 5000

theorem geD_num {a b : Nat} (ha : isN .f64 a = false) (hb : isN .f64 b = false) : geD a b = decide (sval Ieee.double b ≤ sval Ieee.double a) := by
  unfold geD
  rw [gtr_num ha hb, eql_num ha hb]
  show (decide (sval Ieee.double b < sval Ieee.double a) || decide (sval Ieee.double a = sval Ieee.double b)) = _
  rw [← Bool.decide_or, decide_eq_decide]
  omega
theorem leD_num {a b : Nat} (ha : isN .f64 a = false) (hb : isN .f64 b = false) : leD a b = decide (sval Ieee.double a ≤ sval Ieee.double b) := by
  unfold leD
  rw [lss_num ha hb, eql_num ha hb]
  show (decide (sval Ieee.double a < sval Ieee.double b) || decide (sval Ieee.double a = sval Ieee.double b)) = _
  rw [← Bool.decide_or, decide_eq_decide]
  omega
theorem far_num : isN .f64 4841369599423283200 = false := by decide +kernel
theorem nfar_num : isN .f64 14064741636278059008 = false := by decide +kernel
theorem far_val : sval Ieee.double 4841369599423283200 = ((2 ^ 1126 : Nat) : Int) := by decide +kernel
theorem nfar_val : sval Ieee.double 14064741636278059008 = -((2 ^ 1126 : Nat) : Int) := by decide +kernel
theorem far_abs {y : Nat} (hn : isN .f64 y = false) : geD (y % 2 ^ 63) 4841369599423283200 = decide (2 ^ 1126 ≤ mag Ieee.double (rung Ieee.double y)) := by
  rw [geD_num (by rw [isN_abs]; exact hn) far_num, far_val, sval_abs, decide_eq_decide]
  omega
theorem far_both {y : Nat} (hn : isN .f64 y = false) : (geD y 4841369599423283200 || leD y 14064741636278059008) = decide (2 ^ 1126 ≤ mag Ieee.double (rung Ieee.double y)) := by
  rw [geD_num hn far_num, leD_num hn nfar_num, far_val, nfar_val, ← Bool.decide_or, decide_eq_decide, sval_eq]
  have := Nat.two_pow_pos 1126
  generalize 2 ^ 1126 = C at *
  split <;> omega
theorem near_whole {y : Nat} (h : ¬ 2 ^ 1126 ≤ mag Ieee.double (rung Ieee.double y)) : whole y < 2 ^ 53 := by
  unfold whole
  refine (Nat.div_lt_iff_lt_mul (Nat.two_pow_pos _)).2 ?_
  have : (2 : Nat) ^ 53 * 2 ^ 1074 = 2 * 2 ^ 1126 := by rw [← Nat.pow_add, show (53 + 1074 : Nat) = 1126 + 1 from rfl, Nat.pow_succ (m := 1126), Nat.mul_comm]
  rw [this]
  omega

/-- What SineTurns answers. -/
noncomputable def sinN (x : Nat) : Nat :=
  if finB .f32 x then (if decide (2 ^ 1126 ≤ mag Ieee.double (rung Ieee.double (fwid x))) then 0 else fconv .f64 (sineV (behV (fwid x))) .f32) else fconv .f64 9221120237041090561 .f32
def SinOut (x : Nat) (w : World) (e : Ending) (w' : World) : Prop := ∃ r n, e = .returned (.float .f32 r) ∧ Same .f32 r (sinN x) ∧ Fits .f32 r ∧ w' = w.drewN n

theorem impl_SineTurns (x : Nat) (w : World) : Calls Try.prog 18 #[.float .f32 x] w (SinOut x w) := by
  obtain ⟨f0, g0, hC0, hD0⟩ := conv_narrow 9221120237041090561 (narrow_nan nan_c)
  have HD0 := Lib.hid hD0
  clear hD0
  cases hx : finB .f32 x with
  | false =>
    have E : Hid (sinN x = fconv .f64 9221120237041090561 .f32) := Lib.hid (by simp [sinN, hx])
    have HX := Lib.hid hx
    clear hx
    go_enter Try.func18, Try.ntmps18
    go_wp2_with (first | (go_at_call 47; refine (impl_IsFinite x _).mono ?_; rintro e w' ⟨n0, rfl, rfl⟩; rw [HX.out]) | (go_at_call 48; refine (math_NaN _).mono ?_; rintro e w' ⟨rfl, rfl⟩))
    go_ret
    exact ⟨_, _, rfl, by rw [E.out]; exact (HD0.out _).1, (HD0.out _).2, rfl⟩
  | true =>
    have HX := Lib.hid hx
    obtain ⟨lx, gx, cx⟩ := conv_widen_fin x hx w
    have gf : finB .f64 (fwid x) = true := by rw [wid_finB]; exact hx
    have hn : isN .f64 (fwid x) = false := fin_num gf
    have hfin : rung Ieee.double (fwid x) < Ieee.double.infRung := by unfold finB at gf; exact of_decide_eq_true gf
    have ha := far_abs hn
    have HAB := Lib.hid (fun w => math_Abs (fwid x) w lx)
    obtain ⟨a, haa⟩ : ∃ a, a = fwid x % 2 ^ 63 := ⟨_, rfl⟩
    rw [← haa] at ha
    have HAA := Lib.hid haa
    unfold geD at ha
    by_cases hfar : 2 ^ 1126 ≤ mag Ieee.double (rung Ieee.double (fwid x))
    · have E : Hid (sinN x = 0) := Lib.hid (by unfold sinN; rw [hx, decide_eq_true hfar]; rfl)
      rw [decide_eq_true hfar] at ha
      clear hx lx gf hn hfin haa hfar
      go_enter Try.func18, Try.ntmps18
      go_wp2_with (first | (go_at_call 47; refine (impl_IsFinite x _).mono ?_; rintro e w' ⟨n0, rfl, rfl⟩; rw [HX.out]) | (go_at_call 49; refine (HAB.out _).mono ?_; rintro e w' ⟨rfl, rfl⟩; rw [← HAA.out]))
      go_ret
      exact ⟨_, _, rfl, by rw [E.out]; exact Same.refl _ _, by unfold Fits; decide, rfl⟩
    · have E : Hid (sinN x = fconv .f64 (sineV (behV (fwid x))) .f32) := Lib.hid (by unfold sinN; rw [hx, decide_eq_false hfar]; rfl)
      have hw := near_whole hfar
      obtain ⟨f1, g1, hC1, hD1⟩ := conv_narrow _ ((sineV_bd (behV_bd hfin hw)).narrow2 (by omega))
      have HD1 := Lib.hid hD1
      have HS := Lib.hid (impl_sine (fwid x) hfin hw)
      rw [decide_eq_false hfar] at ha
      clear hx lx gf hn hfin haa hfar hw hD1
      generalize sineV (behV (fwid x)) = sv at *
      go_enter Try.func18, Try.ntmps18
      go_wp2_with (first | (go_at_call 47; refine (impl_IsFinite x _).mono ?_; rintro e w' ⟨n0, rfl, rfl⟩; rw [HX.out]) | (go_at_call 49; refine (HAB.out _).mono ?_; rintro e w' ⟨rfl, rfl⟩; rw [← HAA.out]) | (go_at_call 50; refine (HS.out _).mono ?_; rintro e w' ⟨rfl, rfl⟩))
      go_ret
      exact ⟨_, _, rfl, by rw [E.out]; exact (HD1.out _).1, (HD1.out _).2, rfl⟩

/-! ### The reference's. -/
theorem spec_l01SineWide_nan (y : Nat) (w : World) (h : finB .f64 y = false) :
    Calls Try.prog 81 #[.float .f64 y] w fun e w' => ∃ n, e = .returned (.float .f64 9221120237041090561) ∧ w' = w.drewN n := by
  have hS := fun a b w => run_afv Try.prog .sub rfl 31 .f64 a b w
  have FY : ∀ w, (FloatKind.f64.format.order (afv .sub .f64 y y w) 0 != some .eq) = true := fun w => by rw [sub_self_cmp' ⟨cn_afv .sub rfl .f64 _ _ _⟩, h]; rfl
  clear h
  go_enter Try.func81, Try.ntmps81
  go_wp2_with (first | (go_at_call 48; refine (math_NaN _).mono ?_; rintro e w' ⟨rfl, rfl⟩))
  go_ret
  exact ⟨_, rfl, rfl⟩
theorem spec_l01SineWide_far (y : Nat) (w : World) (h : finB .f64 y = true) (hf : (geD y 4841369599423283200 || leD y 14064741636278059008) = true) :
    Calls Try.prog 81 #[.float .f64 y] w fun e w' => ∃ n, e = .returned (.float .f64 0) ∧ w' = w.drewN n := by
  have hS := fun a b w => run_afv Try.prog .sub rfl 31 .f64 a b w
  have FY : ∀ w, (FloatKind.f64.format.order (afv .sub .f64 y y w) 0 != some .eq) = false := fun w => by rw [sub_self_cmp' ⟨cn_afv .sub rfl .f64 _ _ _⟩, h]; rfl
  cases hg : geD y 4841369599423283200 with
  | true =>
    unfold geD at hg
    clear h hf
    go_enter Try.func81, Try.ntmps81
    go_wp2
    go_ret
    exact ⟨_, rfl, rfl⟩
  | false =>
    have hl : leD y 14064741636278059008 = true := by simpa [hg] using hf
    unfold geD at hg
    unfold leD at hl
    clear h hf
    go_enter Try.func81, Try.ntmps81
    go_wp2
    go_ret
    exact ⟨_, rfl, rfl⟩

theorem spec_l01Sine (x : Nat) (w : World) : Calls Try.prog 46 #[.float .f32 x] w (SinOut x w) := by
  cases hx : finB .f32 x with
  | false =>
    have E : Hid (sinN x = fconv .f64 9221120237041090561 .f32) := Lib.hid (by simp [sinN, hx])
    obtain ⟨fx, gx, cx, dx⟩ := conv_widen x
    have HN := Lib.hid (fun w => show finB .f64 (fx w) = false by rw [(dx w).1.finB, wid_finB]; exact hx)
    clear dx hx
    go_enter Try.func46, Try.ntmps46
    go_wp2_with fail
    refine (spec_l01SineWide_nan _ _ (HN.out _)).mono ?_
    rintro e w' ⟨n, rfl, rfl⟩
    go_wp2_with fail
    refine (spec_l01Narrow _ (narrow_nan nan_c) _).mono ?_
    rintro e w' ⟨r, n2, rfl, hr, hf, rfl⟩
    go_wp2
    go_ret
    exact ⟨_, _, rfl, by rw [E.out]; exact hr, hf, rfl⟩
  | true =>
    obtain ⟨lx, gx, cx⟩ := conv_widen_fin x hx w
    have gf : finB .f64 (fwid x) = true := by rw [wid_finB]; exact hx
    have hn : isN .f64 (fwid x) = false := fin_num gf
    have hfin : rung Ieee.double (fwid x) < Ieee.double.infRung := by unfold finB at gf; exact of_decide_eq_true gf
    have hb := far_both hn
    by_cases hfar : 2 ^ 1126 ≤ mag Ieee.double (rung Ieee.double (fwid x))
    · have E : Hid (sinN x = fconv .f64 0 .f32) := Lib.hid (by unfold sinN; rw [hx, decide_eq_true hfar]; show 0 = fconv .f64 0 .f32; decide +kernel)
      rw [decide_eq_true hfar] at hb
      have HF := Lib.hid (fun w => spec_l01SineWide_far (fwid x) w gf hb)
      clear hx lx gf hn hfin hb hfar
      go_enter Try.func46, Try.ntmps46
      go_wp2_with fail
      refine (HF.out _).mono ?_
      rintro e w' ⟨n, rfl, rfl⟩
      go_wp2_with fail
      refine (spec_l01Narrow 0 (zero_bd.narrow (by omega)) _).mono ?_
      rintro e w' ⟨r, n2, rfl, hr, hf, rfl⟩
      go_wp2
      go_ret
      exact ⟨_, _, rfl, by rw [E.out]; exact hr, hf, rfl⟩
    · have E : Hid (sinN x = fconv .f64 (sineV (behV (fwid x))) .f32) := Lib.hid (by unfold sinN; rw [hx, decide_eq_false hfar]; rfl)
      have hw := near_whole hfar
      rw [decide_eq_false hfar] at hb
      have hb2 : geD (fwid x) 4841369599423283200 = false ∧ leD (fwid x) 14064741636278059008 = false := by simpa using hb
      have HF := Lib.hid (spec_l01SineWide (fwid x) hfin hw hb2.1 hb2.2)
      have HN := Lib.hid (fun w => spec_l01Narrow _ ((sineV_bd (behV_bd hfin hw)).narrow2 (by omega)) w)
      clear hx lx gf hn hfin hb hfar hw hb2
      generalize sineV (behV (fwid x)) = sv at *
      go_enter Try.func46, Try.ntmps46
      go_wp2_with fail
      refine (HF.out _).mono ?_
      rintro e w' ⟨rfl, rfl⟩
      go_wp2_with fail
      refine (HN.out _).mono ?_
      rintro e w' ⟨r, n2, rfl, hr, hf, rfl⟩
      go_wp2
      go_ret
      exact ⟨_, _, rfl, by rw [E.out]; exact hr, hf, rfl⟩

theorem walk_FnExactSineTurns (x : Nat) (w : World) (_ : (Lit.float .f32 x).wf = true) :
    Calls Try.prog 4 #[.float .f32 x] w fun e w' => e = .returned (.bool true) ∧ Below w.heap.size w w' := by
  go_enter Try.func4, Try.ntmps4
  go_wp2_with (first | (go_at_call 17; go_in) | (go_at_call 46; refine (spec_l01Sine _ _).mono ?_; rintro e w' ⟨r0, n0, rfl, ⟨hs⟩, hl0, rfl⟩) | (go_at_call 18; refine (impl_SineTurns _ _).mono ?_; rintro e w' ⟨r0, n0, rfl, ⟨hs⟩, hl0, rfl⟩) | (refine wpList_farith rfl _ _ _ _ _ rfl rfl _ _ _ rfl rfl ?_; rintro r n ⟨hr⟩ hl; simp only [fbin] at hr) | (refine wpList_fwid rfl _ _ _ rfl _ rfl (by rw [Try.underlying27]; rfl) Try.underlying31 ?_; rintro r n ⟨hr⟩ hl) | (go_at_call 19; refine (sameFloat_true _ _ _ ⟨by simp only [fwid, fconv, *]⟩).mono ?_; rintro e w' ⟨n5, rfl, rfl⟩))
  all_goals (go_ret; exact ⟨rfl, by first | exact Below.refl _ _ | exact below_drewN (Below.refl _ _) _⟩)

end Go.Proofs.Ytcnamhmoocdccaa
