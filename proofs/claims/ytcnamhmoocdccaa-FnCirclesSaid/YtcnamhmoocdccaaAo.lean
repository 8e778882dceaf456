/- AngleTurns: the reference's and the program's, and the law walked. Under no condition. -/
import Derived.Test.YtcnamhmoocdccaaAn
namespace Go.Proofs.Ytcnamhmoocdccaa
open Go Go.RowKit
set_option linter.unusedVariables false
set_option linter.unusedSimpArgs false
set_option exponentiation.threshold 3000

theorem math_NaN (w : World) : Calls Try.prog 48 #[] w fun e w' => e = .returned (.float .f64 9221120237041090561) ∧ w = w' := by
  go_enter Try.func48, Try.ntmps48
  go_wp2_with (first | (go_at_call 82; go_in))
  go_ret
  exact ⟨rfl, rfl⟩
theorem nan_c : isN .f64 9221120237041090561 = true := by decide +kernel

/-- A 64-bit number narrowed, in whatever world. -/
theorem conv_narrow (v : Nat) (h : fover .f64 v .f32 = false) : ∃ (f g : World → Nat), (∀ w, (convert 31 27 (.float .f64 v)).run Try.prog w = .ok (.float .f32 (f w)) (w.drewN (g w))) ∧ ∀ w, Same .f32 (f w) (fconv .f64 v .f32) ∧ Fits .f32 (f w) := by
  have hh : ∀ w, ∃ p : Nat × Nat, (convert 31 27 (.float .f64 v)).run Try.prog w = .ok (.float .f32 p.1) (w.drewN p.2) ∧ Same .f32 p.1 (fconv .f64 v .f32) ∧ Fits .f32 p.1 := by
    intro w
    obtain ⟨r, n, h1, h2, h3⟩ := run_fconv (P := Try.prog) 31 27 .f64 .f32 (by decide) v w (by rw [Try.underlying31]; rfl) Try.underlying27
    exact ⟨(r, n), h1, h2 h, h3⟩
  obtain ⟨f, hf⟩ := Classical.skolem.1 hh
  exact ⟨fun w => (f w).1, fun w => (f w).2, fun w => (hf w).1, fun w => (hf w).2⟩
/-- A 32-bit number widened, in whatever world. -/
theorem conv_widen (x : Nat) : ∃ (f g : World → Nat), (∀ w, (convert 27 31 (.float .f32 x)).run Try.prog w = .ok (.float .f64 (f w)) (w.drewN (g w))) ∧ ∀ w, Same .f64 (f w) (fwid x) ∧ Fits .f64 (f w) := by
  have hh : ∀ w, ∃ p : Nat × Nat, (convert 27 31 (.float .f32 x)).run Try.prog w = .ok (.float .f64 p.1) (w.drewN p.2) ∧ Same .f64 p.1 (fwid x) ∧ Fits .f64 p.1 := by
    intro w
    obtain ⟨r, n, h1, h2, h3⟩ := run_fconv (P := Try.prog) 27 31 .f32 .f64 (by decide) x w (by rw [Try.underlying27]; rfl) Try.underlying31
    exact ⟨(r, n), h1, h2 (fover_wid x), h3⟩
  obtain ⟨f, hf⟩ := Classical.skolem.1 hh
  exact ⟨fun w => (f w).1, fun w => (f w).2, fun w => (hf w).1, fun w => (hf w).2⟩
theorem conv_widen_fin (x : Nat) (h : finB .f32 x = true) (w0 : World) : fwid x < 2 ^ 64 ∧ ∃ (g : World → Nat), (∀ w, (convert 27 31 (.float .f32 x)).run Try.prog w = .ok (.float .f64 (fwid x)) (w.drewN (g w))) := by
  obtain ⟨f, g, h1, h2⟩ := conv_widen x
  have hn : isN .f64 (fwid x) = false := by rw [wid_isN]; exact fin_num h
  have e : ∀ w, f w = fwid x := fun w => (h2 w).1.eq hn
  refine ⟨?_, g, fun w => ?_⟩
  · have := (h2 w0).2; rw [e] at this; exact this
  · rw [h1, e]

theorem eql_zero (x : Nat) : (FloatKind.f32.format.order x 0 == some .eq) = decide (rung Ieee.single x = 0) := by
  have h := neq_zero x
  have h2 : (FloatKind.f32.format.order x 0 == some .eq) = !(FloatKind.f32.format.order x 0 != some .eq) := by simp [bne]
  rw [h2, h]
  by_cases hz : rung Ieee.single x = 0
  · simp [hz]
  · have : 0 < rung Ieee.single x := by omega
    simp [hz, this]
theorem eql_zero64 {x : Nat} (hn : isN .f64 x = false) : (FloatKind.f64.format.order x 0 == some .eq) = decide (rung Ieee.double x = 0) := by
  rw [eql_num hn (zero_num .f64), zero_sval, decide_eq_decide]
  have h0 : mag Ieee.double 0 = 0 := by decide +kernel
  constructor
  · intro h
    refine Classical.byContradiction fun hz => ?_
    have hm := magB_lt Ieee.double.binade (binade_pos _) (Nat.pos_of_ne_zero hz)
    have hm' : 0 < mag Ieee.double (rung Ieee.double x) := by unfold mag; omega
    have h' : (if sgn Ieee.double x then -(mag Ieee.double (rung Ieee.double x) : Int) else (mag Ieee.double (rung Ieee.double x) : Int)) = 0 := h
    split at h' <;> omega
  · intro hz
    show (if sgn Ieee.double x then -(mag Ieee.double (rung Ieee.double x) : Int) else (mag Ieee.double (rung Ieee.double x) : Int)) = 0
    rw [hz, h0]; simp
theorem wid_zero {x : Nat} (h : finB .f32 x = true) : rung Ieee.double (fwid x) = 0 ↔ rung Ieee.single x = 0 := by
  have hx : rung Ieee.single x < Ieee.single.infRung := by unfold finB at h; exact of_decide_eq_true h
  obtain ⟨c, c1, c2, c3⟩ := wid_fin hx
  have hM := Ieee.double.infRung_lt
  rw [c2, rung_word _ _ _ (by omega)]
  have hs0 : mag Ieee.single 0 = 0 := by decide
  have hd0 : mag Ieee.double 0 = 0 := by decide +kernel
  constructor
  · intro hc
    rw [hc, hd0] at c3
    have : mag Ieee.single (rung Ieee.single x) = 0 := by
      rcases Nat.mul_eq_zero.1 c3.symm with h | h
      · exact h
      · exact absurd h (Nat.ne_of_gt (Nat.two_pow_pos 925))
    exact mag_inj _ (this.trans hs0.symm)
  · intro hr
    rw [hr, hs0, Nat.zero_mul] at c3
    exact mag_inj _ (c3.trans hd0.symm)

/-- What AngleTurns answers. -/
noncomputable def angN (y x : Nat) : Nat :=
  if finB .f32 y && finB .f32 x then (if decide (rung Ieee.single y = 0) && decide (rung Ieee.single x = 0) then 0 else fconv .f64 (angW (fwid y) (fwid x)) .f32) else fconv .f64 9221120237041090561 .f32
theorem angN_bd {y x : Nat} (fy : finB .f32 y = true) (fx : finB .f32 x = true) (hz : (decide (rung Ieee.single y = 0) && decide (rung Ieee.single x = 0)) = false) : Bd 82 (angW (fwid y) (fwid x)) := by
  have gy : finB .f64 (fwid y) = true := by rw [wid_finB]; exact fy
  have gx : finB .f64 (fwid x) = true := by rw [wid_finB]; exact fx
  refine angW_bd (by unfold finB at gy; exact of_decide_eq_true gy) (by unfold finB at gx; exact of_decide_eq_true gx) ?_
  rw [wid_zero fy, wid_zero fx]
  simpa using hz

def AngOut (y x : Nat) (w : World) (e : Ending) (w' : World) : Prop := ∃ r n, e = .returned (.float .f32 r) ∧ Same .f32 r (angN y x) ∧ Fits .f32 r ∧ w' = w.drewN n

set_option maxHeartbeats 2000000 in
theorem impl_AngleTurns (y x : Nat) (w : World) : Calls Try.prog 23 #[.float .f32 y, .float .f32 x] w (AngOut y x w) := by
  obtain ⟨f0, g0, hC0, hD0⟩ := conv_narrow 9221120237041090561 (narrow_nan nan_c)
  have HD0 := Lib.hid hD0
  clear hD0
  cases hy : finB .f32 y with
  | false =>
    have E : Hid (angN y x = fconv .f64 9221120237041090561 .f32) := Lib.hid (by simp [angN, hy])
    have HY := Lib.hid hy
    clear hy
    go_enter Try.func23, Try.ntmps23
    go_wp2_with (first | (go_at_call 47; refine (impl_IsFinite y _).mono ?_; rintro e w' ⟨n0, rfl, rfl⟩; rw [HY.out]) | (go_at_call 48; refine (math_NaN _).mono ?_; rintro e w' ⟨rfl, rfl⟩))
    go_ret
    exact ⟨_, _, rfl, by rw [E.out]; exact (HD0.out _).1, (HD0.out _).2, rfl⟩
  | true =>
    cases hx : finB .f32 x with
    | false =>
      have E : Hid (angN y x = fconv .f64 9221120237041090561 .f32) := Lib.hid (by simp [angN, hx])
      have HY := Lib.hid hy
      have HX := Lib.hid hx
      clear hy hx
      go_enter Try.func23, Try.ntmps23
      go_wp2_with fail
      refine (impl_IsFinite y _).mono ?_
      rintro e w' ⟨n0, rfl, rfl⟩
      rw [HY.out]
      go_wp2_with fail
      refine (impl_IsFinite x _).mono ?_
      rintro e w' ⟨n1, rfl, rfl⟩
      rw [HX.out]
      go_wp2_with (first | (go_at_call 48; refine (math_NaN _).mono ?_; rintro e w' ⟨rfl, rfl⟩))
      go_ret
      exact ⟨_, _, rfl, by rw [E.out]; exact (HD0.out _).1, (HD0.out _).2, rfl⟩
    | true =>
      have HY := Lib.hid hy
      have HX := Lib.hid hx
      have zy := eql_zero y
      have zx := eql_zero x
      cases hz : (decide (rung Ieee.single y = 0) && decide (rung Ieee.single x = 0)) with
      | true =>
        have E : Hid (angN y x = 0) := Lib.hid (by unfold angN; rw [hy, hx, hz]; rfl)
        have h1 : rung Ieee.single y = 0 ∧ rung Ieee.single x = 0 := by simpa using hz
        rw [decide_eq_true h1.1] at zy
        rw [decide_eq_true h1.2] at zx
        clear hy hx hz h1
        go_enter Try.func23, Try.ntmps23
        go_wp2_with fail
        refine (impl_IsFinite y _).mono ?_
        rintro e w' ⟨n0, rfl, rfl⟩
        rw [HY.out]
        go_wp2_with fail
        refine (impl_IsFinite x _).mono ?_
        rintro e w' ⟨n1, rfl, rfl⟩
        rw [HX.out]
        go_wp2
        go_ret
        exact ⟨_, _, rfl, by rw [E.out]; exact Same.refl _ _, by unfold Fits; decide, rfl⟩
      | false =>
        have hB := angN_bd hy hx hz
        have E : Hid (angN y x = fconv .f64 (angW (fwid y) (fwid x)) .f32) := Lib.hid (by unfold angN; rw [hy, hx, hz]; rfl)
        obtain ⟨f1, g1, hC1, hD1⟩ := conv_narrow _ (hB.narrow (by omega))
        have HD1 := Lib.hid hD1
        have HB := Lib.hid hB
        obtain ⟨ly, gy, cy⟩ := conv_widen_fin y hy w
        obtain ⟨lx, gx, cx⟩ := conv_widen_fin x hx w
        have LY := Lib.hid ly
        have LX := Lib.hid lx
        have hcase : (rung Ieee.single y = 0 ∧ ¬ rung Ieee.single x = 0) ∨ ¬ rung Ieee.single y = 0 := by
          by_cases h : rung Ieee.single y = 0
          · exact .inl ⟨h, fun h2 => by simp [h, h2] at hz⟩
          · exact .inr h
        clear hD1 hB ly lx hy hx hz
        rcases hcase with ⟨h1, h2⟩ | h1
        · rw [decide_eq_true h1] at zy
          rw [decide_eq_false h2] at zx
          clear h1 h2
          go_enter Try.func23, Try.ntmps23
          go_wp2_with fail
          refine (impl_IsFinite y _).mono ?_
          rintro e w' ⟨n0, rfl, rfl⟩
          rw [HY.out]
          go_wp2_with fail
          refine (impl_IsFinite x _).mono ?_
          rintro e w' ⟨n1, rfl, rfl⟩
          rw [HX.out]
          go_wp2_with fail
          refine (impl_angle _ _ _ LY.out LX.out).mono ?_
          rintro e w' ⟨v, n2, rfl, hv, rfl⟩
          obtain rfl := HB.out.eq hv
          clear hv
          go_wp2
          go_ret
          exact ⟨_, _, rfl, by rw [E.out]; exact (HD1.out _).1, (HD1.out _).2, rfl⟩
        · rw [decide_eq_false h1] at zy
          clear h1
          go_enter Try.func23, Try.ntmps23
          go_wp2_with fail
          refine (impl_IsFinite y _).mono ?_
          rintro e w' ⟨n0, rfl, rfl⟩
          rw [HY.out]
          go_wp2_with fail
          refine (impl_IsFinite x _).mono ?_
          rintro e w' ⟨n1, rfl, rfl⟩
          rw [HX.out]
          go_wp2_with fail
          refine (impl_angle _ _ _ LY.out LX.out).mono ?_
          rintro e w' ⟨v, n2, rfl, hv, rfl⟩
          obtain rfl := HB.out.eq hv
          clear hv
          go_wp2
          go_ret
          exact ⟨_, _, rfl, by rw [E.out]; exact (HD1.out _).1, (HD1.out _).2, rfl⟩

/-! ### The reference's. -/
theorem spec_l01AngleWide_nan (y x : Nat) (w : World) (h : finB .f64 y = false ∨ finB .f64 y = true ∧ finB .f64 x = false) :
    Calls Try.prog 88 #[.float .f64 y, .float .f64 x] w fun e w' => ∃ n, e = .returned (.float .f64 9221120237041090561) ∧ w' = w.drewN n := by
  have hS := fun a b w => run_afv Try.prog .sub rfl 31 .f64 a b w
  rcases h with h | ⟨h, g⟩
  · have FY : ∀ w, (FloatKind.f64.format.order (afv .sub .f64 y y w) 0 != some .eq) = true := fun w => by rw [sub_self_cmp' ⟨cn_afv .sub rfl .f64 _ _ _⟩, h]; rfl
    clear h
    go_enter Try.func88, Try.ntmps88
    go_wp2_with (first | (go_at_call 48; refine (math_NaN _).mono ?_; rintro e w' ⟨rfl, rfl⟩))
    go_ret
    exact ⟨_, rfl, rfl⟩
  · have FY : ∀ w, (FloatKind.f64.format.order (afv .sub .f64 y y w) 0 != some .eq) = false := fun w => by rw [sub_self_cmp' ⟨cn_afv .sub rfl .f64 _ _ _⟩, h]; rfl
    have FX : ∀ w, (FloatKind.f64.format.order (afv .sub .f64 x x w) 0 != some .eq) = true := fun w => by rw [sub_self_cmp' ⟨cn_afv .sub rfl .f64 _ _ _⟩, g]; rfl
    clear h g
    go_enter Try.func88, Try.ntmps88
    go_wp2_with (first | (go_at_call 48; refine (math_NaN _).mono ?_; rintro e w' ⟨rfl, rfl⟩))
    go_ret
    exact ⟨_, rfl, rfl⟩
theorem spec_l01AngleWide_zero (y x : Nat) (w : World) (fy : finB .f64 y = true) (fx : finB .f64 x = true) (hx : (FloatKind.f64.format.order x 0 == some .eq) = true) (hy : (FloatKind.f64.format.order y 0 == some .eq) = true) :
    Calls Try.prog 88 #[.float .f64 y, .float .f64 x] w fun e w' => ∃ n, e = .returned (.float .f64 0) ∧ w' = w.drewN n := by
  have hS := fun a b w => run_afv Try.prog .sub rfl 31 .f64 a b w
  have FY : ∀ w, (FloatKind.f64.format.order (afv .sub .f64 y y w) 0 != some .eq) = false := fun w => by rw [sub_self_cmp' ⟨cn_afv .sub rfl .f64 _ _ _⟩, fy]; rfl
  have FX : ∀ w, (FloatKind.f64.format.order (afv .sub .f64 x x w) 0 != some .eq) = false := fun w => by rw [sub_self_cmp' ⟨cn_afv .sub rfl .f64 _ _ _⟩, fx]; rfl
  clear fy fx
  go_enter Try.func88, Try.ntmps88
  go_wp2
  go_ret
  exact ⟨_, rfl, rfl⟩
theorem spec_l01Narrow (v : Nat) (h : fover .f64 v .f32 = false) (w : World) :
    Calls Try.prog 80 #[.float .f64 v] w fun e w' => ∃ r n, e = .returned (.float .f32 r) ∧ Same .f32 r (fconv .f64 v .f32) ∧ Fits .f32 r ∧ w' = w.drewN n := by
  obtain ⟨f, g, hC, hD⟩ := conv_narrow v h
  have HD := Lib.hid hD
  clear hD h
  go_enter Try.func80, Try.ntmps80
  go_wp2
  go_ret
  exact ⟨_, _, rfl, (HD.out _).1, (HD.out _).2, rfl⟩

set_option maxHeartbeats 2000000 in
theorem spec_l01Angle (y x : Nat) (w : World) : Calls Try.prog 55 #[.float .f32 y, .float .f32 x] w (AngOut y x w) := by
  cases hfin : (finB .f32 y && finB .f32 x) with
  | false =>
    have E : Hid (angN y x = fconv .f64 9221120237041090561 .f32) := Lib.hid (by unfold angN; rw [hfin]; rfl)
    obtain ⟨fy, gy, cy, dy⟩ := conv_widen y
    obtain ⟨fx, gx, cx, dx⟩ := conv_widen x
    have HN : ∀ w1 w2, finB .f64 (fy w1) = false ∨ finB .f64 (fy w1) = true ∧ finB .f64 (fx w2) = false := by
      intro w1 w2
      rw [(dy w1).1.finB, (dx w2).1.finB, wid_finB, wid_finB]
      cases h : finB .f32 y with
      | false => exact .inl rfl
      | true => rw [h] at hfin; exact .inr ⟨rfl, by simpa using hfin⟩
    have HNN := Lib.hid HN
    clear HN dy dx hfin
    go_enter Try.func55, Try.ntmps55
    go_wp2_with fail
    refine (spec_l01AngleWide_nan _ _ _ (HNN.out _ _)).mono ?_
    rintro e w' ⟨n, rfl, rfl⟩
    go_wp2_with fail
    refine (spec_l01Narrow _ (narrow_nan nan_c) _).mono ?_
    rintro e w' ⟨r, n2, rfl, hr, hf, rfl⟩
    go_wp2
    go_ret
    exact ⟨_, _, rfl, by rw [E.out]; exact hr, hf, rfl⟩
  | true =>
    obtain ⟨hy, hx⟩ : finB .f32 y = true ∧ finB .f32 x = true := by simpa using hfin
    have gy : finB .f64 (fwid y) = true := by rw [wid_finB]; exact hy
    have gx : finB .f64 (fwid x) = true := by rw [wid_finB]; exact hx
    have zy : (FloatKind.f64.format.order (fwid y) 0 == some .eq) = decide (rung Ieee.single y = 0) := by
      rw [eql_zero64 (fin_num gy), decide_eq_decide]; exact wid_zero hy
    have zx : (FloatKind.f64.format.order (fwid x) 0 == some .eq) = decide (rung Ieee.single x = 0) := by
      rw [eql_zero64 (fin_num gx), decide_eq_decide]; exact wid_zero hx
    obtain ⟨ly, ny, cy⟩ := conv_widen_fin y hy w
    obtain ⟨lx, nx, cx⟩ := conv_widen_fin x hx w
    have LY := Lib.hid ly
    have LX := Lib.hid lx
    have GY := Lib.hid gy
    have GX := Lib.hid gx
    cases hz : (decide (rung Ieee.single y = 0) && decide (rung Ieee.single x = 0)) with
    | true =>
      have E : Hid (angN y x = fconv .f64 0 .f32) := Lib.hid (by unfold angN; rw [hy, hx, hz]; show 0 = fconv .f64 0 .f32; decide +kernel)
      have h1 : rung Ieee.single y = 0 ∧ rung Ieee.single x = 0 := by simpa using hz
      rw [decide_eq_true h1.1] at zy
      rw [decide_eq_true h1.2] at zx
      have ZY := Lib.hid zy
      have ZX := Lib.hid zx
      clear hfin hy hx hz h1 zy zx ly lx gy gx
      go_enter Try.func55, Try.ntmps55
      go_wp2_with fail
      refine (spec_l01AngleWide_zero _ _ _ GY.out GX.out ZX.out ZY.out).mono ?_
      rintro e w' ⟨n, rfl, rfl⟩
      go_wp2_with fail
      refine (spec_l01Narrow 0 (zero_bd.narrow (by omega)) _).mono ?_
      rintro e w' ⟨r, n2, rfl, hr, hf, rfl⟩
      go_wp2
      go_ret
      exact ⟨_, _, rfl, by rw [E.out]; exact hr, hf, rfl⟩
    | false =>
      have hB := angN_bd hy hx hz
      have E : Hid (angN y x = fconv .f64 (angW (fwid y) (fwid x)) .f32) := Lib.hid (by unfold angN; rw [hy, hx, hz]; rfl)
      have HB := Lib.hid hB
      have hcase : Hid ((FloatKind.f64.format.order (fwid x) 0 == some .eq) = false ∨ (FloatKind.f64.format.order (fwid x) 0 == some .eq) = true ∧ (FloatKind.f64.format.order (fwid y) 0 == some .eq) = false) := Lib.hid (by
        rw [zx, zy]
        by_cases h : rung Ieee.single x = 0
        · refine .inr ⟨decide_eq_true h, decide_eq_false fun h2 => ?_⟩
          simp [h, h2] at hz
        · exact .inl (decide_eq_false h))
      clear hfin hy hx hz zy zx ly lx gy gx hB
      go_enter Try.func55, Try.ntmps55
      go_wp2_with fail
      refine (spec_l01AngleWide _ _ _ LY.out LX.out GY.out GX.out hcase.out).mono ?_
      rintro e w' ⟨v, n2, rfl, hv, rfl⟩
      obtain rfl := HB.out.eq hv
      clear hv
      go_wp2_with fail
      refine (spec_l01Narrow _ (HB.out.narrow (by omega)) _).mono ?_
      rintro e w' ⟨r, n3, rfl, hr, hf, rfl⟩
      go_wp2
      go_ret
      exact ⟨_, _, rfl, by rw [E.out]; exact hr, hf, rfl⟩

theorem walk_FnExactAngleTurns (y x : Nat) (w : World) (_ : (Lit.float .f32 y).wf = true) (_ : (Lit.float .f32 x).wf = true) :
    Calls Try.prog 6 #[.float .f32 y, .float .f32 x] w fun e w' => e = .returned (.bool true) ∧ Below w.heap.size w w' := by
  go_enter Try.func6, Try.ntmps6
  go_wp2_with (first | (go_at_call 22; go_in) | (go_at_call 55; refine (spec_l01Angle _ _ _).mono ?_; rintro e w' ⟨r0, n0, rfl, ⟨hs⟩, hl0, rfl⟩) | (go_at_call 23; refine (impl_AngleTurns _ _ _).mono ?_; rintro e w' ⟨r0, n0, rfl, ⟨hs⟩, hl0, rfl⟩) | (refine wpList_farith rfl _ _ _ _ _ rfl rfl _ _ _ rfl rfl ?_; rintro r n ⟨hr⟩ hl; simp only [fbin] at hr) | (refine wpList_fwid rfl _ _ _ rfl _ rfl (by rw [Try.underlying27]; rfl) Try.underlying31 ?_; rintro r n ⟨hr⟩ hl) | (go_at_call 19; refine (sameFloat_true _ _ _ ⟨by simp only [fwid, fconv, *]⟩).mono ?_; rintro e w' ⟨n5, rfl, rfl⟩))
  all_goals (go_ret; exact ⟨rfl, by first | exact Below.refl _ _ | exact below_drewN (Below.refl _ _) _⟩)

end Go.Proofs.Ytcnamhmoocdccaa
