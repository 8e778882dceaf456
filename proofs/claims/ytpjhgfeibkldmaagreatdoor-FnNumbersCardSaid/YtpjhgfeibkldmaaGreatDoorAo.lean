/- AngleTurns: the reference's and the program's, and the law walked. Under no condition. -/
import Derived.Test.YtpjhgfeibkldmaaGreatDoorAn
namespace Go.Proofs.YtpjhgfeibkldmaaGreatDoor
open Go Go.RowKit
set_option linter.unusedVariables false
set_option linter.unusedSimpArgs false
set_option exponentiation.threshold 3000

theorem math_NaN (w : World) : Calls Tryz.prog 66 #[] w fun e w' => e = .returned (.float .f64 9221120237041090561) ∧ w = w' := by
  go_enter Tryz.func66, Tryz.ntmps66
  go_wp2_with (first | (go_at_call 83; go_in))
  go_ret
  exact ⟨rfl, rfl⟩
theorem nan_c : isN .f64 9221120237041090561 = true := by decide +kernel

/-- A 64-bit number narrowed, in whatever world. -/
theorem conv_narrow (v : Nat) (h : fover .f64 v .f32 = false) : ∃ (f g : World → Nat), (∀ w, (convert 46 28 (.float .f64 v)).run Tryz.prog w = .ok (.float .f32 (f w)) (w.drewN (g w))) ∧ ∀ w, Same .f32 (f w) (fconv .f64 v .f32) ∧ Fits .f32 (f w) := by
  have hh : ∀ w, ∃ p : Nat × Nat, (convert 46 28 (.float .f64 v)).run Tryz.prog w = .ok (.float .f32 p.1) (w.drewN p.2) ∧ Same .f32 p.1 (fconv .f64 v .f32) ∧ Fits .f32 p.1 := by
    intro w
    obtain ⟨r, n, h1, h2, h3⟩ := run_fconv (P := Tryz.prog) 46 28 .f64 .f32 (by decide) v w (by rw [Tryz.underlying46]; rfl) Tryz.underlying28
    exact ⟨(r, n), h1, h2 h, h3⟩
  obtain ⟨f, hf⟩ := Classical.skolem.1 hh
  exact ⟨fun w => (f w).1, fun w => (f w).2, fun w => (hf w).1, fun w => (hf w).2⟩
/-- A 32-bit number widened, in whatever world. -/
theorem conv_widen (x : Nat) : ∃ (f g : World → Nat), (∀ w, (convert 28 46 (.float .f32 x)).run Tryz.prog w = .ok (.float .f64 (f w)) (w.drewN (g w))) ∧ ∀ w, Same .f64 (f w) (fwid x) ∧ Fits .f64 (f w) := by
  have hh : ∀ w, ∃ p : Nat × Nat, (convert 28 46 (.float .f32 x)).run Tryz.prog w = .ok (.float .f64 p.1) (w.drewN p.2) ∧ Same .f64 p.1 (fwid x) ∧ Fits .f64 p.1 := by
    intro w
    obtain ⟨r, n, h1, h2, h3⟩ := run_fconv (P := Tryz.prog) 28 46 .f32 .f64 (by decide) x w (by rw [Tryz.underlying28]; rfl) Tryz.underlying46
    exact ⟨(r, n), h1, h2 (fover_wid x), h3⟩
  obtain ⟨f, hf⟩ := Classical.skolem.1 hh
  exact ⟨fun w => (f w).1, fun w => (f w).2, fun w => (hf w).1, fun w => (hf w).2⟩
theorem conv_widen_fin (x : Nat) (h : finB .f32 x = true) (w0 : World) : fwid x < 2 ^ 64 ∧ ∃ (g : World → Nat), (∀ w, (convert 28 46 (.float .f32 x)).run Tryz.prog w = .ok (.float .f64 (fwid x)) (w.drewN (g w))) := by
  obtain ⟨f, g, h1, h2⟩ := conv_widen x
  have hn : isN .f64 (fwid x) = false := by rw [wid_isN]; exact fin_num h
  have e : ∀ w, f w = fwid x := fun w => (h2 w).1.eq hn
  refine ⟨?_, g, fun w => ?_⟩
  · have := (h2 w0).2; rw [e] at this; exact this
  · rw [h1, e]

theorem eql_zero (x : Nat) : (FloatKind.f32.format.order x 0 == some .eq) = decide (rung Ieee.single x = 0) := by
  have h := neq_zero x
  have h2 : (FloatKind.f32.format.order x 0 == some .eq) = !(FloatKind.f32.format.order x 0 != some .eq) := by simp [bne]
  rw [h2, h]
  by_cases hz : rung Ieee.single x = 0
  · simp [hz]
  · have : 0 < rung Ieee.single x := by omega
    simp [hz, this]
theorem eql_zero64 {x : Nat} (hn : isN .f64 x = false) : (FloatKind.f64.format.order x 0 == some .eq) = decide (rung Ieee.double x = 0) := by
  rw [eql_num hn (zero_num .f64), zero_sval, decide_eq_decide]
  have h0 : mag Ieee.double 0 = 0 := by decide +kernel
  constructor
  · intro h
    refine Classical.byContradiction fun hz => ?_
    have hm := magB_lt Ieee.double.binade (binade_pos _) (Nat.pos_of_ne_zero hz)
    have hm' : 0 < mag Ieee.double (rung Ieee.double x) := by unfold mag; omega
    have h' : (if sgn Ieee.double x then -(mag Ieee.double (rung Ieee.double x) : Int) else (mag Ieee.double (rung Ieee.double x) : Int)) = 0 := h
    split at h' <;> omega
  · intro hz
    show (if sgn Ieee.double x then -(mag Ieee.double (rung Ieee.double x) : Int) else (mag Ieee.double (rung Ieee.double x) : Int)) = 0
    rw [hz, h0]; simp
theorem wid_zero {x : Nat} (h : finB .f32 x = true) : rung Ieee.double (fwid x) = 0 ↔ rung Ieee.single x = 0 := by
  have hx : rung Ieee.single x < Ieee.single.infRung := by unfold finB at h; exact of_decide_eq_true h
  obtain ⟨c, c1, c2, c3⟩ := wid_fin hx
  have hM := Ieee.double.infRung_lt
  rw [c2, rung_word _ _ _ (by omega)]
  have hs0 : mag Ieee.single 0 = 0 := by decide
  have hd0 : mag Ieee.double 0 = 0 := by decide +kernel
  constructor
  · intro hc
    rw [hc, hd0] at c3
    have : mag Ieee.single (rung Ieee.single x) = 0 := by
      rcases Nat.mul_eq_zero.1 c3.symm with h | h
      · exact h
      · exact absurd h (Nat.ne_of_gt (Nat.two_pow_pos 925))
    exact mag_inj _ (this.trans hs0.symm)
  · intro hr
    rw [hr, hs0, Nat.zero_mul] at c3
    exact mag_inj _ (c3.trans hd0.symm)

/-- What AngleTurns answers. -/
noncomputable def angN (y x : Nat) : Nat :=
  if finB .f32 y && finB .f32 x then (if decide (rung Ieee.single y = 0) && decide (rung Ieee.single x = 0) then 0 else fconv .f64 (angW (fwid y) (fwid x)) .f32) else fconv .f64 9221120237041090561 .f32
theorem angN_bd {y x : Nat} (fy : finB .f32 y = true) (fx : finB .f32 x = true) (hz : (decide (rung Ieee.single y = 0) && decide (rung Ieee.single x = 0)) = false) : Bd 82 (angW (fwid y) (fwid x)) := by
  have gy : finB .f64 (fwid y) = true := by rw [wid_finB]; exact fy
  have gx : finB .f64 (fwid x) = true := by rw [wid_finB]; exact fx
  refine angW_bd (by unfold finB at gy; exact of_decide_eq_true gy) (by unfold finB at gx; exact of_decide_eq_true gx) ?_
  rw [wid_zero fy, wid_zero fx]
  simpa using hz

def AngOut (y x : Nat) (w : World) (e : Ending) (w' : World) : Prop := ∃ r n, e = .returned (.float .f32 r) ∧ Same .f32 r (angN y x) ∧ Fits .f32 r ∧ w' = w.drewN n

set_option maxHeartbeats 2000000 in
theorem impl_AngleTurns (y x : Nat) (w : World) : Calls Tryz.prog 34 #[.float .f32 y, .float .f32 x] w (AngOut y x w) := by
  obtain ⟨f0, g0, hC0, hD0⟩ := conv_narrow 9221120237041090561 (narrow_nan nan_c)
  have HD0 := Lib.hid hD0
  clear hD0
  cases hy : finB .f32 y with
  | false =>
    have E : Hid (angN y x = fconv .f64 9221120237041090561 .f32) := Lib.hid (by simp [angN, hy])
    have HY := Lib.hid hy
    clear hy
    go_enter Tryz.func34, Tryz.ntmps34
    go_wp2_with (first | (go_at_call 61; refine (impl_IsFinite y _).mono ?_; rintro e w' ⟨n0, rfl, rfl⟩; rw [HY.out]) | (go_at_call 66; refine (math_NaN _).mono ?_; rintro e w' ⟨rfl, rfl⟩))
    go_ret
    exact ⟨_, _, rfl, by rw [E.out]; exact (HD0.out _).1, (HD0.out _).2, rfl⟩
  | true =>
    cases hx : finB .f32 x with
    | false =>
      have E : Hid (angN y x = fconv .f64 9221120237041090561 .f32) := Lib.hid (by simp [angN, hx])
      have HY := Lib.hid hy
      have HX := Lib.hid hx
      clear hy hx
      go_enter Tryz.func34, Tryz.ntmps34
      go_wp2_with fail
      refine (impl_IsFinite y _).mono ?_
      rintro e w' ⟨n0, rfl, rfl⟩
      rw [HY.out]
      go_wp2_with fail
      refine (impl_IsFinite x _).mono ?_
      rintro e w' ⟨n1, rfl, rfl⟩
      rw [HX.out]
      go_wp2_with (first | (go_at_call 66; refine (math_NaN _).mono ?_; rintro e w' ⟨rfl, rfl⟩))
      go_ret
      exact ⟨_, _, rfl, by rw [E.out]; exact (HD0.out _).1, (HD0.out _).2, rfl⟩
    | true =>
      have HY := Lib.hid hy
      have HX := Lib.hid hx
      have zy := eql_zero y
      have zx := eql_zero x
      cases hz : (decide (rung Ieee.single y = 0) && decide (rung Ieee.single x = 0)) with
      | true =>
        have E : Hid (angN y x = 0) := Lib.hid (by unfold angN; rw [hy, hx, hz]; rfl)
        have h1 : rung Ieee.single y = 0 ∧ rung Ieee.single x = 0 := by simpa using hz
        rw [decide_eq_true h1.1] at zy
        rw [decide_eq_true h1.2] at zx
        clear hy hx hz h1
        go_enter Tryz.func34, Tryz.ntmps34
        go_wp2_with fail
        refine (impl_IsFinite y _).mono ?_
        rintro e w' ⟨n0, rfl, rfl⟩
        rw [HY.out]
        go_wp2_with fail
        refine (impl_IsFinite x _).mono ?_
        rintro e w' ⟨n1, rfl, rfl⟩
        rw [HX.out]
        go_wp2
        go_ret
        exact ⟨_, _, rfl, by rw [E.out]; exact Same.refl _ _, by unfold Fits; decide, rfl⟩
      | false =>
        have hB := angN_bd hy hx hz
        have E : Hid (angN y x = fconv .f64 (angW (fwid y) (fwid x)) .f32) := Lib.hid (by unfold angN; rw [hy, hx, hz]; rfl)
        obtain ⟨f1, g1, hC1, hD1⟩ := conv_narrow _ (hB.narrow (by omega))
        have HD1 := Lib.hid hD1
        have HB := Lib.hid hB
        obtain ⟨ly, gy, cy⟩ := conv_widen_fin y hy w
        obtain ⟨lx, gx, cx⟩ := conv_widen_fin x hx w
        have LY := Lib.hid ly
        have LX := Lib.hid lx
        have hcase : (rung Ieee.single y = 0 ∧ ¬ rung Ieee.single x = 0) ∨ ¬ rung Ieee.single y = 0 := by
          by_cases h : rung Ieee.single y = 0
          · exact .inl ⟨h, fun h2 => by simp [h, h2] at hz⟩
          · exact .inr h
        clear hD1 hB ly lx hy hx hz
        rcases hcase with ⟨h1, h2⟩ | h1
        · rw [decide_eq_true h1] at zy
          rw [decide_eq_false h2] at zx
          clear h1 h2
          go_enter Tryz.func34, Tryz.ntmps34
          go_wp2_with fail
          refine (impl_IsFinite y _).mono ?_
          rintro e w' ⟨n0, rfl, rfl⟩
          rw [HY.out]
          go_wp2_with fail
          refine (impl_IsFinite x _).mono ?_
          rintro e w' ⟨n1, rfl, rfl⟩
          rw [HX.out]
          go_wp2_with fail
          refine (impl_angle _ _ _ LY.out LX.out).mono ?_
          rintro e w' ⟨v, n2, rfl, hv, rfl⟩
          obtain rfl := HB.out.eq hv
          clear hv
          go_wp2
          go_ret
          exact ⟨_, _, rfl, by rw [E.out]; exact (HD1.out _).1, (HD1.out _).2, rfl⟩
        · rw [decide_eq_false h1] at zy
          clear h1
          go_enter Tryz.func34, Tryz.ntmps34
          go_wp2_with fail
          refine (impl_IsFinite y _).mono ?_
          rintro e w' ⟨n0, rfl, rfl⟩
          rw [HY.out]
          go_wp2_with fail
          refine (impl_IsFinite x _).mono ?_
          rintro e w' ⟨n1, rfl, rfl⟩
          rw [HX.out]
          go_wp2_with fail
          refine (impl_angle _ _ _ LY.out LX.out).mono ?_
          rintro e w' ⟨v, n2, rfl, hv, rfl⟩
          obtain rfl := HB.out.eq hv
          clear hv
          go_wp2
          go_ret
          exact ⟨_, _, rfl, by rw [E.out]; exact (HD1.out _).1, (HD1.out _).2, rfl⟩

/-! ### The reference's. -/
theorem spec_l01Narrow (v : Nat) (h : fover .f64 v .f32 = false) (w : World) :
    Calls Tryz.prog 72 #[.float .f64 v] w fun e w' => ∃ r n, e = .returned (.float .f32 r) ∧ Same .f32 r (fconv .f64 v .f32) ∧ Fits .f32 r ∧ w' = w.drewN n := by
  obtain ⟨f, g, hC, hD⟩ := conv_narrow v h
  have HD := Lib.hid hD
  clear hD h
  go_enter Tryz.func72, Tryz.ntmps72
  go_wp2
  go_ret
  exact ⟨_, _, rfl, (HD.out _).1, (HD.out _).2, rfl⟩

end Go.Proofs.YtpjhgfeibkldmaaGreatDoor

