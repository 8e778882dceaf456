/- Numbers widened and made narrow again, flushed, summed up. Under no condition. -/
import Derived.Test.YtpjhgfeibkldmaaGreatDoorNa
import Derived.Test.YtpjhgfeibkldmaaGreatDoorCt
import Derived.Test.YtpjhgfeibkldmaaGreatDoorAo
import Derived.Test.YtpjhgfeibkldmaaGreatDoorSj
namespace Go.Proofs.YtpjhgfeibkldmaaGreatDoor
open Go Go.RowKit
set_option linter.unusedVariables false
set_option linter.unusedSimpArgs false
set_option exponentiation.threshold 5000

theorem single_word {x : Nat} (hx : x < 2 ^ 32) : Ieee.single.word (sgn Ieee.single x) (rung Ieee.single x) = x := by
  unfold Ieee.Format.word sgn rung
  rw [show Ieee.single.signWeight = 2147483648 by decide]
  by_cases h : x / 2147483648 % 2 = 1
  · rw [if_pos (by simp [h])]; omega
  · rw [if_neg (by simp [h])]; omega
theorem sgn_words (f : Ieee.Format) (s : Bool) (r : Nat) (h : r < f.signWeight) : sgn f (f.word s r) = s := by
  unfold sgn Ieee.Format.word
  cases s with
  | false => rw [if_neg (by decide), Nat.div_eq_of_lt h]; rfl
  | true =>
    rw [if_pos rfl, Nat.add_div_left _ (by omega), Nat.div_eq_of_lt h]; rfl
theorem back_fin {x : Nat} (hx : x < 2 ^ 32) (h : rung Ieee.single x < Ieee.single.infRung) : ∃ s m e, Ieee.double.read (fwid x) = .number s m e ∧ Ieee.single.write (.number s m e) = x := by
  have hM := Ieee.double.infRung_lt
  obtain ⟨c, c1, c2, c3⟩ := wid_fin h
  have er : rung Ieee.double (fwid x) = c := by rw [c2]; exact rung_word Ieee.double _ c (by omega)
  obtain ⟨m, e, h1, h2, _⟩ := read_fin Ieee.double (fwid x) (by rw [er]; exact c1)
  rw [er, c3] at h2
  have hs : sgn Ieee.double (fwid x) = sgn Ieee.single x := by rw [c2]; exact sgn_words Ieee.double _ c (by omega)
  rw [hs] at h1
  refine ⟨_, m, _, h1, ?_⟩
  obtain ⟨R, r1, r2, r3, r4⟩ := nearest_rung Ieee.single (sgn Ieee.single x) m (Ieee.double.leastPlace + (e : Int))
  show Ieee.single.nearest _ m (Ieee.double.leastPlace + (e : Int)) = x
  rw [r1]
  have l1 : Ieee.single.leastPlace = -149 := by decide
  have l2 : Ieee.double.leastPlace = -1074 := by decide
  rw [l1, l2] at r3 r4
  have key : m * 2 ^ (-1074 + (e : Int) - -149).toNat = mag Ieee.single (rung Ieee.single x) * 2 ^ (-149 - (-1074 + (e : Int))).toNat := by
    by_cases he : 925 ≤ e
    · rw [show (-1074 + (e : Int) - -149).toNat = e - 925 by omega, show (-149 - (-1074 + (e : Int))).toNat = 0 by omega, Nat.pow_zero, Nat.mul_one]
      refine Nat.eq_of_mul_eq_mul_right (Nat.two_pow_pos 925) ?_
      rw [Nat.mul_assoc, ← Nat.pow_add, Nat.sub_add_cancel he]
      exact h2
    · rw [show (-1074 + (e : Int) - -149).toNat = 0 by omega, show (-149 - (-1074 + (e : Int))).toNat = 925 - e by omega, Nat.pow_zero, Nat.mul_one]
      refine Nat.eq_of_mul_eq_mul_right (Nat.two_pow_pos e) ?_
      rw [Nat.mul_assoc, ← Nat.pow_add, Nat.sub_add_cancel (by omega)]
      exact h2
  have hR : R = rung Ieee.single x := Nat.le_antisymm (r3 _ (Nat.le_of_lt h) (Nat.le_of_eq key)) (r4 _ (Nat.le_of_lt h) (Nat.le_of_eq key.symm))
  rw [hR]
  exact single_word hx
/-- A number widened and made narrow again is itself. -/
theorem narrow_wide {x v : Nat} (hx : x < 2 ^ 32) (h : Same .f64 v (fwid x)) : fover .f64 v .f32 = false ∧ Same .f32 (fconv .f64 v .f32) x := by
  cases hn : isN .f32 x with
  | true =>
    have hw : isN .f64 (fwid x) = true := by rw [wid_isN]; exact hn
    have hv : isN .f64 v = true := h.isN.trans hw
    refine ⟨narrow_nan hv, Same.of_nan ?_ hn⟩
    have e : fconv .f64 v .f32 = nanb .f32 := by
      unfold fconv pconv
      rw [isN_cn, hv]; rfl
    rw [e]; exact isN_nanb .f32
  | false =>
    have hw : isN .f64 (fwid x) = false := by rw [wid_isN]; exact hn
    have ev := h.eq hw
    subst ev
    have hr : ¬ Ieee.single.infRung < rung Ieee.single x := by
      rw [isN_eq] at hn
      exact of_decide_eq_false hn
    have hcn : cn .f64 (fwid x) = fwid x := by unfold cn; rw [hw]; rfl
    by_cases hf : rung Ieee.single x < Ieee.single.infRung
    · obtain ⟨s, m, e, h1, h2⟩ := back_fin hx hf
      refine ⟨?_, ?_⟩
      · unfold fover
        rw [show FloatKind.f64.format.read (fwid x) = _ from h1]
        show (Ieee.single.read (Ieee.single.write (.number s m e))).isInfinity = false
        rw [h2]
        obtain ⟨m', e', h3, _⟩ := read_fin Ieee.single x hf
        rw [h3]; rfl
      · unfold fconv pconv
        rw [hcn, hw]
        show Same .f32 (Ieee.single.write (Ieee.double.read (fwid x))) x
        rw [h1, h2]; exact Same.refl _ _
    · have hi : rung Ieee.single x = Ieee.single.infRung := by omega
      have r1 := read_inf Ieee.single (okF .f32) x hi
      have hcx : cn .f32 x = x := by unfold cn; rw [hn]; rfl
      have e1 : fwid x = Ieee.double.word (sgn Ieee.single x) Ieee.double.infRung := by
        unfold fwid fconv pconv
        rw [hcx, hn]
        show Ieee.double.write (Ieee.single.read x) = _
        rw [r1]; rfl
      have hM := Ieee.double.infRung_lt
      have r2 : Ieee.double.read (fwid x) = .infinity (sgn Ieee.single x) := by
        rw [e1, read_inf Ieee.double (okF .f64) _ (rung_word _ _ _ hM), sgn_words _ _ _ hM]
      refine ⟨?_, ?_⟩
      · unfold fover
        rw [show FloatKind.f64.format.read (fwid x) = _ from r2]
      · unfold fconv pconv
        rw [hcn, hw]
        show Same .f32 (Ieee.single.write (Ieee.double.read (fwid x))) x
        rw [r2]
        show Same .f32 (Ieee.single.word (sgn Ieee.single x) Ieee.single.infRung) x
        rw [← hi, single_word hx]; exact Same.refl _ _
set_option maxRecDepth 100000 in
theorem impl_NarrowNumber (x v : Nat) (w : World) (hx : x < 2 ^ 32) (h : Same .f64 v (fwid x)) : Calls Tryz.prog 36 #[.float .f64 v] w fun e w' => ∃ r n, e = .returned (.float .f32 r) ∧ Same .f32 r x ∧ r < 2 ^ 32 ∧ w' = w.drewN n := by
  obtain ⟨h1, h2⟩ := narrow_wide hx h
  obtain ⟨f, g, c1, c2⟩ := conv_narrow v h1
  have HC := Lib.hid c2
  have HS := Lib.hid h2
  clear h1 h2 h c2
  go_enter Tryz.func36, Tryz.ntmps36
  go_wp2_with fail
  go_ret
  exact ⟨_, _, rfl, (HC.out _).1.trans HS.out, (HC.out _).2, rfl⟩
set_option maxRecDepth 100000 in
theorem flush_calls (x : Nat) (w : World) (hx : x < 2 ^ 32) : Calls Tryz.prog 28 #[.float .f32 x] w fun e w' => ∃ r n, e = .returned (.float .f32 r) ∧ Same .f32 r (flushV x) ∧ r < 2 ^ 32 ∧ w' = w.drewN n := by
  cases hs : subB x with
  | true =>
    refine (impl_FlushNumber x w hx).mono ?_
    rintro e w' ⟨r, n, rfl, h, rfl⟩
    refine ⟨r, n, rfl, h, ?_, rfl⟩
    rw [subB_mod] at hs
    have hs := of_decide_eq_true hs
    have e1 : flushV x = x / 2147483648 * 2147483648 := by unfold flushV; rw [rung_mod, if_pos hs.2]
    have hz0 : (x / 2147483648 * 2147483648) % 2147483648 = 0 := Nat.mul_mod_left _ _
    have hn : isN .f32 (x / 2147483648 * 2147483648) = false := num_low (by omega)
    rw [e1] at h
    rw [h.eq hn]
    omega
  | false =>
    have e4 := flush_not hx hs
    rw [e4]
    have HX := Lib.hid hx
    go_enter Tryz.func28, Tryz.ntmps28
    go_wp2_with (first | (go_at_call 33; refine (impl_IsSubnormal _ _).mono ?_; rintro e w' ⟨n0, rfl, rfl⟩))
    go_ret
    exact ⟨_, _, rfl, Same.refl _ _, HX.out, rfl⟩
set_option maxRecDepth 100000 in
theorem sum_calls (a : Option Addr) (len cap : Nat) (xs : List Nat) (w : World) (hs : Holds w a len (fvals .f32 xs)) (hl : len ≤ 256) :
    Calls Tryz.prog 30 #[.slice a len cap] w fun e w' => ∃ s n, e = .returned (.tuple #[.float .f32 s, .bool true]) ∧ Same .f32 s (accF (sumV xs) len) ∧ s < 2 ^ 32 ∧ w' = w.drewN n := by
  have H := Lib.hid hs.split
  clear hs
  have hd : decide ((256 : Int) < (len : Int)) = false := decide_eq_false (by omega)
  go_enter Tryz.func30, Tryz.ntmps30
  go_wp2
  go_loopw [4, 12] (fun sv i wr => ∃ k : Nat, k ≤ len ∧ i = .int .i64 k ∧ ∃ s n, sv = .float .f32 s ∧ Hid (Same .f32 s (accF (sumV xs) k) ∧ s < 2 ^ 32) ∧ wr = w.drewN n) (fun _ i _ => len - (intOf i).toNat)
  case atStart => exact ⟨0, Nat.zero_le _, rfl, 0, 0, rfl, Lib.hid ⟨Same.refl _ _, by decide⟩, rfl⟩
  case round =>
    obtain ⟨k, hk, rfl, s, n, rfl, HS, rfl⟩ := hrel
    by_cases hlt : k < len
    · rcases H.out with h0 | ⟨b, o, rfl, hb, hc⟩
      · omega
      have h1 : w.cell? ⟨b, o + k, none⟩ = some (.float .f32 (sumV xs k)) := hc k hlt
      clear H hc
      go_wp2_with (first | (refine wpList_farith rfl _ _ _ _ _ rfl rfl _ _ _ rfl rfl ?_; rintro r n ⟨hr⟩ hl; simp only [fbin] at hr) | (refine wpList_fwid rfl _ _ _ rfl _ rfl (by rw [Tryz.underlying28]; rfl) Tryz.underlying46 ?_; rintro r n ⟨hr⟩ hl))
      go_roundw
      case rel => exact ⟨k + 1, by omega, by go_num, _, _, rfl, Lib.hid ⟨acc_step HS.out.1 hr, hl⟩, rfl⟩
      case measure => simp [intOf]; omega
    · have hk2 : k = len := by omega
      subst hk2
      go_wp2
      go_ret2
      exact ⟨_, _, rfl, HS.out.1, HS.out.2, rfl⟩
set_option maxRecDepth 100000 in
theorem quarter_sine : sinN 1048576000 = 1065353216 := by decide +kernel
theorem sine_quarter (w : World) : Calls Tryz.prog 37 #[.float .f32 1048576000] w fun e w' => ∃ n, e = .returned (.float .f32 1065353216) ∧ w' = w.drewN n := by
  refine (impl_SineTurns 1048576000 w).mono ?_
  rintro e w' ⟨r, n, rfl, h, _, rfl⟩
  rw [quarter_sine] at h
  rw [h.eq (by decide +kernel)]
  exact ⟨n, rfl, rfl⟩
theorem angle_of (x y : Nat) (w : World) : Calls Tryz.prog 35 #[.complex .f32 x y] w (AngOut y x w) := by
  have P1 := Lib.hid (fun w => impl_AngleTurns y x w)
  go_enter Tryz.func35, Tryz.ntmps35
  go_wp2_with fail
  refine (P1.out _).mono ?_
  rintro e w' ⟨r, n1, rfl, h1, h2, rfl⟩
  have HH := Lib.hid (And.intro h1 h2)
  clear h1 h2
  go_wp2
  go_ret
  exact ⟨_, _, rfl, HH.out.1, HH.out.2, rfl⟩
end Go.Proofs.YtpjhgfeibkldmaaGreatDoor

