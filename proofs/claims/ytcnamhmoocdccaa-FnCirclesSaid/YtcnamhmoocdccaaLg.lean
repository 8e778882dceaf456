/- Logarithms: halving and doubling by bits, small whole numbers, bounds. Under no condition. -/
import Derived.Test.YtcnamhmoocdccaaPh
namespace Go.Proofs.Ytcnamhmoocdccaa
open Go
set_option linter.unusedVariables false
set_option linter.unusedSimpArgs false
set_option exponentiation.threshold 5000

theorem inf64 : Ieee.double.infRung = 2047 * 2 ^ 52 := by decide
theorem rung_small {b : Nat} (h : b < 2047 * 2 ^ 52) : rung Ieee.double b = b ∧ sgn Ieee.double b = false := by
  have hs : Ieee.double.signWeight = 2 ^ 63 := by decide
  unfold rung sgn
  rw [hs]
  have : b < 2 ^ 63 := by omega
  exact ⟨Nat.mod_eq_of_lt this, by rw [Nat.div_eq_of_lt this]; rfl⟩
theorem word_pos (c : Nat) : Ieee.double.word false c = c := rfl
/-- A number that is normal, read by its bits. -/
theorem read_norm {b : Nat} (h0 : 2 ^ 52 ≤ b) (h : b < 2047 * 2 ^ 52) : ∃ m e : Nat, Ieee.double.read b = .number false m (Ieee.double.leastPlace + (e : Int)) ∧ m * 2 ^ e = mag Ieee.double b ∧ 2 ^ 52 ≤ m ∧ m < 2 * 2 ^ 52 ∧ b = e * 2 ^ 52 + m := by
  obtain ⟨hr, hs⟩ := rung_small h
  obtain ⟨m, e, h1, h2, h3, h4⟩ := read_fin Ieee.double b (by rw [hr, inf64]; exact h)
  rw [hr] at h2 h4
  rw [hs] at h1
  have hB : Ieee.double.binade = 2 ^ 52 := rfl
  rw [hB] at h3 h4
  have hm : 2 ^ 52 ≤ m := by
    refine Nat.not_lt.1 fun hlt => ?_
    have hmag : mag Ieee.double b = magB (2 ^ 52) b := rfl
    by_cases he : e = 0
    · subst he; omega
    · have e1 := magB_comb (2 ^ 52) (b / 2 ^ 52 - 1) (2 ^ 52 + b % 2 ^ 52) (Nat.two_pow_pos _) (by have := Nat.mod_lt b (Nat.two_pow_pos 52); omega) (.inr (Nat.le_add_right _ _))
      have hb : b = e * 2 ^ 52 + m := h4
      have hdiv : b / 2 ^ 52 = e := by rw [hb]; omega
      have hmod : b % 2 ^ 52 = m := by rw [hb]; omega
      have hcomb : (b / 2 ^ 52 - 1) * 2 ^ 52 + (2 ^ 52 + b % 2 ^ 52) = b := by rw [hdiv, hmod]; omega
      rw [hcomb] at e1
      rw [hmag, e1, hdiv, hmod] at h2
      obtain ⟨k, rfl⟩ : ∃ k, e = k + 1 := ⟨e - 1, by omega⟩
      rw [Nat.add_sub_cancel, Nat.pow_succ, ← Nat.mul_assoc, Nat.mul_right_comm] at h2
      have := Nat.eq_of_mul_eq_mul_right (Nat.two_pow_pos k) h2
      omega
  exact ⟨m, e, h1, h2, hm, h3, h4⟩
theorem two_read : Ieee.double.read 4611686018427387904 = .number false (2 ^ 52) (Ieee.double.leastPlace + ((1023 : Nat) : Int)) := by decide +kernel
theorem log2_norm {m : Nat} (h0 : 2 ^ 52 ≤ m) (h1 : m < 2 * 2 ^ 52) : m.log2 = 52 := by
  have hne : m ≠ 0 := by omega
  refine Nat.le_antisymm ?_ ?_
  · have : m.log2 < 53 := (Nat.log2_lt hne).2 (by omega)
    omega
  · exact (Nat.le_log2 hne).2 h0
/-- Half of a number. -/
theorem half_bits {b c : Nat} (hbc : b = c + 2 ^ 52) (h0 : 2 ^ 52 ≤ c) (h : b < 2047 * 2 ^ 52) : fdiv .f64 b 4611686018427387904 = c := by
  obtain ⟨m, e, h1, h2, h3, h4, h5⟩ := read_norm (by omega) h
  rw [fdiv_eq]
  show ((Ieee.double.div b 4611686018427387904).getD (nanb .f64)) = _
  unfold Ieee.Format.div
  rw [h1, two_read]
  unfold Ieee.Datum.quotient
  dsimp only
  have hl : (2 ^ 52 : Nat).log2 = 52 := log2_norm (Nat.le_refl _) (by omega)
  have hfb : Ieee.double.fractionBits + 2 + 52 - 52 = 54 := by decide
  rw [if_neg (Nat.ne_of_gt (Nat.two_pow_pos 52)), log2_norm h3 h4, hl, hfb, Option.map_some, Option.getD_some, Nat.shiftLeft_eq]
  have d0 : (2 : Nat) ^ 54 = 4 * 2 ^ 52 := by decide +kernel
  have d1 : m * 2 ^ 54 = m * 4 * 2 ^ 52 := by rw [d0, Nat.mul_assoc]
  rw [d1, Nat.mul_div_cancel _ (Nat.two_pow_pos 52), Nat.mul_mod_left]
  have he : 1 ≤ e := by omega
  have hc : c = (e - 1) * 2 ^ 52 + m := by omega
  have hcm : mag Ieee.double c = m * 2 ^ (e - 1) := by
    rw [hc]
    exact magB_comb (2 ^ 52) (e - 1) m (Nat.two_pow_pos _) (by omega) (.inr h3)
  refine nearest_exact Ieee.double (false ^^ false) _ _ c (by rw [inf64]; omega) ?_
  rw [hcm, least64]
  have hz : (0 != 0 : Bool).toNat = 0 := rfl
  rw [hz, Nat.add_zero]
  have p1 : (-1074 + (e : Int) - (-1074 + ((1023 : Nat) : Int)) - ((54 : Nat) : Int) - 1 - -1074).toNat = e - 4 := by omega
  have p2 : (-1074 - (-1074 + (e : Int) - (-1074 + ((1023 : Nat) : Int)) - ((54 : Nat) : Int) - 1)).toNat = 4 - e := by omega
  rw [p1, p2]
  by_cases h4e : 4 ≤ e
  · rw [show 4 - e = 0 by omega, Nat.pow_zero, Nat.mul_one]
    have t1 : e - 1 = 3 + (e - 4) := by omega
    have t2 : 2 * (m * 4) = m * 2 ^ 3 := by omega
    rw [t1, t2, Nat.pow_add, Nat.mul_assoc]
  · have : e = 1 ∨ e = 2 ∨ e = 3 := by omega
    rcases this with rfl | rfl | rfl <;> simp <;> omega
/-- Twice a number. -/
theorem twice_bits {b : Nat} (h0 : 2 ^ 52 ≤ b) (h : b < 2046 * 2 ^ 52) : fmul .f64 b 4611686018427387904 = b + 2 ^ 52 := by
  obtain ⟨m, e, h1, h2, h3, h4, h5⟩ := read_norm h0 (by omega)
  rw [fmul_eq]
  show ((Ieee.double.mul b 4611686018427387904).getD (nanb .f64)) = _
  unfold Ieee.Format.mul
  rw [h1, two_read]
  unfold Ieee.Datum.product
  rw [Option.map_some, Option.getD_some]
  have hc : b + 2 ^ 52 = (e + 1) * 2 ^ 52 + m := by omega
  have hcm : mag Ieee.double (b + 2 ^ 52) = m * 2 ^ (e + 1) := by
    rw [hc]
    exact magB_comb (2 ^ 52) (e + 1) m (Nat.two_pow_pos _) (by omega) (.inr h3)
  refine nearest_exact Ieee.double (false ^^ false) _ _ (b + 2 ^ 52) (by rw [inf64]; omega) ?_
  rw [hcm, least64]
  have p1 : (-1074 + (e : Int) + (-1074 + ((1023 : Nat) : Int)) - -1074).toNat = e - 51 := by omega
  have p2 : (-1074 - (-1074 + (e : Int) + (-1074 + ((1023 : Nat) : Int)))).toNat = 51 - e := by omega
  rw [p1, p2]
  by_cases he : 51 ≤ e
  · rw [show 51 - e = 0 by omega, Nat.pow_zero, Nat.mul_one, Nat.mul_assoc, ← Nat.pow_add, show 52 + (e - 51) = e + 1 by omega]
  · rw [show e - 51 = 0 by omega, Nat.pow_zero, Nat.mul_one, Nat.mul_assoc, ← Nat.pow_add, show e + 1 + (51 - e) = 52 by omega]

/-- How numbers that are not negative stand. -/
theorem num_small {b : Nat} (h : b < 2047 * 2 ^ 52) : isN .f64 b = false := by
  rw [isN_eq]
  show decide (Ieee.double.infRung < rung Ieee.double b) = false
  rw [(rung_small h).1, inf64, decide_eq_false_iff_not]; omega
theorem val_small {b : Nat} (h : b < 2047 * 2 ^ 52) : sval Ieee.double b = (mag Ieee.double b : Int) := by
  rw [sgn_val (rung_small h).2, (rung_small h).1]
theorem ge_bits {a b : Nat} (ha : a < 2047 * 2 ^ 52) (hb : b < 2047 * 2 ^ 52) : geD a b = decide (b ≤ a) := by
  rw [geD_num (num_small ha) (num_small hb), val_small ha, val_small hb, decide_eq_decide]
  constructor
  · intro h; exact le_of_magB_le _ (binade_pos Ieee.double) (Int.ofNat_le.1 h)
  · intro h; exact Int.ofNat_le.2 (magB_le _ (binade_pos Ieee.double) h)
theorem lt_bits {a b : Nat} (ha : a < 2047 * 2 ^ 52) (hb : b < 2047 * 2 ^ 52) : (FloatKind.f64.format.order a b == some .lt) = decide (a < b) := by
  rw [lss_num (num_small ha) (num_small hb)]
  show decide (sval Ieee.double a < sval Ieee.double b) = _
  rw [val_small ha, val_small hb, decide_eq_decide]
  constructor
  · intro h; exact lt_of_magB_lt _ (binade_pos Ieee.double) (Int.ofNat_lt.1 h)
  · intro h; exact Int.ofNat_lt.2 (magB_lt _ (binade_pos Ieee.double) h)

theorem int_up : ∀ n : Nat, n < 300 → fadd .f64 (floatOfInt .f64 (n : Int)) 4607182418800017408 = floatOfInt .f64 ((n : Int) + 1) := by decide +kernel
theorem int_down : ∀ n : Nat, n < 300 → fsub .f64 (floatOfInt .f64 (-(n : Int))) 4607182418800017408 = floatOfInt .f64 (-(n : Int) - 1) := by decide +kernel
theorem int_bd : ∀ n : Nat, n < 300 → Bd 9 (floatOfInt .f64 (n : Int)) ∧ Bd 9 (floatOfInt .f64 (-(n : Int))) := by
  have h : ∀ n : Nat, n < 300 → (rung FloatKind.f64.format (floatOfInt .f64 (n : Int)) < FloatKind.f64.format.infRung ∧ mag FloatKind.f64.format (rung FloatKind.f64.format (floatOfInt .f64 (n : Int))) ≤ 2 ^ (1074 + 9)) ∧ (rung FloatKind.f64.format (floatOfInt .f64 (-(n : Int))) < FloatKind.f64.format.infRung ∧ mag FloatKind.f64.format (rung FloatKind.f64.format (floatOfInt .f64 (-(n : Int)))) ≤ 2 ^ (1074 + 9)) := by decide +kernel
  exact fun n hn => ⟨⟨(h n hn).1.1, (h n hn).1.2⟩, ⟨(h n hn).2.1, (h n hn).2.2⟩⟩

end Go.Proofs.Ytcnamhmoocdccaa
