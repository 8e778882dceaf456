/- Truncation of 64-bit numbers, and what is left. Under no condition. -/
import Derived.Test.YtpjhgfeibkldmaaGreatDoorBd
import Derived.Test.YtpjhgfeibkldmaaGreatDoorZa
import Derived.Laws.FloatArith
namespace Go.Proofs.YtpjhgfeibkldmaaGreatDoor
open Go
set_option linter.unusedVariables false
set_option linter.unusedSimpArgs false
set_option exponentiation.threshold 5000

/-- The whole number below the magnitude of x. -/
def whole (x : Nat) : Nat := mag Ieee.double (rung Ieee.double x) / 2 ^ 1074

theorem least64 : Ieee.double.leastPlace = -1074 := by decide

theorem zero_cut (s : Bool) (n d : Nat) : Ieee.Toward.zero.cut s n d = n / 2 ^ d := by
  unfold Ieee.Toward.cut
  simp only [Bool.toNat_false, Nat.add_zero, Nat.shiftLeft_eq, Nat.one_mul]
  by_cases h : d ≤ n.log2 + 2
  · rw [Nat.min_eq_left h]
  · rw [Nat.min_eq_right (by omega)]
    have l2 : n < 2 ^ (n.log2 + 1) := Nat.lt_log2_self
    have h1 : 2 ^ (n.log2 + 1) ≤ 2 ^ (n.log2 + 2) := Nat.pow_le_pow_right (by omega) (by omega)
    have h2 : 2 ^ (n.log2 + 1) ≤ 2 ^ d := Nat.pow_le_pow_right (by omega) (by omega)
    rw [Nat.div_eq_of_lt (by omega), Nat.div_eq_of_lt (by omega)]

theorem integral_fin {x : Nat} (h : rung Ieee.double x < Ieee.double.infRung) : (Ieee.double.read x).integral .zero = .number (sgn Ieee.double x) (whole x) 0 := by
  obtain ⟨m, e, h1, h2, _⟩ := read_fin Ieee.double x h
  rw [h1]
  unfold Ieee.Datum.integral
  dsimp only
  rw [zero_cut, least64, Nat.shiftLeft_eq]
  have : m * 2 ^ (-1074 + (e : Int)).toNat / 2 ^ (-(-1074 + (e : Int))).toNat = whole x := by
    unfold whole
    rw [← h2]
    by_cases he : 1074 ≤ e
    · rw [show (-(-1074 + (e : Int))).toNat = 0 by omega, show (-1074 + (e : Int)).toNat = e - 1074 by omega, Nat.pow_zero, Nat.div_one]
      have : m * 2 ^ e = m * 2 ^ (e - 1074) * 2 ^ 1074 := by rw [Nat.mul_assoc, ← Nat.pow_add, Nat.sub_add_cancel he]
      rw [this, Nat.mul_div_cancel _ (Nat.two_pow_pos _)]
    · rw [show (-(-1074 + (e : Int))).toNat = 1074 - e by omega, show (-1074 + (e : Int)).toNat = 0 by omega, Nat.pow_zero, Nat.mul_one]
      have : (2 : Nat) ^ 1074 = 2 ^ (1074 - e) * 2 ^ e := by rw [← Nat.pow_add, Nat.sub_add_cancel (by omega)]
      rw [this, Nat.mul_div_mul_right _ _ (Nat.two_pow_pos _)]
  rw [this]

/-- A whole number of at most 53 digits is a 64-bit number. -/
theorem whole_rung (T : Nat) (hT : T < 2 ^ 53) : ∃ c, c < Ieee.double.infRung ∧ mag Ieee.double c = T * 2 ^ 1074 ∧ (T = 0 → c = 0) := by
  by_cases h0 : T = 0
  · exact ⟨0, by decide, by rw [h0, Nat.zero_mul]; decide +kernel, fun _ => rfl⟩
  · have l1 : 2 ^ T.log2 ≤ T := Nat.log2_self_le h0
    have l2 : T < 2 ^ (T.log2 + 1) := Nat.lt_log2_self
    have hl : T.log2 ≤ 52 := by
      refine Nat.not_lt.1 fun h => ?_
      have : 2 ^ 53 ≤ 2 ^ T.log2 := Nat.pow_le_pow_right (by omega) (by omega)
      omega
    have hB : Ieee.double.binade = 2 ^ 52 := rfl
    have b1 : 2 ^ 52 ≤ T * 2 ^ (52 - T.log2) := by
      have := Nat.mul_le_mul_right (2 ^ (52 - T.log2)) l1
      rw [← Nat.pow_add, show T.log2 + (52 - T.log2) = 52 by omega] at this
      exact this
    have b2 : T * 2 ^ (52 - T.log2) < 2 * 2 ^ 52 := by
      have := (Nat.mul_lt_mul_right (Nat.two_pow_pos (52 - T.log2))).2 l2
      rw [← Nat.pow_add, show T.log2 + 1 + (52 - T.log2) = 53 by omega] at this
      exact this
    refine ⟨(1022 + T.log2) * 2 ^ 52 + T * 2 ^ (52 - T.log2), ?_, ?_, fun h => absurd h h0⟩
    · have e1 : Ieee.double.infRung = 2047 * 2 ^ 52 := by decide
      rw [e1]
      have : (1022 + T.log2) * 2 ^ 52 ≤ 1074 * 2 ^ 52 := Nat.mul_le_mul_right _ (by omega)
      omega
    · have := magB_comb (2 ^ 52) (1022 + T.log2) (T * 2 ^ (52 - T.log2)) (Nat.two_pow_pos _) (by omega) (.inr b1)
      show magB (2 ^ 52) _ = _
      rw [this, Nat.mul_assoc, ← Nat.pow_add, show 52 - T.log2 + (1022 + T.log2) = 1074 by omega]

theorem write_whole (s : Bool) (T : Nat) (hT : T < 2 ^ 53) : ∃ c, c < Ieee.double.infRung ∧ mag Ieee.double c = T * 2 ^ 1074 ∧ Ieee.double.write (.number s T 0) = Ieee.double.word s c ∧ (T = 0 → c = 0) := by
  obtain ⟨c, h1, h2, h3⟩ := whole_rung T hT
  refine ⟨c, h1, h2, ?_, h3⟩
  refine nearest_exact Ieee.double s T 0 c (Nat.le_of_lt h1) ?_
  rw [h2, least64, show ((0 : Int) - -1074).toNat = 1074 by omega, show ((-1074 : Int) - 0).toNat = 0 by omega, Nat.pow_zero, Nat.mul_one]

/-- The whole part as a 64-bit number, as int64 gives it. -/
def tn (x : Nat) : Nat := floatOfInt .f64 (Ieee.signed (sgn Ieee.double x) (whole x) 0)

theorem signed0 (s : Bool) (T : Nat) : Ieee.signed s T 0 = if s then -(T : Int) else (T : Int) := by
  unfold Ieee.signed; simp
theorem tn_write (x : Nat) : tn x = Ieee.double.write (.number (sgn Ieee.double x && decide (whole x ≠ 0)) (whole x) 0) := by
  unfold tn floatOfInt FloatKind.nearest FloatKind.encode
  rw [signed0]
  have e1 : (if sgn Ieee.double x then -(whole x : Int) else (whole x : Int)).natAbs = whole x := by split <;> omega
  have e2 : decide ((if sgn Ieee.double x then -(whole x : Int) else (whole x : Int)) < 0) = (sgn Ieee.double x && decide (whole x ≠ 0)) := by
    cases sgn Ieee.double x <;> simp only [Bool.false_and, Bool.true_and, if_true, if_false, Bool.false_eq_true]
    · rw [decide_eq_false_iff_not]; omega
    · rw [decide_eq_decide]; omega
  rw [e1, e2]
  rfl

/-- Truncated and with a zero added. -/
theorem trunc_zero {x : Nat} (h : rung Ieee.double x < Ieee.double.infRung) (hw : whole x < 2 ^ 53) : fadd .f64 (Ieee.double.write (.number (sgn Ieee.double x) (whole x) 0)) 0 = tn x := by
  have hM := Ieee.double.infRung_lt
  rw [tn_write]
  obtain ⟨c, c1, c2, c3, c4⟩ := write_whole (sgn Ieee.double x) (whole x) hw
  obtain ⟨d, d1, d2, d3, d4⟩ := write_whole (sgn Ieee.double x && decide (whole x ≠ 0)) (whole x) hw
  have hcd : c = d := mag_inj Ieee.double (c2.trans d2.symm)
  subst hcd
  rw [c3, d3, fadd_eq]
  have hr : rung Ieee.double (Ieee.double.word (sgn Ieee.double x) c) = c := rung_word _ _ _ (by omega)
  have hs : sgn Ieee.double (Ieee.double.word (sgn Ieee.double x) c) = sgn Ieee.double x := sgn_word _ _ _ (by omega)
  obtain ⟨m, e, h1, h2, _⟩ := read_fin Ieee.double (Ieee.double.word (sgn Ieee.double x) c) (by rw [hr]; exact c1)
  obtain ⟨n, g, h3, h4, _⟩ := read_fin Ieee.double 0 (by decide)
  rw [hr] at h2
  rw [hs] at h1
  have hz0 : mag Ieee.double (rung Ieee.double 0) = 0 := by decide +kernel
  have hsz : sgn Ieee.double 0 = false := by decide
  have hn : n = 0 := by
    rw [hz0] at h4
    rcases Nat.mul_eq_zero.1 h4 with h | h
    · exact h
    · exact absurd h (Nat.ne_of_gt (Nat.two_pow_pos g))
  subst hn
  rw [hsz] at h3
  show ((Ieee.double.add _ _).getD (nanb .f64)) = _
  unfold Ieee.Format.add
  rw [h1, h3]
  unfold Ieee.Datum.sum
  dsimp only
  rw [Option.map_some, Option.getD_some]
  have e1 : (Ieee.double.leastPlace + (e : Int) - min (Ieee.double.leastPlace + (e : Int)) (Ieee.double.leastPlace + (g : Int))).toNat = e - min e g := by omega
  have p2 : ∀ k, Ieee.signed false 0 k = 0 := by intro k; unfold Ieee.signed; simp
  rw [e1, p2, Int.add_zero, natAbs_signed]
  have hcut : c = 0 ↔ whole x = 0 := by
    constructor
    · intro h
      rw [h] at c2
      have : mag Ieee.double 0 = 0 := by decide +kernel
      rw [this] at c2
      rcases Nat.mul_eq_zero.1 c2.symm with h | h
      · exact h
      · exact absurd h (Nat.ne_of_gt (Nat.two_pow_pos 1074))
    · exact c4
  have hm0 : m = 0 ↔ whole x = 0 := by
    constructor
    · intro h
      rw [h, Nat.zero_mul] at h2
      rw [← h2] at c2
      rcases Nat.mul_eq_zero.1 c2.symm with h | h
      · exact h
      · exact absurd h (Nat.ne_of_gt (Nat.two_pow_pos 1074))
    · intro h
      rw [h, Nat.zero_mul] at c2
      rw [c2] at h2
      rcases Nat.mul_eq_zero.1 h2 with h | h
      · exact h
      · exact absurd h (Nat.ne_of_gt (Nat.two_pow_pos e))
  have hsign : (if Ieee.signed (sgn Ieee.double x) m (e - min e g) = 0 then (sgn Ieee.double x && false) else decide (Ieee.signed (sgn Ieee.double x) m (e - min e g) < 0)) = (sgn Ieee.double x && decide (whole x ≠ 0)) := by
    have hp := Nat.two_pow_pos (e - min e g)
    have hsg : Ieee.signed (sgn Ieee.double x) m (e - min e g) = if sgn Ieee.double x then -((m * 2 ^ (e - min e g) : Nat) : Int) else ((m * 2 ^ (e - min e g) : Nat) : Int) := by
      unfold Ieee.signed; rw [Nat.shiftLeft_eq]
    rw [hsg]
    by_cases hw0 : whole x = 0
    · have := hm0.2 hw0
      subst this
      simp [hw0]
    · have : 0 < m := Nat.pos_of_ne_zero (fun h => hw0 (hm0.1 h))
      have hpos := Nat.mul_pos this hp
      generalize m * 2 ^ (e - min e g) = q at hpos
      cases sgn Ieee.double x <;> simp only [Bool.false_and, Bool.true_and, if_true, if_false, Bool.false_eq_true]
      · rw [if_neg (by omega), decide_eq_false_iff_not]; omega
      · rw [if_neg (by omega), decide_eq_decide]; omega
  rw [hsign]
  refine nearest_exact Ieee.double _ _ _ c (Nat.le_of_lt c1) ?_
  rw [show (min (Ieee.double.leastPlace + (e : Int)) (Ieee.double.leastPlace + (g : Int)) - Ieee.double.leastPlace).toNat = min e g by omega,
    show (Ieee.double.leastPlace - min (Ieee.double.leastPlace + (e : Int)) (Ieee.double.leastPlace + (g : Int))).toNat = 0 by omega, Nat.pow_zero, Nat.mul_one, Nat.mul_assoc, ← Nat.pow_add, Nat.sub_add_cancel (Nat.min_le_left _ _)]
  exact h2

/-- What is left is at most 1. -/
theorem left_bd {x : Nat} (h : rung Ieee.double x < Ieee.double.infRung) (hw : whole x < 2 ^ 53) : Bd 0 (fsub .f64 x (tn x)) := by
  have hM := Ieee.double.infRung_lt
  obtain ⟨d, d1, d2, d3, d4⟩ := write_whole (sgn Ieee.double x && decide (whole x ≠ 0)) (whole x) hw
  rw [tn_write, d3]
  have hr : rung Ieee.double (Ieee.double.word (sgn Ieee.double x && decide (whole x ≠ 0)) d) = d := rung_word _ _ _ (by omega)
  have hs : sgn Ieee.double (Ieee.double.word (sgn Ieee.double x && decide (whole x ≠ 0)) d) = (sgn Ieee.double x && decide (whole x ≠ 0)) := sgn_word _ _ _ (by omega)
  obtain ⟨m, e, h1, h2, _⟩ := read_fin Ieee.double x h
  obtain ⟨n, g, h3, h4⟩ := opp_read Ieee.double (Ieee.double.word (sgn Ieee.double x && decide (whole x ≠ 0)) d) (by rw [hr]; exact d1)
  rw [hr, d2] at h4
  rw [hs] at h3
  rw [fsub_eq]
  show Bd 0 ((Ieee.double.sub _ _).getD (nanb .f64))
  unfold Ieee.Format.sub
  rw [h1, h3]
  unfold Ieee.Datum.sum
  dsimp only
  rw [Option.map_some, Option.getD_some]
  have e1 : (Ieee.double.leastPlace + (e : Int) - min (Ieee.double.leastPlace + (e : Int)) (Ieee.double.leastPlace + (g : Int))).toNat = e - min e g := by omega
  have e2 : (Ieee.double.leastPlace + (g : Int) - min (Ieee.double.leastPlace + (e : Int)) (Ieee.double.leastPlace + (g : Int))).toNat = g - min e g := by omega
  rw [e1, e2]
  have hk := write_lim .f64 (if Ieee.signed (sgn Ieee.double x) m (e - min e g) + Ieee.signed (!(sgn Ieee.double x && decide (whole x ≠ 0))) n (g - min e g) = 0 then (sgn Ieee.double x && !(sgn Ieee.double x && decide (whole x ≠ 0))) else decide (Ieee.signed (sgn Ieee.double x) m (e - min e g) + Ieee.signed (!(sgn Ieee.double x && decide (whole x ≠ 0))) n (g - min e g) < 0))
    (Ieee.signed (sgn Ieee.double x) m (e - min e g) + Ieee.signed (!(sgn Ieee.double x && decide (whole x ≠ 0))) n (g - min e g)).natAbs (min (Ieee.double.leastPlace + (e : Int)) (Ieee.double.leastPlace + (g : Int))) ((0 + 1022 + 1) * 2 ^ 52) (lt_inf64 _ (by omega)) (by
      rw [pw64]
      show _ * 2 ^ (min (Ieee.double.leastPlace + (e : Int)) (Ieee.double.leastPlace + (g : Int)) - Ieee.double.leastPlace).toNat ≤ _ * 2 ^ (Ieee.double.leastPlace - min (Ieee.double.leastPlace + (e : Int)) (Ieee.double.leastPlace + (g : Int))).toNat
      rw [show (min (Ieee.double.leastPlace + (e : Int)) (Ieee.double.leastPlace + (g : Int)) - Ieee.double.leastPlace).toNat = min e g by omega,
        show (Ieee.double.leastPlace - min (Ieee.double.leastPlace + (e : Int)) (Ieee.double.leastPlace + (g : Int))).toNat = 0 by omega, Nat.pow_zero, Nat.mul_one]
      have hA : m * 2 ^ (e - min e g) * 2 ^ min e g = mag Ieee.double (rung Ieee.double x) := by rw [Nat.mul_assoc, ← Nat.pow_add, Nat.sub_add_cancel (Nat.min_le_left _ _)]; exact h2
      have hB : n * 2 ^ (g - min e g) * 2 ^ min e g = whole x * 2 ^ 1074 := by rw [Nat.mul_assoc, ← Nat.pow_add, Nat.sub_add_cancel (Nat.min_le_right _ _)]; exact h4
      have hT1 : whole x * 2 ^ 1074 ≤ mag Ieee.double (rung Ieee.double x) := Nat.div_mul_le_self _ _
      have hT2 : mag Ieee.double (rung Ieee.double x) < whole x * 2 ^ 1074 + 2 ^ 1074 := by
        have := Nat.lt_div_mul_add (a := mag Ieee.double (rung Ieee.double x)) (Nat.two_pow_pos 1074)
        exact this
      have hp := Nat.two_pow_pos (min e g)
      have p1 : Ieee.signed (sgn Ieee.double x) m (e - min e g) = if sgn Ieee.double x then -((m * 2 ^ (e - min e g) : Nat) : Int) else ((m * 2 ^ (e - min e g) : Nat) : Int) := by
        unfold Ieee.signed; rw [Nat.shiftLeft_eq]
      have p2 : Ieee.signed (!(sgn Ieee.double x && decide (whole x ≠ 0))) n (g - min e g) = if (!(sgn Ieee.double x && decide (whole x ≠ 0))) then -((n * 2 ^ (g - min e g) : Nat) : Int) else ((n * 2 ^ (g - min e g) : Nat) : Int) := by
        unfold Ieee.signed; rw [Nat.shiftLeft_eq]
      have hQ0 : whole x = 0 → n * 2 ^ (g - min e g) = 0 := by
        intro h0
        rw [h0, Nat.zero_mul] at hB
        rcases Nat.mul_eq_zero.1 hB with h | h
        · exact h
        · omega
      have hle : n * 2 ^ (g - min e g) ≤ m * 2 ^ (e - min e g) := by
        refine Nat.le_of_mul_le_mul_right ?_ hp
        omega
      have habs : (Ieee.signed (sgn Ieee.double x) m (e - min e g) + Ieee.signed (!(sgn Ieee.double x && decide (whole x ≠ 0))) n (g - min e g)).natAbs = m * 2 ^ (e - min e g) - n * 2 ^ (g - min e g) := by
        rw [p1, p2]
        generalize hP : m * 2 ^ (e - min e g) = P at *
        generalize hQ : n * 2 ^ (g - min e g) = Q at *
        by_cases hw0 : whole x = 0
        · have hq := hQ0 hw0
          subst hq
          cases sgn Ieee.double x <;> (simp only [Bool.false_and, Bool.true_and, if_true, if_false, Bool.false_eq_true, hw0, ne_eq, not_true_eq_false, decide_false, Bool.not_false]; omega)
        · cases sgn Ieee.double x <;> (simp only [Bool.false_and, Bool.true_and, if_true, if_false, Bool.false_eq_true, hw0, ne_eq, not_false_eq_true, decide_true, Bool.not_false, Bool.not_true]; omega)
      rw [habs, Nat.sub_mul, hA, hB]
      omega)
  rw [pw64] at hk
  exact hk

end Go.Proofs.YtpjhgfeibkldmaaGreatDoor

