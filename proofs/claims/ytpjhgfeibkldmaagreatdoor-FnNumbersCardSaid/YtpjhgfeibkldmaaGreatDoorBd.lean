/- Bounds of 64-bit numbers in powers of two, and signs of sums, products and roots. Under no condition. -/
import Derived.Test.YtpjhgfeibkldmaaGreatDoorZb
namespace Go.Proofs.YtpjhgfeibkldmaaGreatDoor
open Go
set_option linter.unusedVariables false
set_option linter.unusedSimpArgs false
set_option exponentiation.threshold 5000

/-- Finite, and at most 2^e. -/
def Bd (e x : Nat) : Prop := Lim .f64 (2 ^ (1074 + e)) x

theorem low64 : low .f64 = 1074 := by decide
theorem pw64 (e : Nat) : mag FloatKind.f64.format ((e + 1022 + 1) * 2 ^ 52) = 2 ^ (1074 + e) := by
  rw [mag_pow64]; congr 1; omega
theorem Bd.mono {a b x : Nat} (h : Bd a x) (g : a ≤ b) : Bd b x := Lim.mono h (Nat.pow_le_pow_right (by omega) (by omega))
theorem Bd.num {a x : Nat} (h : Bd a x) : isN .f64 x = false := Lim.num h
theorem Bd.eq {a x y : Nat} (h : Bd a x) (g : Same .f64 y x) : y = x := Lim.same h g
theorem Bd.mul {a b x y : Nat} (h : Bd a x) (g : Bd b y) (hc : a + b ≤ 1000) : Bd (a + b) (fmul .f64 x y) := by
  have k := mul_lim .f64 ((a + b + 1022 + 1) * 2 ^ 52) (lt_inf64 _ (by omega)) h g (by
    rw [pw64, low64, ← Nat.pow_add, ← Nat.pow_add]
    exact Nat.pow_le_pow_right (by omega) (by omega))
  rw [pw64] at k
  exact k
theorem Bd.add {a x y : Nat} (h : Bd a x) (g : Bd a y) (hc : a ≤ 1000) : Bd (a + 1) (fadd .f64 x y) := by
  have k := add_lim .f64 ((a + 1 + 1022 + 1) * 2 ^ 52) (lt_inf64 _ (by omega)) h g (by
    rw [pw64, show 1074 + (a + 1) = (1074 + a) + 1 by omega, Nat.pow_succ]
    omega)
  rw [pw64] at k
  exact k
theorem Bd.sub {a x y : Nat} (h : Bd a x) (g : Bd a y) (hc : a ≤ 1000) : Bd (a + 1) (fsub .f64 x y) := by
  have k := sub_lim .f64 ((a + 1 + 1022 + 1) * 2 ^ 52) (lt_inf64 _ (by omega)) h g (by
    rw [pw64, show 1074 + (a + 1) = (1074 + a) + 1 by omega, Nat.pow_succ]
    omega)
  rw [pw64] at k
  exact k
/-- A quotient by a number of at least 1. -/
theorem Bd.div {a x y : Nat} (h : Bd a x) (hf : rung FloatKind.f64.format y < FloatKind.f64.format.infRung) (hy : 2 ^ 1074 ≤ mag FloatKind.f64.format (rung FloatKind.f64.format y)) (hc : a ≤ 1000) : Bd (a + 1) (fdiv .f64 x y) := by
  have k := div_lim .f64 ((a + 1 + 1022 + 1) * 2 ^ 52) (lt_inf64 _ (by omega)) h hf hy (Nat.two_pow_pos _) (by
    rw [pw64, low64, show 1074 + (a + 1) = (1074 + a) + 1 by omega, Nat.pow_succ, Nat.mul_comm 2]
    exact Nat.le_refl _)
  rw [pw64] at k
  exact k
/-- A quotient of a number by one that is not smaller. -/
theorem Bd.ratio {x y : Nat} (hf : rung FloatKind.f64.format y < FloatKind.f64.format.infRung) (hle : rung FloatKind.f64.format x ≤ rung FloatKind.f64.format y) (h0 : 0 < rung FloatKind.f64.format y) : Bd 1 (fdiv .f64 x y) := by
  have hm : 0 < mag FloatKind.f64.format (rung FloatKind.f64.format y) := by
    have := magB_lt _ (binade_pos FloatKind.f64.format) h0
    unfold mag; omega
  have k := div_lim .f64 ((1 + 1022 + 1) * 2 ^ 52) (lt_inf64 _ (by omega)) (a := mag FloatKind.f64.format (rung FloatKind.f64.format y)) ⟨Nat.lt_of_le_of_lt hle hf, magB_le _ (binade_pos _) hle⟩ hf (Nat.le_refl _) hm (by
    rw [pw64, low64, Nat.pow_add 2 1074 1, Nat.mul_comm 2, Nat.mul_assoc, Nat.mul_comm, Nat.mul_comm 2 (2 ^ 1074)]
    exact Nat.le_refl _)
  rw [pw64] at k
  exact k
theorem Bd.sqrt {m x : Nat} (h : Bd (2 * m) x) (hs : sgn FloatKind.f64.format x = false) (hc : m ≤ 400) : Bd (m + 1) (fsqrt .f64 x) := by
  have k := sqrt_lim .f64 ((m + 1 + 1022 + 1) * 2 ^ 52) (lt_inf64 _ (by omega)) h (.inl hs) (by
    rw [pw64, low64, show (4 : Nat) = 2 ^ 2 from rfl, ← Nat.pow_add, ← Nat.pow_add, ← Nat.pow_add]
    exact Nat.pow_le_pow_right (by omega) (by omega))
  rw [pw64] at k
  exact k
theorem Bd.narrow {a x : Nat} (h : Bd a x) (g : a ≤ 100) : fover .f64 x .f32 = false := narrow_ok (h.mono g) (Nat.le_refl _)

theorem xor_rung (x : Nat) : rung FloatKind.f64.format (Op.negFloat .f64 x) = rung FloatKind.f64.format x := by
  show (x ^^^ 2 ^ 63) % 2 ^ 63 = x % 2 ^ 63
  rw [Nat.xor_mod_two_pow, Nat.mod_self, Nat.xor_zero]
theorem isN_neg (x : Nat) : isN .f64 (Op.negFloat .f64 x) = isN .f64 x := by rw [isN_eq, isN_eq, xor_rung]
theorem Bd.neg {a x : Nat} (h : Bd a x) : Bd a (Op.negFloat .f64 x) := ⟨by rw [xor_rung]; exact h.fin, by rw [xor_rung]; exact h.le⟩
theorem Same.neg {x y : Nat} (h : Same .f64 x y) : Same .f64 (Op.negFloat .f64 x) (Op.negFloat .f64 y) := by
  cases hn : Go.Proofs.YtpjhgfeibkldmaaGreatDoor.isN .f64 y with
  | false => rw [h.eq hn]; exact Same.refl _ _
  | true => exact Same.of_nan (by rw [isN_neg, h.isN]; exact hn) (by rw [isN_neg]; exact hn)

/-! ### Signs. -/
theorem sgn_write (k : FloatKind) (s : Bool) (n : Nat) (place : Int) : sgn k.format (k.format.write (.number s n place)) = s := by
  have hM := k.format.infRung_lt
  obtain ⟨R, h0, h1, _, _⟩ := nearest_rung k.format s n place
  have e : k.format.write (.number s n place) = k.format.word s R := h0
  rw [e]
  exact sgn_word _ _ _ (by omega)
theorem sgn_square {x : Nat} (h : rung FloatKind.f64.format x < FloatKind.f64.format.infRung) : sgn FloatKind.f64.format (fmul .f64 x x) = false := by
  obtain ⟨m, e, h1, _⟩ := read_fin FloatKind.f64.format x h
  rw [fmul_eq]
  unfold Ieee.Format.mul
  rw [h1]
  unfold Ieee.Datum.product
  rw [Option.map_some, Option.getD_some, sgn_write]
  simp
theorem sgn_root {x : Nat} (h : rung FloatKind.f64.format x < FloatKind.f64.format.infRung) (hs : sgn FloatKind.f64.format x = false) : sgn FloatKind.f64.format (fsqrt .f64 x) = false := by
  obtain ⟨m, e, h1, _⟩ := read_fin FloatKind.f64.format x h
  rw [fsqrt_eq]
  unfold Ieee.Format.sqrt
  rw [h1, hs]
  unfold Ieee.Datum.root
  dsimp only
  split
  · rw [Option.map_some, Option.getD_some, sgn_write]
  · rw [if_neg (by simp), Option.map_some, Option.getD_some, sgn_write]
/-- A sum of numbers that are not negative is not negative, and not less than the first. -/
theorem add_pos {x y : Nat} (hx : rung FloatKind.f64.format x < FloatKind.f64.format.infRung) (hy : rung FloatKind.f64.format y < FloatKind.f64.format.infRung) (sx : sgn FloatKind.f64.format x = false) (sy : sgn FloatKind.f64.format y = false) :
    sgn FloatKind.f64.format (fadd .f64 x y) = false ∧ rung FloatKind.f64.format x ≤ rung FloatKind.f64.format (fadd .f64 x y) := by
  have hM := FloatKind.f64.format.infRung_lt
  obtain ⟨m, e, h1, h2, _, _⟩ := read_fin FloatKind.f64.format x hx
  obtain ⟨n, g, h3, h4, _, _⟩ := read_fin FloatKind.f64.format y hy
  rw [fadd_eq]
  unfold Ieee.Format.add
  rw [h1, h3, sx, sy]
  unfold Ieee.Datum.sum
  dsimp only
  rw [Option.map_some, Option.getD_some]
  have e1 : (FloatKind.f64.format.leastPlace + (e : Int) - min (FloatKind.f64.format.leastPlace + (e : Int)) (FloatKind.f64.format.leastPlace + (g : Int))).toNat = e - min e g := by omega
  have e2 : (FloatKind.f64.format.leastPlace + (g : Int) - min (FloatKind.f64.format.leastPlace + (e : Int)) (FloatKind.f64.format.leastPlace + (g : Int))).toNat = g - min e g := by omega
  rw [e1, e2]
  have p1 : Ieee.signed false m (e - min e g) = ((m * 2 ^ (e - min e g) : Nat) : Int) := by unfold Ieee.signed; rw [Nat.shiftLeft_eq]; rfl
  have p2 : Ieee.signed false n (g - min e g) = ((n * 2 ^ (g - min e g) : Nat) : Int) := by unfold Ieee.signed; rw [Nat.shiftLeft_eq]; rfl
  rw [p1, p2]
  have p3 : (((m * 2 ^ (e - min e g) : Nat) : Int) + ((n * 2 ^ (g - min e g) : Nat) : Int)).natAbs = m * 2 ^ (e - min e g) + n * 2 ^ (g - min e g) := by omega
  rw [p3]
  have p4 : (if ((m * 2 ^ (e - min e g) : Nat) : Int) + ((n * 2 ^ (g - min e g) : Nat) : Int) = 0 then (false && false) else decide (((m * 2 ^ (e - min e g) : Nat) : Int) + ((n * 2 ^ (g - min e g) : Nat) : Int) < 0)) = false := by
    split
    · rfl
    · rw [decide_eq_false_iff_not]; omega
  rw [p4]
  refine ⟨sgn_write .f64 _ _ _, ?_⟩
  obtain ⟨R, h0, h5, _, h6⟩ := nearest_rung FloatKind.f64.format false (m * 2 ^ (e - min e g) + n * 2 ^ (g - min e g)) (min (FloatKind.f64.format.leastPlace + (e : Int)) (FloatKind.f64.format.leastPlace + (g : Int)))
  have e3 : FloatKind.f64.format.write (.number false (m * 2 ^ (e - min e g) + n * 2 ^ (g - min e g)) (min (FloatKind.f64.format.leastPlace + (e : Int)) (FloatKind.f64.format.leastPlace + (g : Int)))) = FloatKind.f64.format.word false R := h0
  rw [e3, rung_word _ _ _ (by omega)]
  refine h6 _ (Nat.le_of_lt hx) ?_
  rw [show (min (FloatKind.f64.format.leastPlace + (e : Int)) (FloatKind.f64.format.leastPlace + (g : Int)) - FloatKind.f64.format.leastPlace).toNat = min e g by omega,
    show (FloatKind.f64.format.leastPlace - min (FloatKind.f64.format.leastPlace + (e : Int)) (FloatKind.f64.format.leastPlace + (g : Int))).toNat = 0 by omega, Nat.pow_zero, Nat.mul_one, Nat.add_mul, ← h2,
    Nat.mul_assoc m, ← Nat.pow_add, Nat.sub_add_cancel (Nat.min_le_left _ _)]
  exact Nat.le_add_right _ _

theorem one_bd : Bd 0 4607182418800017408 := ⟨by decide +kernel, by decide +kernel⟩
theorem one_mag : mag FloatKind.f64.format (rung FloatKind.f64.format 4607182418800017408) = 2 ^ 1074 := by decide +kernel
theorem one_sgn : sgn FloatKind.f64.format 4607182418800017408 = false := by decide +kernel
/-- What is 1 and something more. -/
theorem one_more {a y : Nat} (h : Bd a y) (hs : sgn FloatKind.f64.format y = false) (hc : a ≤ 1000) :
    Bd (a + 1) (fadd .f64 4607182418800017408 y) ∧ sgn FloatKind.f64.format (fadd .f64 4607182418800017408 y) = false ∧ 2 ^ 1074 ≤ mag FloatKind.f64.format (rung FloatKind.f64.format (fadd .f64 4607182418800017408 y)) := by
  obtain ⟨h1, h2⟩ := add_pos one_bd.fin h.fin one_sgn hs
  refine ⟨(one_bd.mono (Nat.zero_le _)).add h hc, h1, ?_⟩
  have := magB_le _ (binade_pos FloatKind.f64.format) h2
  rw [← one_mag]
  exact this

end Go.Proofs.YtpjhgfeibkldmaaGreatDoor

