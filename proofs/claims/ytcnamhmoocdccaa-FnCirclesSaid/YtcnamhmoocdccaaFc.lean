/- Which numbers are finite, infinite, subnormal: by their rungs, and by the tests that Go code makes. Under no condition. -/
import Derived.Test.YtcnamhmoocdccaaFv
namespace Go.Proofs.Ytcnamhmoocdccaa
open Go
set_option linter.unusedVariables false
set_option linter.unusedSimpArgs false
set_option exponentiation.threshold 3000

def finB (k : FloatKind) (x : Nat) : Bool := decide (rung k.format x < k.format.infRung)

theorem fin_num {k : FloatKind} {x : Nat} (h : finB k x = true) : isN k x = false := by
  unfold finB at h
  rw [isN_eq]; simp only [decide_eq_false_iff_not]
  simp only [decide_eq_true_eq] at h
  omega

theorem nan_finB {k : FloatKind} {x : Nat} (h : isN k x = true) : finB k x = false := by
  cases hf : finB k x with
  | false => rfl
  | true => rw [fin_num hf] at h; cases h

theorem Same.finB {k : FloatKind} {x y : Nat} (h : Same k x y) : finB k x = finB k y := by
  cases hy : Go.Proofs.Ytcnamhmoocdccaa.isN k y with
  | false => rw [h.eq hy]
  | true => rw [nan_finB hy, nan_finB (h.isN.trans hy)]

theorem zero_sval (k : FloatKind) : sval k.format 0 = 0 := by cases k <;> decide
theorem zero_num (k : FloatKind) : isN k 0 = false := by cases k <;> decide

theorem signed_not (s : Bool) (m e : Nat) : Ieee.signed s m e + Ieee.signed (!s) m e = 0 := by
  unfold Ieee.signed
  cases s
  · simp; omega
  · simp; omega

theorem fsub_self (k : FloatKind) (x : Nat) (h : finB k x = true) : fsub k x x = 0 := by
  have hx : rung k.format x < k.format.infRung := by simpa [finB] using h
  obtain ⟨m, e, h1, _⟩ := read_fin k.format x hx
  rw [fsub_eq]
  unfold Ieee.Format.sub
  rw [h1]
  simp only [Ieee.Datum.opposite, Ieee.Datum.sum]
  rw [signed_not]
  cases sgn k.format x <;> cases k <;> simp [Ieee.Format.write, Ieee.Format.nearest, Ieee.Format.word]

theorem fsub_inf (k : FloatKind) (x : Nat) (h : rung k.format x = k.format.infRung) : isN k (fsub k x x) = true := by
  rw [fsub_eq]
  unfold Ieee.Format.sub
  rw [read_inf _ (okF k) x h]
  have : Ieee.Datum.sum (.infinity (sgn k.format x)) (Ieee.Datum.opposite (.infinity (sgn k.format x))) = none := by
    simp [Ieee.Datum.opposite, Ieee.Datum.sum]
  rw [this]
  exact isN_nanb k

theorem fsub_nan (k : FloatKind) (x y : Nat) (h : isN k x = true) : isN k (fsub k x y) = true := by
  rw [fsub_eq]
  obtain ⟨s, t, hr⟩ := read_nan h
  unfold Ieee.Format.sub
  rw [hr, sum_nan_left]
  exact isN_nanb k

theorem sub_self_cmp {k : FloatKind} {x r : Nat} (h : Same k r (fsub k x x)) : (k.format.order r 0 == some .eq) = finB k x := by
  cases hf : finB k x with
  | true =>
    have e := fsub_self k x hf
    rw [e] at h
    rw [h.eq (zero_num k), eql_num (zero_num k) (zero_num k)]; simp
  | false =>
    have hn : isN k (fsub k x x) = true := by
      cases hx : isN k x with
      | true => exact fsub_nan k x x hx
      | false =>
        refine fsub_inf k x ?_
        have h1 := rung_le hx
        have h2 : ¬ rung k.format x < k.format.infRung := by simpa [finB] using hf
        omega
    rw [order_nan_l (h.isN.trans hn)]; rfl

theorem sub_self_cmp' {k : FloatKind} {x r : Nat} (h : Same k r (fsub k x x)) : (k.format.order r 0 != some .eq) = !finB k x := by
  rw [bne, sub_self_cmp h]

/-! ### The absolute value of a 64-bit number. -/
theorem rung_abs (x : Nat) : rung Ieee.double (x % 2 ^ 63) = rung Ieee.double x := by
  have e : Ieee.double.signWeight = 2 ^ 63 := by decide
  unfold rung; rw [e]; exact Nat.mod_mod _ _
theorem sgn_abs (x : Nat) : sgn Ieee.double (x % 2 ^ 63) = false := by
  have e : Ieee.double.signWeight = 2 ^ 63 := by decide
  have : x % 2 ^ 63 / 2 ^ 63 = 0 := Nat.div_eq_of_lt (Nat.mod_lt _ (Nat.two_pow_pos _))
  unfold sgn; rw [e, this]; rfl
theorem isN_abs (x : Nat) : isN .f64 (x % 2 ^ 63) = isN .f64 x := by
  rw [isN_eq, isN_eq]; exact congrArg (fun r => decide (Ieee.double.infRung < r)) (rung_abs x)
theorem sval_abs (x : Nat) : sval Ieee.double (x % 2 ^ 63) = (mag Ieee.double (rung Ieee.double x) : Int) := by
  rw [sval_eq, sgn_abs, rung_abs]; rfl

def infB (x : Nat) : Bool := decide (rung Ieee.double x = Ieee.double.infRung)

theorem abs_gtr_max (x : Nat) : (FloatKind.f64.format.order (x % 2 ^ 63) 9218868437227405311 == some .gt) = infB x := by
  cases hn : isN .f64 x with
  | true =>
    rw [order_nan_l ((isN_abs x).trans hn)]
    have h := hn
    rw [isN_eq] at h
    have h1 : Ieee.double.infRung < rung Ieee.double x := of_decide_eq_true h
    have : ¬ rung Ieee.double x = Ieee.double.infRung := by omega
    simp [infB, this]
  | false =>
    have hle : rung Ieee.double x ≤ Ieee.double.infRung := rung_le hn
    have hmax : isN .f64 9218868437227405311 = false := by decide
    rw [gtr_num ((isN_abs x).trans hn) hmax]
    have e1 : sval FloatKind.f64.format (x % 2 ^ 63) = (mag Ieee.double (rung Ieee.double x) : Int) := sval_abs x
    have e2 : sval FloatKind.f64.format 9218868437227405311 = (mag Ieee.double (Ieee.double.infRung - 1) : Int) := by decide
    rw [e1, e2]
    unfold infB
    rw [decide_eq_decide]
    have hp : 0 < Ieee.double.infRung := by decide
    constructor
    · intro h
      have := lt_of_magB_lt Ieee.double.binade (binade_pos _) (show magB Ieee.double.binade (Ieee.double.infRung - 1) < magB Ieee.double.binade (rung Ieee.double x) from Int.ofNat_lt.1 h)
      omega
    · intro h
      rw [h]
      exact Int.ofNat_lt.2 (magB_lt Ieee.double.binade (binade_pos _) (by omega))

theorem fin_eq (x : Nat) : finB .f64 x = (!isN .f64 x && !infB x) := by
  unfold finB infB
  rw [isN_eq]
  show decide (rung Ieee.double x < Ieee.double.infRung) = (!decide (Ieee.double.infRung < rung Ieee.double x) && !decide (rung Ieee.double x = Ieee.double.infRung))
  rw [Bool.eq_iff_iff]
  simp
  omega

theorem wid_finB (x : Nat) : finB .f64 (fwid x) = finB .f32 x := by
  cases hn : isN .f32 x with
  | true => rw [nan_finB hn, nan_finB (wid_nan hn)]
  | false =>
    have hM := Ieee.double.infRung_lt
    rcases Nat.lt_or_eq_of_le (rung_le hn) with h1 | h1
    · obtain ⟨c, c1, c2, _⟩ := wid_fin h1
      have e1 : finB .f32 x = true := by simp only [finB, decide_eq_true_eq]; exact h1
      have e2 : finB .f64 (fwid x) = true := by
        simp only [finB, decide_eq_true_eq]
        rw [c2, show rung FloatKind.f64.format (Ieee.double.word (sgn Ieee.single x) c) = c from rung_word Ieee.double _ c (by omega)]
        exact c1
      rw [e1, e2]
    · have e1 : finB .f32 x = false := by
        simp only [finB, decide_eq_false_iff_not]; omega
      have e2 : finB .f64 (fwid x) = false := by
        simp only [finB, decide_eq_false_iff_not]
        rw [wid_inf h1, show rung FloatKind.f64.format (Ieee.double.word (sgn Ieee.single x) Ieee.double.infRung) = Ieee.double.infRung from rung_word Ieee.double _ _ hM]
        exact Nat.lt_irrefl _
      rw [e1, e2]

/-! ### Subnormal numbers. -/
def subB (x : Nat) : Bool := decide (0 < rung Ieee.single x ∧ rung Ieee.single x < 2 ^ 23)

theorem neq_zero (x : Nat) : (FloatKind.f32.format.order x 0 != some .eq) = decide (0 < rung Ieee.single x) := by
  cases hn : isN .f32 x with
  | true =>
    rw [order_nan_l hn]
    rw [isN_eq] at hn
    have h1 : Ieee.single.infRung < rung Ieee.single x := of_decide_eq_true hn
    have : 0 < rung Ieee.single x := by omega
    simp [this]
  | false =>
    rw [bne, eql_num hn (zero_num .f32), zero_sval]
    have h0 : mag Ieee.single 0 = 0 := by decide
    by_cases hz : rung Ieee.single x = 0
    · have : sval FloatKind.f32.format x = 0 := by
        rw [sval_eq, show rung FloatKind.f32.format x = 0 from hz, show mag FloatKind.f32.format 0 = 0 from h0]; simp
      simp [this, hz]
    · have hm := magB_lt Ieee.single.binade (binade_pos _) (Nat.pos_of_ne_zero hz)
      have hm' : 0 < mag Ieee.single (rung Ieee.single x) := by unfold mag; omega
      have : ¬ sval FloatKind.f32.format x = 0 := by
        rw [sval_eq]
        show ¬ ((if sgn Ieee.single x then -(mag Ieee.single (rung Ieee.single x) : Int) else (mag Ieee.single (rung Ieee.single x) : Int)) = 0)
        split <;> omega
      have h3 : 0 < rung Ieee.single x := Nat.pos_of_ne_zero hz
      simp [this, h3]

theorem small_cmp {x r : Nat} (h : Same .f64 r (fwid x)) : (FloatKind.f64.format.order (r % 2 ^ 63) 4039728865751334912 == some .lt) = decide (rung Ieee.single x < 2 ^ 23) := by
  have hcn : isN .f64 4039728865751334912 = false := by decide
  have hcv : sval FloatKind.f64.format 4039728865751334912 = ((2 ^ 23 * 2 ^ 925 : Nat) : Int) := by decide
  cases hn : isN .f32 x with
  | true =>
    rw [order_nan_l ((isN_abs r).trans (h.isN.trans (wid_nan hn)))]
    rw [isN_eq] at hn
    have h1 : Ieee.single.infRung < rung Ieee.single x := of_decide_eq_true hn
    have h2 : Ieee.single.infRung = 255 * 2 ^ 23 := by decide
    have : ¬ rung Ieee.single x < 2 ^ 23 := by omega
    simp [this]
  | false =>
    have hr := h.eq (wid_notnan hn)
    subst hr
    rw [lss_num ((isN_abs _).trans (wid_notnan hn)) hcn, hcv, show sval FloatKind.f64.format (fwid x % 2 ^ 63) = _ from sval_abs _, decide_eq_decide]
    have hM := Ieee.double.infRung_lt
    rw [Int.ofNat_lt]
    rcases Nat.lt_or_eq_of_le (rung_le hn) with h1 | h1
    · obtain ⟨c, c1, c2, c3⟩ := wid_fin h1
      rw [c2, rung_word _ _ _ (by omega), c3]
      have hmag : ∀ r, r < 2 ^ 23 → mag Ieee.single r = r := by
        intro r hr
        unfold mag magB
        exact if_pos hr
      have hc : mag Ieee.single (2 ^ 23) = 2 ^ 23 := by decide
      constructor
      · intro hlt
        have h5 := Nat.lt_of_mul_lt_mul_right hlt
        rw [← hc] at h5
        exact lt_of_magB_lt _ (binade_pos _) h5
      · intro hlt
        rw [hmag _ hlt]
        exact Nat.mul_lt_mul_of_pos_right hlt (Nat.two_pow_pos _)
    · rw [wid_inf h1, rung_word _ _ _ hM]
      have h2 : Ieee.single.infRung = 255 * 2 ^ 23 := by decide
      have h1' : rung Ieee.single x = Ieee.single.infRung := h1
      constructor
      · intro hlt
        exact absurd hlt (by decide)
      · intro hlt
        omega

theorem and_field (x : Nat) : x &&& 2139095040 = x / 2 ^ 23 % 256 * 2 ^ 23 := by
  have e : (2139095040 : Nat) = (2 ^ 8 - 1) <<< 23 := by decide
  rw [e]
  apply Nat.eq_of_testBit_eq
  intro i
  rw [Nat.testBit_and, Nat.testBit_shiftLeft, Nat.testBit_mul_two_pow, Nat.testBit_two_pow_sub_one]
  by_cases hi : 23 ≤ i
  · simp only [hi, decide_true, Bool.true_and]
    rw [show (256 : Nat) = 2 ^ 8 from rfl, Nat.testBit_mod_two_pow, Nat.testBit_div_two_pow, Nat.sub_add_cancel hi, Bool.and_comm]
  · simp [hi]

theorem and_field_zero (x : Nat) (h : x < 2 ^ 32) : (x &&& 2139095040 = 0) ↔ rung Ieee.single x < 2 ^ 23 := by
  have e : Ieee.single.signWeight = 2 ^ 31 := by decide
  rw [and_field]
  unfold rung
  rw [e]
  omega

end Go.Proofs.Ytcnamhmoocdccaa
