/- Quarters of turns: what is left of a turn, and the quarters taken from it. Under no condition. -/
import Derived.Test.YtcnamhmoocdccaaSj
namespace Go.Proofs.Ytcnamhmoocdccaa
open Go
set_option linter.unusedVariables false
set_option linter.unusedSimpArgs false
set_option exponentiation.threshold 5000

/-- A sum that is not negative and not above a rung: its sign and its size. -/
theorem sum_up (s t : Bool) (m n e g c : Nat) (hc : c < Ieee.double.infRung) (hst : (s && t) = false)
    (h0 : 0 ≤ (if s then -((m * 2 ^ e : Nat) : Int) else ((m * 2 ^ e : Nat) : Int)) + (if t then -((n * 2 ^ g : Nat) : Int) else ((n * 2 ^ g : Nat) : Int)))
    (h1 : (if s then -((m * 2 ^ e : Nat) : Int) else ((m * 2 ^ e : Nat) : Int)) + (if t then -((n * 2 ^ g : Nat) : Int) else ((n * 2 ^ g : Nat) : Int)) ≤ (mag Ieee.double c : Int)) :
    ∃ r, ((Ieee.Datum.sum (.number s m (Ieee.double.leastPlace + (e : Int))) (.number t n (Ieee.double.leastPlace + (g : Int)))).map Ieee.double.write).getD (nanb .f64) = r ∧ sgn Ieee.double r = false ∧ Lim .f64 (mag Ieee.double c) r := by
  refine ⟨_, rfl, ?_⟩
  unfold Ieee.Datum.sum
  dsimp only
  rw [Option.map_some, Option.getD_some]
  have e1 : (Ieee.double.leastPlace + (e : Int) - min (Ieee.double.leastPlace + (e : Int)) (Ieee.double.leastPlace + (g : Int))).toNat = e - min e g := by omega
  have e2 : (Ieee.double.leastPlace + (g : Int) - min (Ieee.double.leastPlace + (e : Int)) (Ieee.double.leastPlace + (g : Int))).toNat = g - min e g := by omega
  rw [e1, e2]
  have hp := Nat.two_pow_pos (min e g)
  have hA : m * 2 ^ e = m * 2 ^ (e - min e g) * 2 ^ min e g := by rw [Nat.mul_assoc, ← Nat.pow_add, Nat.sub_add_cancel (Nat.min_le_left _ _)]
  have hB : n * 2 ^ g = n * 2 ^ (g - min e g) * 2 ^ min e g := by rw [Nat.mul_assoc, ← Nat.pow_add, Nat.sub_add_cancel (Nat.min_le_right _ _)]
  have p1 : Ieee.signed s m (e - min e g) = if s then -((m * 2 ^ (e - min e g) : Nat) : Int) else ((m * 2 ^ (e - min e g) : Nat) : Int) := by
    unfold Ieee.signed; rw [Nat.shiftLeft_eq]
  have p2 : Ieee.signed t n (g - min e g) = if t then -((n * 2 ^ (g - min e g) : Nat) : Int) else ((n * 2 ^ (g - min e g) : Nat) : Int) := by
    unfold Ieee.signed; rw [Nat.shiftLeft_eq]
  rw [hA, hB] at h0 h1
  have hT0 : (0 : Int) ≤ Ieee.signed s m (e - min e g) + Ieee.signed t n (g - min e g) := by
    rw [p1, p2]
    generalize m * 2 ^ (e - min e g) = P at *
    generalize n * 2 ^ (g - min e g) = Q at *
    generalize 2 ^ min e g = D at *
    have hD : (0 : Int) < (D : Int) := by omega
    refine Int.le_of_mul_le_mul_right ?_ hD
    rw [Int.zero_mul, Int.add_mul]
    cases s <;> cases t <;> simp only [if_true, if_false, Bool.false_eq_true, Int.natCast_mul, Int.neg_mul] at h0 ⊢ <;> omega
  have hT1 : (Ieee.signed s m (e - min e g) + Ieee.signed t n (g - min e g)).natAbs * 2 ^ min e g ≤ mag Ieee.double c := by
    have hN : ((Ieee.signed s m (e - min e g) + Ieee.signed t n (g - min e g)).natAbs : Int) = Ieee.signed s m (e - min e g) + Ieee.signed t n (g - min e g) := by omega
    refine Int.ofNat_le.1 ?_
    rw [Int.natCast_mul, hN, p1, p2]
    generalize m * 2 ^ (e - min e g) = P at *
    generalize n * 2 ^ (g - min e g) = Q at *
    generalize 2 ^ min e g = D at *
    rw [Int.add_mul]
    cases s <;> cases t <;> simp only [if_true, if_false, Bool.false_eq_true, Int.natCast_mul, Int.neg_mul] at h1 ⊢ <;> omega
  have hs : (if Ieee.signed s m (e - min e g) + Ieee.signed t n (g - min e g) = 0 then (s && t) else decide (Ieee.signed s m (e - min e g) + Ieee.signed t n (g - min e g) < 0)) = false := by
    split
    · exact hst
    · rw [decide_eq_false_iff_not]; omega
  rw [hs]
  refine ⟨sgn_write .f64 _ _ _, write_lim .f64 _ _ _ c hc ?_⟩
  show _ * 2 ^ (min (Ieee.double.leastPlace + (e : Int)) (Ieee.double.leastPlace + (g : Int)) - Ieee.double.leastPlace).toNat ≤ _ * 2 ^ (Ieee.double.leastPlace - min (Ieee.double.leastPlace + (e : Int)) (Ieee.double.leastPlace + (g : Int))).toNat
  rw [show (min (Ieee.double.leastPlace + (e : Int)) (Ieee.double.leastPlace + (g : Int)) - Ieee.double.leastPlace).toNat = min e g by omega,
    show (Ieee.double.leastPlace - min (Ieee.double.leastPlace + (e : Int)) (Ieee.double.leastPlace + (g : Int))).toNat = 0 by omega, Nat.pow_zero, Nat.mul_one]
  exact hT1

theorem add_up {x y c : Nat} (hx : rung Ieee.double x < Ieee.double.infRung) (hy : rung Ieee.double y < Ieee.double.infRung) (hc : c < Ieee.double.infRung) (hst : (sgn Ieee.double x && sgn Ieee.double y) = false)
    (h0 : 0 ≤ sval Ieee.double x + sval Ieee.double y) (h1 : sval Ieee.double x + sval Ieee.double y ≤ (mag Ieee.double c : Int)) : sgn Ieee.double (fadd .f64 x y) = false ∧ Lim .f64 (mag Ieee.double c) (fadd .f64 x y) := by
  obtain ⟨m, e, r1, r2, _⟩ := read_fin Ieee.double x hx
  obtain ⟨n, g, r3, r4, _⟩ := read_fin Ieee.double y hy
  rw [sval_eq, sval_eq, ← r2, ← r4] at h0 h1
  obtain ⟨r, k1, k2⟩ := sum_up _ _ m n e g c hc hst h0 h1
  have : fadd .f64 x y = r := by
    rw [fadd_eq, ← k1]
    show ((Ieee.double.add x y).getD (nanb .f64)) = _
    unfold Ieee.Format.add
    rw [r1, r3]
  rw [this]; exact k2
theorem sub_up {x y c : Nat} (hx : rung Ieee.double x < Ieee.double.infRung) (hy : rung Ieee.double y < Ieee.double.infRung) (hc : c < Ieee.double.infRung) (hst : (sgn Ieee.double x && !sgn Ieee.double y) = false)
    (h0 : 0 ≤ sval Ieee.double x - sval Ieee.double y) (h1 : sval Ieee.double x - sval Ieee.double y ≤ (mag Ieee.double c : Int)) : sgn Ieee.double (fsub .f64 x y) = false ∧ Lim .f64 (mag Ieee.double c) (fsub .f64 x y) := by
  obtain ⟨m, e, r1, r2, _⟩ := read_fin Ieee.double x hx
  obtain ⟨n, g, r3, r4⟩ := opp_read Ieee.double y hy
  have hv : (if !sgn Ieee.double y then -((n * 2 ^ g : Nat) : Int) else ((n * 2 ^ g : Nat) : Int)) = - sval Ieee.double y := by
    rw [sval_eq, r4]; cases sgn Ieee.double y <;> simp
  have hu : (if sgn Ieee.double x then -((m * 2 ^ e : Nat) : Int) else ((m * 2 ^ e : Nat) : Int)) = sval Ieee.double x := by
    rw [sval_eq, r2]
  obtain ⟨r, k1, k2⟩ := sum_up (sgn Ieee.double x) (!sgn Ieee.double y) m n e g c hc hst (by rw [hu, hv]; omega) (by rw [hu, hv]; omega)
  have : fsub .f64 x y = r := by
    rw [fsub_eq, ← k1]
    show ((Ieee.double.sub x y).getD (nanb .f64)) = _
    unfold Ieee.Format.sub
    rw [r1, r3]
  rw [this]; exact k2

/-- Neither negative nor above c quarters. -/
structure Up (c f : Nat) : Prop where
  fin : rung Ieee.double f < Ieee.double.infRung
  lo : 0 ≤ sval Ieee.double f
  hi : sval Ieee.double f ≤ ((c * 2 ^ 1072 : Nat) : Int)

theorem sgn_val {x : Nat} (h : sgn Ieee.double x = false) : sval Ieee.double x = (mag Ieee.double (rung Ieee.double x) : Int) := by rw [sval_eq, h]; rfl
theorem Up.of {c f : Nat} (h : sgn Ieee.double f = false ∧ Lim .f64 (c * 2 ^ 1072) f) : Up c f :=
  ⟨h.2.fin, by rw [sgn_val h.1]; omega, by rw [sgn_val h.1]; exact Int.ofNat_le.2 h.2.le⟩
theorem quarter_val : sval Ieee.double 4598175219545276416 = ((1 * 2 ^ 1072 : Nat) : Int) := by decide +kernel
theorem one_val : sval Ieee.double 4607182418800017408 = ((4 * 2 ^ 1072 : Nat) : Int) := by decide +kernel
theorem quarters : ∀ c, c ≤ 4 → ∃ d, d < Ieee.double.infRung ∧ mag Ieee.double d = c * 2 ^ 1072 := by
  intro c hc
  have h : c = 0 ∨ c = 1 ∨ c = 2 ∨ c = 3 ∨ c = 4 := by omega
  rcases h with rfl | rfl | rfl | rfl | rfl
  · exact ⟨0, by decide +kernel, by decide +kernel⟩
  · exact ⟨4598175219545276416, by decide +kernel, by decide +kernel⟩
  · exact ⟨4602678819172646912, by decide +kernel, by decide +kernel⟩
  · exact ⟨4604930618986332160, by decide +kernel, by decide +kernel⟩
  · exact ⟨4607182418800017408, by decide +kernel, by decide +kernel⟩
theorem Up.num {c f : Nat} (h : Up c f) : isN .f64 f = false := by
  rw [isN_eq]; simp only [decide_eq_false_iff_not]; exact Nat.not_lt.2 (Nat.le_of_lt h.fin)
theorem quarter_num : isN .f64 4598175219545276416 = false := by decide +kernel
theorem Up.ge {c f : Nat} (h : Up c f) : geD f 4598175219545276416 = decide (((1 * 2 ^ 1072 : Nat) : Int) ≤ sval Ieee.double f) := by
  rw [geD_num h.num quarter_num, quarter_val]
theorem Up.none {f : Nat} (h : Up 0 f) : geD f 4598175219545276416 = false := by
  rw [h.ge, decide_eq_false_iff_not]
  have h1 := h.hi
  have := Nat.two_pow_pos 1072
  generalize 2 ^ 1072 = Q at *
  omega
theorem Up.step {c f : Nat} (h : Up (c + 1) f) (hc : c ≤ 3) (hg : geD f 4598175219545276416 = true) : Up c (fsub .f64 f 4598175219545276416) := by
  obtain ⟨d, d1, d2⟩ := quarters c (by omega)
  rw [h.ge, decide_eq_true_eq] at hg
  have hs : (sgn Ieee.double f && !sgn Ieee.double 4598175219545276416) = false := by
    cases hsg : sgn Ieee.double f with
    | false => rfl
    | true =>
      exfalso
      rw [sval_eq, hsg] at hg
      have := Nat.two_pow_pos 1072
      generalize 2 ^ 1072 = Q at *
      simp at hg
      omega
  have h1 := h.hi
  have k := sub_up h.fin (y := 4598175219545276416) (by decide +kernel) d1 hs (by rw [quarter_val]; omega) (by
    rw [quarter_val, d2]
    rw [Nat.succ_mul] at h1
    generalize 2 ^ 1072 = Q at *
    omega)
  rw [d2] at k
  exact Up.of k
theorem Up.bd {c f : Nat} (h : Up c f) (hc : c ≤ 4) : Bd 0 f := by
  refine ⟨h.fin, ?_⟩
  have h1 := h.hi
  have h2 := h.lo
  have e : (2 : Nat) ^ (1074 + 0) = 4 * 2 ^ 1072 := by rw [Nat.add_zero, show (1074 : Nat) = 2 + 1072 from rfl, Nat.pow_add]
  show mag Ieee.double (rung Ieee.double f) ≤ _
  rw [e]
  have h3 : c * 2 ^ 1072 ≤ 4 * 2 ^ 1072 := Nat.mul_le_mul_right _ hc
  have h4 : sval Ieee.double f ≤ ((4 * 2 ^ 1072 : Nat) : Int) := Int.le_trans h1 (Int.ofNat_le.2 h3)
  have hv := sval_eq Ieee.double f
  clear h1 h3 e
  generalize (4 * 2 ^ 1072 : Nat) = Q at h4 ⊢
  generalize mag Ieee.double (rung Ieee.double f) = M at hv ⊢
  cases hs : sgn Ieee.double f with
  | false => rw [hs] at hv; simp only [Bool.false_eq_true, if_false] at hv; omega
  | true => rw [hs] at hv; simp only [if_true] at hv; omega

/-- What is left of a turn lies from 0 to 1. -/
theorem behV_up {x : Nat} (h : rung Ieee.double x < Ieee.double.infRung) (hw : whole x < 2 ^ 53) : Up 4 (behV x) := by
  have h0 := left_bd h hw
  have hn := h0.num
  obtain ⟨d, d1, d2⟩ := quarters 4 (by omega)
  have hz : ltZ (fsub .f64 x (tn x)) = decide (sval Ieee.double (fsub .f64 x (tn x)) < 0) := by
    unfold ltZ
    rw [lss_num hn (zero_num .f64), zero_sval]
    rfl
  have hm : mag Ieee.double (rung Ieee.double (fsub .f64 x (tn x))) ≤ 4 * 2 ^ 1072 := by
    have := h0.le
    have e : (2 : Nat) ^ (1074 + 0) = 4 * 2 ^ 1072 := by rw [Nat.add_zero, show (1074 : Nat) = 2 + 1072 from rfl, Nat.pow_add]
    rw [e] at this
    exact this
  unfold behV
  rw [hz]
  have hf := h0.fin
  generalize fsub .f64 x (tn x) = f0 at *
  by_cases hlt : sval Ieee.double f0 < 0
  · rw [if_pos (decide_eq_true hlt)]
    have hv := sval_eq Ieee.double f0
    refine Up.of ?_
    have k := add_up (y := 4607182418800017408) hf (by decide +kernel) d1 (by
      have : sgn Ieee.double 4607182418800017408 = false := by decide +kernel
      rw [this, Bool.and_false]) (by
        rw [one_val]
        generalize 4 * 2 ^ 1072 = Q at *
        split at hv <;> omega) (by
        rw [one_val, d2]
        generalize 4 * 2 ^ 1072 = Q at *
        omega)
    rw [d2] at k
    exact k
  · rw [if_neg (by simpa using hlt)]
    refine ⟨hf, by omega, ?_⟩
    have hv := sval_eq Ieee.double f0
    generalize 4 * 2 ^ 1072 = Q at *
    split at hv <;> omega

def phF (f : Nat) : Nat → Nat
  | 0 => f
  | k + 1 => fsub .f64 (phF f k) 4598175219545276416
theorem phF_up {f : Nat} (h : Up 4 f) : ∀ k, k ≤ 4 → (∀ i, i < k → geD (phF f i) 4598175219545276416 = true) → Up (4 - k) (phF f k) := by
  intro k
  induction k with
  | zero => intro _ _; exact h
  | succ k ih =>
    intro hk hg
    have h1 := ih (by omega) (fun i hi => hg i (by omega))
    rw [show 4 - k = (4 - (k + 1)) + 1 by omega] at h1
    exact h1.step (by omega) (hg k (by omega))
/-- How many quarters are taken. -/
noncomputable def phK (f : Nat) : Nat := if geD (phF f 0) 4598175219545276416 then (if geD (phF f 1) 4598175219545276416 then (if geD (phF f 2) 4598175219545276416 then (if geD (phF f 3) 4598175219545276416 then 4 else 3) else 2) else 1) else 0
theorem phK_is {f k : Nat} (hk : k ≤ 4) (hg : ∀ i, i < k → geD (phF f i) 4598175219545276416 = true) (he : geD (phF f k) 4598175219545276416 = false) : phK f = k := by
  have h : k = 0 ∨ k = 1 ∨ k = 2 ∨ k = 3 ∨ k = 4 := by omega
  unfold phK
  rcases h with rfl | rfl | rfl | rfl | rfl
  · rw [he]; rfl
  · rw [hg 0 (by omega), he]; rfl
  · rw [hg 0 (by omega), hg 1 (by omega), he]; rfl
  · rw [hg 0 (by omega), hg 1 (by omega), hg 2 (by omega), he]; rfl
  · rw [hg 0 (by omega), hg 1 (by omega), hg 2 (by omega), hg 3 (by omega)]; rfl

theorem bd_whole {a x : Nat} (h : Bd a x) (ha : a ≤ 50) : whole x < 2 ^ 53 := by
  unfold whole
  refine (Nat.div_lt_iff_lt_mul (Nat.two_pow_pos _)).2 ?_
  have h1 := h.le
  have h2 : (2 : Nat) ^ (1074 + a) < 2 ^ 53 * 2 ^ 1074 := by
    rw [← Nat.pow_add]
    exact Nat.pow_lt_pow_right (by omega) (by omega)
  exact Nat.lt_of_le_of_lt h1 h2
theorem bd_near {a x : Nat} (h : Bd a x) (ha : a ≤ 50) : geD x 4841369599423283200 = false ∧ leD x 14064741636278059008 = false := by
  have k := far_both h.num
  have : ¬ 2 ^ 1126 ≤ mag Ieee.double (rung Ieee.double x) := by
    have h1 := h.le
    have h2 : (2 : Nat) ^ (1074 + a) < 2 ^ 1126 := Nat.pow_lt_pow_right (by omega) (by omega)
    exact Nat.not_le.2 (Nat.lt_of_le_of_lt h1 h2)
  rw [decide_eq_false this] at k
  simpa using k

end Go.Proofs.Ytcnamhmoocdccaa
