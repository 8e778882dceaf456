/- Sines, phasors, angles and logarithms by the fast operations. Under no condition. -/
import Derived.Test.YtcnamhmoocdccaaKf
import Derived.Test.YtcnamhmoocdccaaPi
import Derived.Test.YtcnamhmoocdccaaAo
import Derived.Test.YtcnamhmoocdccaaLh
namespace Go.Proofs.Ytcnamhmoocdccaa
open Go Go.RowKit
set_option linter.unusedVariables false
set_option linter.unusedSimpArgs false
set_option exponentiation.threshold 5000

/-! ### Comparisons. -/
def rgF (x : Nat) : Nat := Nat.mod x 9223372036854775808
def bltF (a b : Nat) : Bool := Nat.ble (Nat.succ a) b
def ltG (sx sy : Bool) (rx ry : Nat) : Bool := cond sx (cond sy (bltF ry rx) (cond (Nat.beq rx 0) (cond (Nat.beq ry 0) false true) true)) (cond sy false (bltF rx ry))
def eqG (sx sy : Bool) (rx ry : Nat) : Bool := cond (Nat.beq rx ry) (cond (Nat.beq rx 0) true (cond sx sy (cond sy false true))) false
def ltF (x y : Nat) : Bool := cond (fi64 x) (cond (fi64 y) (ltG (sg64 x) (sg64 y) (rgF x) (rgF y)) (FloatKind.f64.format.order x y == some .lt)) (FloatKind.f64.format.order x y == some .lt)
def gtF (x y : Nat) : Bool := cond (fi64 x) (cond (fi64 y) (ltG (sg64 y) (sg64 x) (rgF y) (rgF x)) (FloatKind.f64.format.order x y == some .gt)) (FloatKind.f64.format.order x y == some .gt)
def eqF (x y : Nat) : Bool := cond (fi64 x) (cond (fi64 y) (eqG (sg64 x) (sg64 y) (rgF x) (rgF y)) (FloatKind.f64.format.order x y == some .eq)) (FloatKind.f64.format.order x y == some .eq)
theorem sg64_eq (x : Nat) : sgn Ieee.double x = sg64 x := by
  unfold sgn sg64
  rw [sgF_eq, show Ieee.double.signWeight = 9223372036854775808 by decide]
theorem rgF_eq (x : Nat) : rung Ieee.double x = rgF x := by
  unfold rung rgF
  rw [show Ieee.double.signWeight = 9223372036854775808 by decide]; rfl
theorem bltF_eq (a b : Nat) : bltF a b = decide (a < b) := by
  unfold bltF
  rcases ble_or (Nat.succ a) b with ⟨h1, h2⟩ | ⟨h1, h2⟩
  · rw [h1]; exact (decide_eq_true (by omega)).symm
  · rw [h1]; exact (decide_eq_false (by omega)).symm
theorem mag_tri (r s : Nat) : (r < s ∧ mag Ieee.double r < mag Ieee.double s) ∨ (r = s ∧ mag Ieee.double r = mag Ieee.double s) ∨ (s < r ∧ mag Ieee.double s < mag Ieee.double r) := by
  rcases Nat.lt_trichotomy r s with h | h | h
  · exact .inl ⟨h, magB_lt _ (binade_pos Ieee.double) h⟩
  · exact .inr (.inl ⟨h, by rw [h]⟩)
  · exact .inr (.inr ⟨h, magB_lt _ (binade_pos Ieee.double) h⟩)
theorem mag_zero : mag Ieee.double 0 = 0 := by decide
theorem ltG_eq {x y : Nat} : decide (sval Ieee.double x < sval Ieee.double y) = ltG (sg64 x) (sg64 y) (rgF x) (rgF y) := by
  rw [sval_eq, sval_eq, sg64_eq, sg64_eq, rgF_eq, rgF_eq]
  unfold ltG
  rw [bltF_eq, bltF_eq]
  have h := mag_tri (rgF x) (rgF y)
  have hx := mag_tri (rgF x) 0
  have hy := mag_tri (rgF y) 0
  rw [mag_zero] at hx hy
  generalize rgF x = r at *
  generalize rgF y = s at *
  cases sg64 x <;> cases sg64 y <;> simp only [Bool.cond_true, Bool.cond_false, if_true, if_false, Bool.false_eq_true]
  · rw [decide_eq_decide]; omega
  · exact decide_eq_false (by omega)
  · rcases beq_or r 0 with ⟨h1, h2⟩ | ⟨h1, h2⟩
    · rw [h1, Bool.cond_true]
      rcases beq_or s 0 with ⟨h3, h4⟩ | ⟨h3, h4⟩
      · rw [h3, Bool.cond_true]; exact decide_eq_false (by omega)
      · rw [h3, Bool.cond_false]; exact decide_eq_true (by omega)
    · rw [h1, Bool.cond_false]; exact decide_eq_true (by omega)
  · rw [decide_eq_decide]; omega
theorem eqG_eq {x y : Nat} : decide (sval Ieee.double x = sval Ieee.double y) = eqG (sg64 x) (sg64 y) (rgF x) (rgF y) := by
  rw [sval_eq, sval_eq, sg64_eq, sg64_eq, rgF_eq, rgF_eq]
  unfold eqG
  have h := mag_tri (rgF x) (rgF y)
  have hx := mag_tri (rgF x) 0
  have hy := mag_tri (rgF y) 0
  rw [mag_zero] at hx hy
  generalize rgF x = r at *
  generalize rgF y = s at *
  rcases beq_or r s with ⟨h1, h2⟩ | ⟨h1, h2⟩ <;> rcases beq_or r 0 with ⟨h3, h4⟩ | ⟨h3, h4⟩ <;> rw [h1, h3] <;> cases sg64 x <;> cases sg64 y <;> simp only [Bool.cond_true, Bool.cond_false, if_true, if_false, Bool.false_eq_true] <;> first | exact decide_eq_true (by omega) | exact decide_eq_false (by omega)
theorem ltF_eq (x y : Nat) : (FloatKind.f64.format.order x y == some .lt) = ltF x y := by
  unfold ltF
  cases hx : fi64 x with
  | false => rfl
  | true =>
    cases hy : fi64 y with
    | false => rfl
    | true => rw [lss_num (num64 hx) (num64 hy)]; exact ltG_eq
theorem gtF_eq (x y : Nat) : (FloatKind.f64.format.order x y == some .gt) = gtF x y := by
  unfold gtF
  cases hx : fi64 x with
  | false => rfl
  | true =>
    cases hy : fi64 y with
    | false => rfl
    | true => rw [gtr_num (num64 hx) (num64 hy)]; exact ltG_eq
theorem eqF_eq (x y : Nat) : (FloatKind.f64.format.order x y == some .eq) = eqF x y := by
  unfold eqF
  cases hx : fi64 x with
  | false => rfl
  | true =>
    cases hy : fi64 y with
    | false => rfl
    | true => rw [eql_num (num64 hx) (num64 hy)]; exact eqG_eq
def geF (x y : Nat) : Bool := or (gtF x y) (eqF x y)
theorem geF_eq (x y : Nat) : geD x y = geF x y := by unfold geD geF; rw [gtF_eq, eqF_eq]
def leF (x y : Nat) : Bool := or (ltF x y) (eqF x y)
theorem leF_eq (x y : Nat) : leD x y = leF x y := by unfold leD leF; rw [ltF_eq, eqF_eq]
theorem gtD_eq (x y : Nat) : gtD x y = gtF x y := gtF_eq x y
theorem ltZ_eq (x : Nat) : ltZ x = ltF x 0 := ltF_eq x 0

/-! ### Sines. -/
def behF (x : Nat) : Nat := if ltF (subF x (tn x)) 0 then addF (subF x (tn x)) 4607182418800017408 else subF x (tn x)
theorem behF_eq (x : Nat) : behV x = behF x := by unfold behV behF; rw [ltZ_eq, subF_eq, addF_eq]
def sinEF (f : Nat) : Nat := if geF f 4602678819172646912 then subF f 4602678819172646912 else f
def sinFF (f : Nat) : Nat := if gtF (sinEF f) 4598175219545276416 then subF 4602678819172646912 (sinEF f) else sinEF f
def sinZF (f : Nat) : Nat := mulF (sinFF f) 4618760256179416344
def sinUF (f : Nat) : Nat := mulF (sinZF f) (sinZF f)
def sinPF (u : Nat) : Nat → Nat
  | 0 => 4607182418800017408
  | j + 1 => subF 4607182418800017408 (divF (mulF u (sinPF u j)) (intF (sinK j)))
def sinOF (f : Nat) : Nat := mulF (sinZF f) (sinPF (sinUF f) 8)
def sineF (f : Nat) : Nat := if geF f 4602678819172646912 then Op.negFloat .f64 (sinOF f) else sinOF f
theorem sinEF_eq (f : Nat) : sinE f = sinEF f := by unfold sinE sinEF; rw [geF_eq, subF_eq]
theorem sinFF_eq (f : Nat) : sinF f = sinFF f := by unfold sinF sinFF; rw [gtD_eq, sinEF_eq, subF_eq]
theorem sinZF_eq (f : Nat) : sinZ f = sinZF f := by unfold sinZ sinZF; rw [sinFF_eq, mulF_eq]
theorem sinUF_eq (f : Nat) : sinU f = sinUF f := by unfold sinU sinUF; rw [sinZF_eq, mulF_eq]
theorem sinPF_eq (u j : Nat) : sinP u j = sinPF u j := by
  induction j with
  | zero => rfl
  | succ j ih => unfold sinP sinPF; rw [ih, intF_eq, mulF_eq, divF_eq, subF_eq]
theorem sinOF_eq (f : Nat) : sinO f = sinOF f := by unfold sinO sinOF; rw [sinZF_eq, sinUF_eq, sinPF_eq, mulF_eq]
theorem sineF_eq (f : Nat) : sineV f = sineF f := by unfold sineV sineF; rw [sinOF_eq, geF_eq]

/-! ### Phasors. -/
def phFF (f : Nat) : Nat → Nat
  | 0 => f
  | k + 1 => subF (phFF f k) 4598175219545276416
theorem phFF_eq (f k : Nat) : phF f k = phFF f k := by
  induction k with
  | zero => rfl
  | succ k ih => unfold phF phFF; rw [ih, subF_eq]
def phKF (f : Nat) : Nat := if geF (phFF f 0) 4598175219545276416 then (if geF (phFF f 1) 4598175219545276416 then (if geF (phFF f 2) 4598175219545276416 then (if geF (phFF f 3) 4598175219545276416 then 4 else 3) else 2) else 1) else 0
theorem phKF_eq (f : Nat) : phK f = phKF f := by unfold phK phKF; rw [geF_eq, geF_eq, geF_eq, geF_eq, phFF_eq, phFF_eq, phFF_eq, phFF_eq]
def phReF (k c s : Nat) : Nat := if k = 1 then subF 0 s else if k = 2 then subF 0 c else if k = 3 then s else c
def phImF (k c s : Nat) : Nat := if k = 1 then c else if k = 2 then subF 0 s else if k = 3 then subF 0 c else s
theorem phReF_eq (k c s : Nat) : phRe k c s = phReF k c s := by unfold phRe phReF; rw [subF_eq, subF_eq]
theorem phImF_eq (k c s : Nat) : phIm k c s = phImF k c s := by unfold phIm phImF; rw [subF_eq, subF_eq]
def cosF (g : Nat) : Nat := sineF (behF (subF 4598175219545276416 g))
def sinVF (g : Nat) : Nat := sineF (behF g)
theorem cosF_eq (g : Nat) : cosV g = cosF g := by unfold cosV cosF; rw [subF_eq, behF_eq, sineF_eq]
theorem sinVF_eq (g : Nat) : sinV g = sinVF g := by unfold sinV sinVF; rw [behF_eq, sineF_eq]
def phAF (x : Nat) : Nat :=
  if finB .f64 x then (if decide (2 ^ 1126 ≤ mag Ieee.double (rung Ieee.double x)) then 1065353216 else narF (phReF (phKF (behF x)) (cosF (phFF (behF x) (phKF (behF x)))) (sinVF (phFF (behF x) (phKF (behF x)))))) else nanb .f32
def phBF (x : Nat) : Nat :=
  if finB .f64 x then (if decide (2 ^ 1126 ≤ mag Ieee.double (rung Ieee.double x)) then 0 else narF (phImF (phKF (behF x)) (cosF (phFF (behF x) (phKF (behF x)))) (sinVF (phFF (behF x) (phKF (behF x)))))) else nanb .f32
theorem phAF_eq (x : Nat) : phA x = phAF x := by unfold phA phAF; rw [behF_eq, phKF_eq, phFF_eq, cosF_eq, sinVF_eq, phReF_eq, narF_eq]
theorem phBF_eq (x : Nat) : phB x = phBF x := by unfold phB phBF; rw [behF_eq, phKF_eq, phFF_eq, cosF_eq, sinVF_eq, phImF_eq, narF_eq]

/-! ### Angles. -/
def angT0F (y x : Nat) : Nat := if gtF (y % 2 ^ 63) (x % 2 ^ 63) then divF (x % 2 ^ 63) (y % 2 ^ 63) else divF (y % 2 ^ 63) (x % 2 ^ 63)
def angTF (t0 : Nat) : Nat → Nat
  | 0 => t0
  | k + 1 => divF (angTF t0 k) (addF 4607182418800017408 (fsqrt .f64 (addF 4607182418800017408 (mulF (angTF t0 k) (angTF t0 k)))))
def angPF (u : Nat) : Nat → Nat
  | 0 => 0
  | j + 1 => subF (divF 4607182418800017408 (intF (15 - 2 * (j : Int)))) (mulF u (angPF u j))
def angOF (t p : Nat) : Nat := divF (mulF 4620693217682128896 (mulF t p)) 4618760256179416344
def angEF (g xn yn : Bool) (o : Nat) : Nat :=
  let o1 := if g then subF 4598175219545276416 o else o
  let o2 := if xn then subF 4602678819172646912 o1 else o1
  if yn then Op.negFloat .f64 o2 else o2
def angWF (y x : Nat) : Nat :=
  angEF (gtF (y % 2 ^ 63) (x % 2 ^ 63)) (ltF x 0) (ltF y 0) (angOF (angTF (angT0F y x) 3) (angPF (mulF (angTF (angT0F y x) 3) (angTF (angT0F y x) 3)) 8))
theorem angT0F_eq (y x : Nat) : angT0 y x = angT0F y x := by unfold angT0 angT0F; rw [gtD_eq, divF_eq, divF_eq]
theorem angTF_eq (t k : Nat) : angT t k = angTF t k := by
  induction k with
  | zero => rfl
  | succ k ih => unfold angT angTF; rw [ih, mulF_eq, addF_eq, addF_eq, divF_eq]
theorem angPF_eq (u k : Nat) : angP u k = angPF u k := by
  induction k with
  | zero => rfl
  | succ k ih => unfold angP angPF; rw [ih, intF_eq, mulF_eq, divF_eq, subF_eq]
theorem angOF_eq (t p : Nat) : angO t p = angOF t p := by unfold angO angOF; rw [mulF_eq, mulF_eq, divF_eq]
theorem angEF_eq (g xn yn : Bool) (o : Nat) : angE g xn yn o = angEF g xn yn o := by
  unfold angE angEF
  cases g <;> cases xn <;> cases yn <;> simp only [if_true, if_false, Bool.false_eq_true, subF_eq]
theorem angWF_eq (y x : Nat) : angW y x = angWF y x := by unfold angW angWF; rw [gtD_eq, ltZ_eq, ltZ_eq, angT0F_eq, angTF_eq, angPF_eq, angOF_eq, angEF_eq, mulF_eq]
def angNF (y x : Nat) : Nat :=
  if finB .f32 y && finB .f32 x then (if decide (rung Ieee.single y = 0) && decide (rung Ieee.single x = 0) then 0 else narF (angWF (widF y) (widF x))) else fconv .f64 9221120237041090561 .f32
theorem angNF_eq (y x : Nat) : angN y x = angNF y x := by unfold angN angNF; rw [angWF_eq, widF_eq, widF_eq, narF_eq]

/-! ### Logarithms. -/
def logSF (x : Nat) : Nat := divF (subF x 4607182418800017408) (addF x 4607182418800017408)
def logUF (x : Nat) : Nat := mulF (logSF x) (logSF x)
def logQF (u : Nat) : Nat → Nat
  | 0 => 0
  | j + 1 => addF (divF 4607182418800017408 (intF (25 - 2 * (j : Int)))) (mulF u (logQF u j))
def logAF (x : Nat) : Nat := mulF (logSF x) (logQF (logUF x) 13)
def logBF (x : Nat) : Nat := mulF 4611686018427387904 (logAF x)
def logCF (E : Int) : Nat := mulF (intF E) 4604418534313441775
def tenF (v : Nat) : Nat := addF (mulF v 4631308968768463603) 4602678819172646912
theorem logSF_eq (x : Nat) : logS x = logSF x := by unfold logS logSF; rw [subF_eq, addF_eq, divF_eq]
theorem logUF_eq (x : Nat) : logU x = logUF x := by unfold logU logUF; rw [logSF_eq, mulF_eq]
theorem logQF_eq (u j : Nat) : logQ u j = logQF u j := by
  induction j with
  | zero => rfl
  | succ j ih => unfold logQ logQF; rw [ih, intF_eq, mulF_eq, divF_eq, addF_eq]
theorem logAF_eq (x : Nat) : logA x = logAF x := by unfold logA logAF; rw [logSF_eq, logUF_eq, logQF_eq, mulF_eq]
theorem logBF_eq (x : Nat) : logB x = logBF x := by unfold logB logBF; rw [logAF_eq, mulF_eq]
theorem logCF_eq (E : Int) : logC E = logCF E := by unfold logC logCF; rw [intF_eq, mulF_eq]
theorem tenF_eq (v : Nat) : tenV v = tenF v := by unfold tenV tenF; rw [mulF_eq, addF_eq]
end Go.Proofs.Ytcnamhmoocdccaa
