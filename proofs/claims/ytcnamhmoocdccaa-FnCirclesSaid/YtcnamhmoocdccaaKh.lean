/- Phasors of 64ths of turns: the numbers, by reckoning. Under no condition. -/
import Derived.Test.YtcnamhmoocdccaaKg
namespace Go.Proofs.Ytcnamhmoocdccaa
open Go Go.RowKit
set_option linter.unusedVariables false
set_option linter.unusedSimpArgs false
set_option exponentiation.threshold 5000

/-- A number of 64ths of turns, as a number of 64 bits. -/
def dv (a : Int) : Nat := fdiv .f64 (floatOfInt .f64 a) 4634204016564240384
def dvF (a : Int) : Nat := divF (intF a) 4634204016564240384
theorem dvF_eq (a : Int) : dv a = dvF a := by unfold dv dvF; rw [intF_eq, divF_eq]
/-- The parts of the phasors. -/
def tabA : List Nat := [1065353216, 1065272429, 1065030846, 1064630795, 1064076126, 1063372184, 1062525745, 1061544963, 1060439283, 1059219353, 1057896922, 1056004842, 1053028117, 1049927729, 1044891074, 1036565814, 0, 3184049462, 3192374722, 3197411377, 3200511765, 3203488490, 3205380570, 3206703001, 3207922931, 3209028611, 3210009393, 3210855832, 3211559774, 3212114443, 3212514494, 3212756077, 3212836864, 3212756077, 3212514494, 3212114443, 3211559774, 3210855832, 3210009393, 3209028611, 3207922931, 3206703001, 3205380570, 3203488490, 3200511765, 3197411377, 3192374722, 3184049462, 0, 1036565814, 1044891074, 1049927729, 1053028117, 1056004842, 1057896922, 1059219353, 1060439283, 1061544963, 1062525745, 1063372184, 1064076126, 1064630795, 1065030846, 1065272429]
def tabB : List Nat := [0, 1036565814, 1044891074, 1049927729, 1053028117, 1056004842, 1057896922, 1059219353, 1060439283, 1061544963, 1062525745, 1063372184, 1064076126, 1064630795, 1065030846, 1065272429, 1065353216, 1065272429, 1065030846, 1064630795, 1064076126, 1063372184, 1062525745, 1061544963, 1060439283, 1059219353, 1057896922, 1056004842, 1053028117, 1049927729, 1044891074, 1036565814, 0, 3184049462, 3192374722, 3197411377, 3200511765, 3203488490, 3205380570, 3206703001, 3207922931, 3209028611, 3210009393, 3210855832, 3211559774, 3212114443, 3212514494, 3212756077, 3212836864, 3212756077, 3212514494, 3212114443, 3211559774, 3210855832, 3210009393, 3209028611, 3207922931, 3206703001, 3205380570, 3203488490, 3200511765, 3197411377, 3192374722, 3184049462]
def tA (r : Nat) : Nat := tabA.getD r 0
def tB (r : Nat) : Nat := tabB.getD r 0
theorem all_get {n : Nat} {f : Nat → Bool} (h : (List.range n).all f = true) (i : Nat) (hi : i < n) : f i = true := List.all_eq_true.1 h i (List.mem_range.2 hi)

def okA (n : Nat) : Bool := Nat.beq (phAF (dvF ((n : Int) - 256))) (tA (n % 64)) && (Nat.beq (phBF (dvF ((n : Int) - 256))) (tB (n % 64)) && (fi64 (dvF ((n : Int) - 256)) && Nat.ble (dvF ((n : Int) - 256)) 18446744073709551615))
set_option maxRecDepth 100000 in
theorem okA_all : (List.range 511).all okA = true := by decide +kernel
theorem ph_tab (n : Nat) (h : n < 511) : phA (dv ((n : Int) - 256)) = tA (n % 64) ∧ phB (dv ((n : Int) - 256)) = tB (n % 64) ∧ isN .f64 (dv ((n : Int) - 256)) = false ∧ dv ((n : Int) - 256) < 2 ^ 64 := by
  have k := all_get okA_all n h
  unfold okA at k
  simp only [Bool.and_eq_true] at k
  obtain ⟨k1, k2, k3, k4⟩ := k
  rw [phAF_eq, phBF_eq, dvF_eq]
  have := Nat.le_of_ble_eq_true k4
  exact ⟨Nat.eq_of_beq_eq_true k1, Nat.eq_of_beq_eq_true k2, num64 k3, by omega⟩

/-! ### One phasor. -/
def gapV (x y : Nat) : Nat := if (FloatKind.f64.format.order x y == some .lt) then fsub .f64 y x else fsub .f64 x y
def gapF (x y : Nat) : Nat := cond (ltF x y) (subF y x) (subF x y)
theorem gapF_eq (x y : Nat) : gapV x y = gapF x y := by
  unfold gapV gapF
  rw [ltF_eq, subF_eq, subF_eq]
  cases ltF x y <;> rfl
def powV (a b : Nat) : Nat := fconv .f64 (fadd .f64 (fmul .f64 (fwid a) (fwid a)) (fmul .f64 (fwid b) (fwid b))) .f32
def powF (a b : Nat) : Nat := narF (addF (mulF (widF a) (widF a)) (mulF (widF b) (widF b)))
theorem powF_eq (a b : Nat) : powV a b = powF a b := by unfold powV powF; rw [widF_eq, widF_eq, mulF_eq, mulF_eq, addF_eq, narF_eq]
def okR (r : Nat) : Bool := fi32 (tA r) && (fi32 (tB r) && (Nat.ble (rgF (widF (tA r))) 4611686018427387904 && (Nat.ble (rgF (widF (tB r))) 4611686018427387904 &&
  (fi32 (powF (tA r) (tB r)) && (Nat.ble (rgF (widF (powF (tA r) (tB r)))) 4611686018427387904 && !gtF (gapF (widF (powF (tA r) (tB r))) 4607182418800017408) 4547007122018943789)))))
set_option maxRecDepth 100000 in
theorem okR_all : (List.range 64).all okR = true := by decide +kernel
theorem two_mag : mag Ieee.double 4611686018427387904 = 2 ^ 1075 := by decide +kernel
theorem bd_of {x : Nat} (h : Nat.ble (rgF x) 4611686018427387904 = true) : Bd 1 x := by
  have h1 := Nat.le_of_ble_eq_true h
  rw [← rgF_eq] at h1
  refine ⟨?_, ?_⟩
  · show rung Ieee.double x < Ieee.double.infRung
    rw [inf64]; omega
  · show mag Ieee.double (rung Ieee.double x) ≤ 2 ^ (1074 + 1)
    rw [← two_mag]
    exact magB_le _ (binade_pos Ieee.double) h1
theorem fin32 {x : Nat} (h : fi32 x = true) : finB .f32 x = true := by
  unfold finB
  refine decide_eq_true ?_
  show rung Ieee.single x < Ieee.single.infRung
  have := fiF_lt h
  unfold rung
  rw [show Ieee.single.signWeight = 2147483648 by decide, show Ieee.single.infRung = 2139095040 by decide]
  exact this
structure PhOk (r : Nat) : Prop where
  fa : finB .f32 (tA r) = true
  fb : finB .f32 (tB r) = true
  ba : Bd 1 (fwid (tA r))
  bb : Bd 1 (fwid (tB r))
  fp : finB .f32 (powV (tA r) (tB r)) = true
  bp : Bd 1 (fwid (powV (tA r) (tB r)))
  gp : (FloatKind.f64.format.order (gapV (fwid (powV (tA r) (tB r))) 4607182418800017408) 4547007122018943789 == some .gt) = false
theorem ph_ok (r : Nat) (h : r < 64) : PhOk r := by
  have k := all_get okR_all r h
  unfold okR at k
  simp only [Bool.and_eq_true, Bool.not_eq_true'] at k
  obtain ⟨k1, k2, k3, k4, k5, k6, k7⟩ := k
  exact ⟨fin32 k1, fin32 k2, by rw [widF_eq]; exact bd_of k3, by rw [widF_eq]; exact bd_of k4, by rw [powF_eq]; exact fin32 k5, by rw [powF_eq, widF_eq]; exact bd_of k6, by rw [gtF_eq, gapF_eq, powF_eq, widF_eq]; exact k7⟩

/-! ### Its angle. -/
noncomputable def gA (r : Nat) : Nat := angN (tB r) (tA r)
def gAF (r : Nat) : Nat := angNF (tB r) (tA r)
theorem gAF_eq (r : Nat) : gA r = gAF r := by unfold gA gAF; rw [angNF_eq]
noncomputable def hA (r : Nat) : Nat := fmul .f64 (fwid (gA r)) 4634204016564240384
def hAF (r : Nat) : Nat := mulF (widF (gAF r)) 4634204016564240384
theorem hAF_eq (r : Nat) : hA r = hAF r := by unfold hA hAF; rw [gAF_eq, widF_eq, mulF_eq]
noncomputable def tuV (n : Nat) : Nat := fsub .f64 (hA (n % 64)) (floatOfInt .f64 ((n : Int) - 128))
def tuF (n : Nat) : Nat := subF (hAF (n % 64)) (intF ((n : Int) - 128))
theorem tuF_eq (n : Nat) : tuV n = tuF n := by unfold tuV tuF; rw [hAF_eq, intF_eq, subF_eq]
noncomputable def whV (n : Nat) : Nat := fadd .f64 (tuV n) 4666723447345250304
def whF (n : Nat) : Nat := addF (tuF n) 4666723447345250304
theorem whF_eq (n : Nat) : whV n = whF n := by unfold whV whF; rw [tuF_eq, addF_eq]
def okK (n : Nat) (k : Int) : Bool := decide (-100000 ≤ k) && (decide (k ≤ 100000) && (decide (Int.tmod (k - 10000) 64 = 0) && (fi64 (gapF (tuF n) (intF (k - 10000))) && !gtF (gapF (tuF n) (intF (k - 10000))) 4562254508917369340)))
def okM (n : Nat) : Option Int → Bool
  | some k => okK n k
  | none => false
def okQ (r : Nat) : Bool := if r % 16 = 0 then or (eqF (gapF (widF (tA r)) 0) 0) (eqF (gapF (widF (tA r)) 0) 4607182418800017408) else true
def okN (n : Nat) : Bool := fi32 (gAF (n % 64)) && (fi64 (hAF (n % 64)) && (fi64 (tuF n) && (fi64 (whF n) && okM n (floatToIntVal .f64 (whF n) .i64))))
set_option maxRecDepth 100000 in
theorem okN_all : (List.range 256).all okN = true := by decide +kernel
set_option maxRecDepth 100000 in
theorem okQ_all : (List.range 64).all okQ = true := by decide +kernel
structure AnOk (n : Nat) (k : Int) : Prop where
  fg : finB .f32 (gA (n % 64)) = true
  nh : isN .f64 (hA (n % 64)) = false
  nt : isN .f64 (tuV n) = false
  nw : isN .f64 (whV n) = false
  ik : floatToIntVal .f64 (whV n) .i64 = some k
  lo : -100000 ≤ k
  hi : k ≤ 100000
  md : Int.tmod (k - 10000) 64 = 0
  ng : isN .f64 (gapV (tuV n) (floatOfInt .f64 (k - 10000))) = false
  gp : (FloatKind.f64.format.order (gapV (tuV n) (floatOfInt .f64 (k - 10000))) 4562254508917369340 == some .gt) = false
theorem an_ok (n : Nat) (h : n < 256) : ∃ k, AnOk n k := by
  have k := all_get okN_all n h
  unfold okN at k
  simp only [Bool.and_eq_true] at k
  obtain ⟨k1, k2, k3, k4, k5⟩ := k
  cases hk : floatToIntVal .f64 (whF n) .i64 with
  | none => rw [hk] at k5; cases k5
  | some v =>
    rw [hk] at k5
    unfold okM okK at k5
    simp only [Bool.and_eq_true, Bool.not_eq_true', decide_eq_true_eq] at k5
    obtain ⟨m1, m2, m3, m4, m5⟩ := k5
    exact ⟨v, ⟨by rw [gAF_eq]; exact fin32 k1, by rw [hAF_eq]; exact num64 k2, by rw [tuF_eq]; exact num64 k3, by rw [whF_eq]; exact num64 k4, by rw [whF_eq]; exact hk, m1, m2, m3,
      by rw [gapF_eq, tuF_eq, intF_eq]; exact num64 m4, by rw [gtF_eq, gapF_eq, tuF_eq, intF_eq]; exact m5⟩⟩
theorem qu_ok (r : Nat) (h : r < 64) (h16 : r % 16 = 0) : (FloatKind.f64.format.order (gapV (fwid (tA r)) 0) 0 == some .eq) = true ∨ (FloatKind.f64.format.order (gapV (fwid (tA r)) 0) 4607182418800017408 == some .eq) = true := by
  have k := all_get okQ_all r h
  unfold okQ at k
  rw [if_pos h16] at k
  rw [eqF_eq, eqF_eq, gapF_eq, widF_eq]
  cases h1 : eqF (gapF (widF (tA r)) 0) 0 with
  | true => exact .inl rfl
  | false => rw [h1] at k; exact .inr k
end Go.Proofs.Ytcnamhmoocdccaa
