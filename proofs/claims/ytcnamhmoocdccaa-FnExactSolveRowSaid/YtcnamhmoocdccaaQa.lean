/- The solution of a row of equations, in plain words, and that it is finite only where the row is. Under no condition. -/
import Derived.Test.YtcnamhmoocdccaaFc
namespace Go.Proofs.Ytcnamhmoocdccaa
open Go
set_option linter.unusedVariables false
set_option linter.unusedSimpArgs false

/-! ### A sum, difference or quotient is not finite where its first part is not -/
theorem not_fin {x : Nat} (h : finB .f32 x = false) : isN .f32 x = true ∨ FloatKind.f32.format.read x = .infinity (sgn FloatKind.f32.format x) := by
  cases hx : isN .f32 x with
  | true => exact .inl rfl
  | false =>
    refine .inr (read_inf _ (okF .f32) x ?_)
    have h1 := rung_le hx
    have h2 : ¬ rung FloatKind.f32.format x < FloatKind.f32.format.infRung := by simpa [finB] using h
    omega
theorem inf_finB (s : Bool) : finB .f32 (FloatKind.f32.format.write (.infinity s)) = false := by cases s <;> decide
theorem nanb_finB : finB .f32 (nanb .f32) = false := nan_finB (isN_nanb .f32)
theorem add_nf {x : Nat} (y : Nat) (h : finB .f32 x = false) : finB .f32 (fadd .f32 x y) = false := by
  rw [fadd_eq]
  unfold Ieee.Format.add
  rcases not_fin h with hn | hi
  · obtain ⟨s, t, hr⟩ := read_nan hn
    rw [hr, sum_nan_left]
    exact nanb_finB
  · rw [hi]
    cases FloatKind.f32.format.read y with
    | nan s t => rw [sum_nan_right]; exact nanb_finB
    | infinity s =>
      simp only [Ieee.Datum.sum]
      split
      · exact inf_finB _
      · exact nanb_finB
    | number s m e => exact inf_finB _
theorem sub_nf {x : Nat} (y : Nat) (h : finB .f32 x = false) : finB .f32 (fsub .f32 x y) = false := by
  rw [fsub_eq]
  unfold Ieee.Format.sub
  rcases not_fin h with hn | hi
  · obtain ⟨s, t, hr⟩ := read_nan hn
    rw [hr, sum_nan_left]
    exact nanb_finB
  · rw [hi]
    cases FloatKind.f32.format.read y with
    | nan s t => simp only [Ieee.Datum.opposite]; rw [sum_nan_right]; exact nanb_finB
    | infinity s =>
      simp only [Ieee.Datum.opposite, Ieee.Datum.sum]
      split
      · exact inf_finB _
      · exact nanb_finB
    | number s m e => exact inf_finB _
theorem div_nf {x : Nat} (y : Nat) (h : finB .f32 x = false) : finB .f32 (fdiv .f32 x y) = false := by
  rw [fdiv_eq]
  unfold Ieee.Format.div
  rcases not_fin h with hn | hi
  · obtain ⟨s, t, hr⟩ := read_nan hn
    rw [hr, quotient_nan_left]
    exact nanb_finB
  · rw [hi]
    cases FloatKind.f32.format.read y with
    | nan s t => rw [quotient_nan_right]; exact nanb_finB
    | infinity s => simp only [Ieee.Datum.quotient]; exact nanb_finB
    | number s m e => simp only [Ieee.Datum.quotient]; exact inf_finB _

/-! ### The sweep -/
/-- The factors and the right sides, forwards. -/
def sw (L M : Nat → Nat) (s : Nat) : Nat → Nat × Nat
  | 0 => (fdiv .f32 s (M 0), fdiv .f32 (L 0) (M 0))
  | i + 1 => (fdiv .f32 s (fsub .f32 (M (i + 1)) (fmul .f32 s (sw L M s i).1)), fdiv .f32 (fadd .f32 (L (i + 1)) (fmul .f32 s (sw L M s i).2)) (fsub .f32 (M (i + 1)) (fmul .f32 s (sw L M s i).1)))
/-- The solution, backwards: j places from the end. -/
def bk (L M : Nat → Nat) (s n : Nat) : Nat → Nat
  | 0 => (sw L M s (n - 1)).2
  | j + 1 => fadd .f32 (sw L M s (n - 2 - j)).2 (fmul .f32 (sw L M s (n - 2 - j)).1 (bk L M s n j))
def xV (L M : Nat → Nat) (s n i : Nat) : Nat := bk L M s n (n - 1 - i)
theorem xV_last (L M : Nat → Nat) (s n : Nat) : xV L M s n (n - 1) = (sw L M s (n - 1)).2 := by unfold xV; rw [Nat.sub_self]; rfl
theorem xV_step (L M : Nat → Nat) (s n i : Nat) (h : i + 1 < n) : xV L M s n i = fadd .f32 (sw L M s i).2 (fmul .f32 (sw L M s i).1 (xV L M s n (i + 1))) := by
  unfold xV
  rw [show n - 1 - i = (n - 1 - (i + 1)) + 1 by omega, bk, show n - 2 - (n - 1 - (i + 1)) = i by omega]
theorem sw_nf (L M : Nat → Nat) (s i : Nat) (h : finB .f32 (L i) = false) : finB .f32 (sw L M s i).2 = false := by
  cases i with
  | zero => exact div_nf _ h
  | succ i => exact div_nf _ (add_nf _ h)
theorem xV_nf (L M : Nat → Nat) (s n i : Nat) (hi : i < n) (h : finB .f32 (L i) = false) : finB .f32 (xV L M s n i) = false := by
  by_cases e : i + 1 < n
  · rw [xV_step L M s n i e]; exact add_nf _ (sw_nf L M s i h)
  · rw [show i = n - 1 by omega, xV_last]
    exact sw_nf L M s (n - 1) (by rw [show n - 1 = i by omega]; exact h)

/-! ### The row -/
/-- One and twice the share; the middle factors of an open row and of a round one. -/
def m1 (s : Nat) : Nat := fadd .f32 1065353216 s
def m2 (s : Nat) : Nat := fadd .f32 (m1 s) s
def midO (s n i : Nat) : Nat := if i = n - 1 then m1 s else if i = 0 then m1 s else m2 s
def midR (s n i : Nat) : Nat := if i = n - 1 then fadd .f32 (m2 s) (fmul .f32 s s) else if i = 0 then fadd .f32 (m2 s) 1065353216 else m2 s
/-- The right side of the second sweep of a round row. -/
def endV (s n i : Nat) : Nat := if i = n - 1 then Op.negFloat .f32 s else if i = 0 then 3212836864 else 0
def byV (L : Nat → Nat) (s n : Nat) : Nat :=
  fdiv .f32 (fadd .f32 (xV L (midR s n) s n 0) (fmul .f32 s (xV L (midR s n) s n (n - 1))))
    (fadd .f32 (fadd .f32 1065353216 (xV (endV s n) (midR s n) s n 0)) (fmul .f32 s (xV (endV s n) (midR s n) s n (n - 1))))
def rowV (L : Nat → Nat) (s n : Nat) (rd : Bool) (i : Nat) : Nat :=
  if rd then fsub .f32 (xV L (midR s n) s n i) (fmul .f32 (byV L s n) (xV (endV s n) (midR s n) s n i)) else xV L (midO s n) s n i
theorem rowV_nf (L : Nat → Nat) (s n : Nat) (rd : Bool) (i : Nat) (hi : i < n) (h : finB .f32 (L i) = false) : finB .f32 (rowV L s n rd i) = false := by
  unfold rowV
  cases rd with
  | true => exact sub_nf _ (xV_nf L _ s n i hi h)
  | false => exact xV_nf L _ s n i hi h
end Go.Proofs.Ytcnamhmoocdccaa
