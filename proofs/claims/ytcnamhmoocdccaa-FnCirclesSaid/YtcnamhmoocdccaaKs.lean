/- Eighths and their products as numbers of 32 bits, reckoned. Under no condition. -/
import Derived.Test.YtcnamhmoocdccaaKm
namespace Go.Proofs.Ytcnamhmoocdccaa
open Go Go.RowKit
set_option linter.unusedVariables false
set_option linter.unusedSimpArgs false
set_option exponentiation.threshold 5000

def mul32F (x y : Nat) : Nat := cond (fi32 x) (cond (fi32 y) (near32 (xorB (sg32 x) (sg32 y)) (Nat.mul (mg32 x) (mg32 y)) (Nat.add (ex32 x) (ex32 y)) 149) (fmul .f32 x y)) (fmul .f32 x y)
theorem mul32F_eq (x y : Nat) : fmul .f32 x y = mul32F x y := by
  unfold mul32F
  cases hx : fi32 x with
  | false => rfl
  | true =>
    cases hy : fi32 y with
    | false => rfl
    | true =>
      rw [fmul_eq]
      show ((Ieee.single.mul x y).getD (nanb .f32)) = near32 _ (mg32 x * mg32 y) (ex32 x + ex32 y) 149
      unfold Ieee.Format.mul
      rw [read32 hx, read32 hy]
      show Ieee.single.nearest (sg32 x ^^ sg32 y) (mg32 x * mg32 y) _ = _
      rw [near32_eq _ _ (ex32 x + ex32 y) 149 _ (by omega)]
      cases sg32 x <;> cases sg32 y <;> rfl
theorem mul32_comm {x y : Nat} (hx : fi32 x = true) (hy : fi32 y = true) : mul32F x y = mul32F y x := by
  unfold mul32F
  rw [hx, hy]
  show near32 _ (mg32 x * mg32 y) (ex32 x + ex32 y) 149 = near32 _ (mg32 y * mg32 x) (ex32 y + ex32 x) 149
  rw [Nat.mul_comm, Nat.add_comm]
  cases sg32 x <;> cases sg32 y <;> rfl

def okE8 (k : Nat) : Bool := fi32 (b32F k) && (Nat.ble (Nat.succ (b32F k)) 2147483648 && (Nat.ble 1 (b32F k) && Nat.beq (widF (b32F k)) (b64F k)))
def okJ (i j : Nat) : Bool := okE8 (Nat.mul i j) && Nat.beq (mul32F (b32F (Nat.mul i 8)) (b32F (Nat.mul j 8))) (b32F (Nat.mul i j))
def okI (i : Nat) : Bool := okE8 (Nat.mul i 8) && Nat.beq (fdiv .f32 (floatOfInt .f32 (i : Int)) 1090519040) (b32F (Nat.mul i 8))
set_option maxRecDepth 100000 in
theorem okI_all : (List.range 200).all (fun i => okI (Nat.succ i)) = true := by decide +kernel
set_option maxRecDepth 100000 in
theorem okJ_all : (List.range 200).all (fun i => (List.range (Nat.succ i)).all fun j => okJ (Nat.succ i) (Nat.succ j)) = true := by decide +kernel

structure FitsK (k : Nat) : Prop where
  fi : fi32 (b32F k) = true
  fin : finB .f32 (b32F k) = true
  pos : (FloatKind.f32.format.order (b32F k) 0 == some .lt || FloatKind.f32.format.order (b32F k) 0 == some .eq) = false
  wid : fwid (b32F k) = b64F k
theorem fin32' {x : Nat} (h : fi32 x = true) : finB .f32 x = true := by
  unfold finB
  refine decide_eq_true ?_
  show rung Ieee.single x < Ieee.single.infRung
  have := fiF_lt h
  unfold rung
  rw [show Ieee.single.signWeight = 2147483648 by decide, show Ieee.single.infRung = 2139095040 by decide]
  exact this
theorem fits_of {k : Nat} (h : okE8 k = true) : FitsK k := by
  unfold okE8 at h
  simp only [Bool.and_eq_true] at h
  obtain ⟨h1, h2, h3, h4⟩ := h
  have h2 := Nat.le_of_ble_eq_true h2
  have h3 := Nat.le_of_ble_eq_true h3
  refine ⟨h1, fin32' h1, ?_, by rw [widF_eq]; exact Nat.eq_of_beq_eq_true h4⟩
  have hz : isN .f32 0 = false := by decide
  rw [lss_num (num32 h1) hz, eql_num (num32 h1) hz]
  have hs : sval FloatKind.f32.format 0 = 0 := by decide
  have hp : 0 < sval FloatKind.f32.format (b32F k) := by
    show 0 < sval Ieee.single (b32F k)
    have e1 : sgn Ieee.single (b32F k) = false := by
      unfold sgn
      rw [show Ieee.single.signWeight = 2147483648 by decide, Nat.div_eq_of_lt (by omega)]; rfl
    have e2 : rung Ieee.single (b32F k) = b32F k := by
      unfold rung
      rw [show Ieee.single.signWeight = 2147483648 by decide, Nat.mod_eq_of_lt (by omega)]
    rw [sval_eq, e1, e2]
    have h5 := magB_lt Ieee.single.binade (binade_pos Ieee.single) (r := 0) (s := b32F k) (by omega)
    have h6 : mag Ieee.single (b32F k) = magB Ieee.single.binade (b32F k) := rfl
    simp only [Bool.false_eq_true, if_false]
    omega
  rw [hs, decide_eq_false (by omega), decide_eq_false (by omega)]; rfl
theorem all_get2 {n : Nat} {f : Nat → Bool} (h : (List.range n).all f = true) (i : Nat) (hi : i < n) : f i = true := List.all_eq_true.1 h i (List.mem_range.2 hi)
theorem eighth (i : Nat) (h0 : 0 < i) (h : i ≤ 200) : FitsK (i * 8) ∧ fdiv .f32 (floatOfInt .f32 (i : Int)) 1090519040 = b32F (i * 8) := by
  have k := all_get2 okI_all (i - 1) (by omega)
  rw [show Nat.succ (i - 1) = i by omega] at k
  unfold okI at k
  rw [Bool.and_eq_true] at k
  exact ⟨fits_of k.1, Nat.eq_of_beq_eq_true k.2⟩
theorem eighths_le (i j : Nat) (h0 : 0 < i) (h1 : 0 < j) (h2 : i ≤ 200) (hle : j ≤ i) : FitsK (i * j) ∧ fmul .f32 (b32F (i * 8)) (b32F (j * 8)) = b32F (i * j) := by
  have k := all_get2 (all_get2 okJ_all (i - 1) (by omega)) (j - 1) (by show j - 1 < Nat.succ (i - 1); omega)
  rw [show Nat.succ (i - 1) = i by omega, show Nat.succ (j - 1) = j by omega] at k
  unfold okJ at k
  rw [Bool.and_eq_true] at k
  exact ⟨fits_of k.1, by rw [mul32F_eq]; exact Nat.eq_of_beq_eq_true k.2⟩
theorem eighths (i j : Nat) (h0 : 0 < i) (h1 : 0 < j) (h2 : i ≤ 200) (h3 : j ≤ 200) : FitsK (i * j) ∧ fmul .f32 (b32F (i * 8)) (b32F (j * 8)) = b32F (i * j) := by
  rcases Nat.le_total j i with h | h
  · exact eighths_le i j h0 h1 h2 h
  · have k := eighths_le j i h1 h0 h3 h
    rw [mul32F_eq, mul32_comm (eighth i h0 h2).1.fi (eighth j h1 h3).1.fi, ← mul32F_eq, Nat.mul_comm i j]
    exact k
theorem TenK.is {k : Nat} {n : Int} (h : TenK k n) (hf : FitsK k) : TenIs (b32F k) n := by
  unfold TenIs
  rw [hf.wid]
  exact h

set_option maxRecDepth 100000 in
theorem one_ten : (okL 1 6 && (decide (tenO 1 6 = some 0) && (okE8 64 && Nat.beq (b32F 64) 1065353216))) = true := by decide +kernel
theorem one_is : TenIs 1065353216 0 := by
  have h := one_ten
  simp only [Bool.and_eq_true, decide_eq_true_eq] at h
  obtain ⟨h1, h2, h3, h4⟩ := h
  have k := (ten_of h1 h2).is (fits_of h3)
  rw [show (1 : Nat) * 2 ^ 6 = 64 from rfl, Nat.eq_of_beq_eq_true h4] at k
  exact k
end Go.Proofs.Ytcnamhmoocdccaa
