/- Products of phasors of 64ths of turns: the numbers, by reckoning. Under no condition. -/
import Derived.Test.YtcnamhmoocdccaaKh
namespace Go.Proofs.Ytcnamhmoocdccaa
open Go Go.RowKit
set_option linter.unusedVariables false
set_option linter.unusedSimpArgs false
set_option exponentiation.threshold 5000

def mreV (a b c d : Nat) : Nat := fconv .f64 (fsub .f64 (fmul .f64 (fwid a) (fwid c)) (fmul .f64 (fwid b) (fwid d))) .f32
def mimV (a b c d : Nat) : Nat := fconv .f64 (fadd .f64 (fmul .f64 (fwid a) (fwid d)) (fmul .f64 (fwid b) (fwid c))) .f32
def mreF (a b c d : Nat) : Nat := narF (subF (mulF (widF a) (widF c)) (mulF (widF b) (widF d)))
def mimF (a b c d : Nat) : Nat := narF (addF (mulF (widF a) (widF d)) (mulF (widF b) (widF c)))
theorem mreF_eq (a b c d : Nat) : mreV a b c d = mreF a b c d := by unfold mreV mreF; rw [widF_eq, widF_eq, widF_eq, widF_eq, mulF_eq, mulF_eq, subF_eq, narF_eq]
theorem mimF_eq (a b c d : Nat) : mimV a b c d = mimF a b c d := by unfold mimV mimF; rw [widF_eq, widF_eq, widF_eq, widF_eq, mulF_eq, mulF_eq, addF_eq, narF_eq]
def okS (r t : Nat) : Bool := fi32 r && (Nat.ble (rgF (widF r)) 4611686018427387904 && leF (gapF (widF r) (widF t)) 4547007122018943789)
def okP (u v : Nat) : Bool := okS (mreF (tA u) (tB u) (tA v) (tB v)) (tA (Nat.mod (Nat.add u v) 64)) && okS (mimF (tA u) (tB u) (tA v) (tB v)) (tB (Nat.mod (Nat.add u v) 64))
set_option maxRecDepth 100000 in
theorem okP_all : (List.range 64).all (fun u => (List.range 64).all (okP u)) = true := by decide +kernel
structure NearOk (r t : Nat) : Prop where
  fr : finB .f32 r = true
  br : Bd 1 (fwid r)
  le : leD (gapV (fwid r) (fwid t)) 4547007122018943789 = true
theorem near_of {r t : Nat} (h : okS r t = true) : NearOk r t := by
  unfold okS at h
  simp only [Bool.and_eq_true] at h
  obtain ⟨k1, k2, k3⟩ := h
  exact ⟨fin32 k1, by rw [widF_eq]; exact bd_of k2, by rw [leF_eq, gapF_eq, widF_eq, widF_eq]; exact k3⟩
theorem pair_ok (u v : Nat) (hu : u < 64) (hv : v < 64) : NearOk (mreV (tA u) (tB u) (tA v) (tB v)) (tA ((u + v) % 64)) ∧ NearOk (mimV (tA u) (tB u) (tA v) (tB v)) (tB ((u + v) % 64)) := by
  have k := all_get (all_get okP_all u hu) v hv
  unfold okP at k
  rw [Bool.and_eq_true] at k
  rw [mreF_eq, mimF_eq]
  exact ⟨near_of k.1, near_of k.2⟩
end Go.Proofs.Ytcnamhmoocdccaa
