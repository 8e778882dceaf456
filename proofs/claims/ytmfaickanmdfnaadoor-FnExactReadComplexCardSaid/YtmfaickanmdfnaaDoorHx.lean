/- Hexadecimal digits, in plain words. Under no condition. -/
import Derived.Test.YtmfaickanmdfnaaDoorPl
import Derived.Test.YtmfaickanmdfnaaDoorCa
namespace Go.Proofs.YtmfaickanmdfnaaDoor
open Go Go.RowKit Go.Proofs.YtmfaickanmdfnaaDoorW.PrintWords
set_option linter.unusedVariables false
set_option linter.unusedSimpArgs false

/-- One digit's byte. -/
def hexD (d : Nat) : UInt8 := UInt8.ofNat (if d < 10 then 48 + d else 87 + d)
/-- k digits of a number, the last ones. -/
def hexK : Nat → Nat → List UInt8
  | 0, _ => []
  | k + 1, u => hexK k (u / 16) ++ [hexD (u % 16)]
/-- As few digits as spell a number. -/
def hexL (u : Nat) : List UInt8 :=
  if h : u < 16 then [hexD u] else hexL (u / 16) ++ [hexD (u % 16)]
termination_by u
decreasing_by omega

theorem hexK_len : ∀ (k u : Nat), (hexK k u).length = k
  | 0, _ => rfl
  | k + 1, u => by rw [hexK, List.length_append, hexK_len k]; rfl
theorem hexK_zero : ∀ (k : Nat), hexK k 0 = List.replicate k 48
  | 0 => rfl
  | k + 1 => by
    rw [hexK, Nat.zero_div, hexK_zero k, List.replicate_succ']
    rfl
theorem hexL_pad : ∀ (k u : Nat), u < 16 ^ (k + 1) → (hexL u).length ≤ k + 1 ∧ List.replicate (k + 1 - (hexL u).length) 48 ++ hexL u = hexK (k + 1) u
  | 0, u, h => by
    have hu : u < 16 := by simpa using h
    rw [hexL, dif_pos hu]
    refine ⟨by simp, ?_⟩
    rw [hexK, hexK, Nat.mod_eq_of_lt hu]
    rfl
  | k + 1, u, h => by
    by_cases hu : u < 16
    · rw [hexL, dif_pos hu]
      refine ⟨by simp, ?_⟩
      rw [hexK, Nat.div_eq_of_lt hu, hexK_zero, Nat.mod_eq_of_lt hu]
      rfl
    · obtain ⟨h1, h2⟩ := hexL_pad k (u / 16) (by rw [Nat.pow_succ] at h; omega)
      rw [hexL, dif_neg hu, List.length_append, List.length_singleton]
      refine ⟨by omega, ?_⟩
      rw [hexK, ← h2, List.append_assoc]
      congr 2
      omega
theorem hexL_step (u : Nat) (h : ¬ u < 16) : hexL u = hexL (u / 16) ++ [hexD (u % 16)] := by rw [hexL, dif_neg h]
theorem hexL_last (u : Nat) (h : u < 16) : hexL u = [hexD u] := by rw [hexL, dif_pos h]
/-- The text of a number: the 8 digits of its bits. -/
def hexT (x : Nat) : ByteArray := ⟨(hexK 8 (bitsOf x).toNat).toArray⟩
theorem bitsOf_lt (x : Nat) (h : x < 2 ^ 32) : 0 ≤ bitsOf x ∧ bitsOf x < 4294967296 := by
  unfold bitsOf
  split <;> omega
theorem hexT_size (x : Nat) : (hexT x).size = 8 := by unfold hexT; rw [ba_size, hexK_len]

/-- The text of a list of numbers. -/
def ntxt (xs : List Nat) : ByteArray := if xs = [] then ⟨#[110, 111, 110, 101]⟩ else ⟨(Lib.join (xs.map fun x => (hexT x).data.toList) [44]).toArray⟩
end Go.Proofs.YtmfaickanmdfnaaDoor
