/- Tenths of decibels of eighths and their products, reckoned: a part of all. Under no condition. -/
import Derived.Test.YtcnamhmoocdccaaKm
namespace Go.Proofs.Ytcnamhmoocdccaa
open Go Go.RowKit
set_option maxRecDepth 100000 in
theorem okU_q0 : (List.range 5).all (fun u => okU (Nat.add u 39)) = true := by decide +kernel
theorem near_q0 (u : Nat) (h : 39 ≤ u) (h2 : u < 44) : okU u = true := by
  have k := get_all okU_q0 (u - 39) (by omega)
  have e : Nat.add (u - 39) 39 = u := by show u - 39 + 39 = u; omega
  rw [e] at k
  exact k
set_option maxRecDepth 100000 in
theorem okU_q1 : (List.range 6).all (fun u => okU (Nat.add u 44)) = true := by decide +kernel
theorem near_q1 (u : Nat) (h : 44 ≤ u) (h2 : u < 50) : okU u = true := by
  have k := get_all okU_q1 (u - 44) (by omega)
  have e : Nat.add (u - 44) 44 = u := by show u - 44 + 44 = u; omega
  rw [e] at k
  exact k
set_option maxRecDepth 100000 in
theorem okU_q2 : (List.range 9).all (fun u => okU (Nat.add u 50)) = true := by decide +kernel
theorem near_q2 (u : Nat) (h : 50 ≤ u) (h2 : u < 59) : okU u = true := by
  have k := get_all okU_q2 (u - 50) (by omega)
  have e : Nat.add (u - 50) 50 = u := by show u - 50 + 50 = u; omega
  rw [e] at k
  exact k
set_option maxRecDepth 100000 in
theorem okU_q3 : (List.range 13).all (fun u => okU (Nat.add u 59)) = true := by decide +kernel
theorem near_q3 (u : Nat) (h : 59 ≤ u) (h2 : u < 72) : okU u = true := by
  have k := get_all okU_q3 (u - 59) (by omega)
  have e : Nat.add (u - 59) 59 = u := by show u - 59 + 59 = u; omega
  rw [e] at k
  exact k
set_option maxRecDepth 100000 in
theorem okU_q4 : (List.range 28).all (fun u => okU (Nat.add u 72)) = true := by decide +kernel
theorem near_q4 (u : Nat) (h : 72 ≤ u) (h2 : u < 100) : okU u = true := by
  have k := get_all okU_q4 (u - 72) (by omega)
  have e : Nat.add (u - 72) 72 = u := by show u - 72 + 72 = u; omega
  rw [e] at k
  exact k
theorem near_q (u : Nat) (h : 39 ≤ u) (h2 : u < 100) : okU u = true := by
  by_cases h3 : u < 44
  · exact near_q0 u (by omega) h3
  by_cases h4 : u < 50
  · exact near_q1 u (by omega) h4
  by_cases h5 : u < 59
  · exact near_q2 u (by omega) h5
  by_cases h6 : u < 72
  · exact near_q3 u (by omega) h6
  exact near_q4 u (by omega) (by omega)
end Go.Proofs.Ytcnamhmoocdccaa
