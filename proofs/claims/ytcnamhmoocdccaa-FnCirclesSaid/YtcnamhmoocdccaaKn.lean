/- Tenths of decibels of eighths and their products, reckoned: a part of all. Under no condition. -/
import Derived.Test.YtcnamhmoocdccaaKm
namespace Go.Proofs.Ytcnamhmoocdccaa
open Go Go.RowKit
set_option maxRecDepth 100000 in
theorem okU_n0 : (List.range 2).all (fun u => okU (Nat.add u 0)) = true := by decide +kernel
theorem near_n0 (u : Nat) (h : 0 ≤ u) (h2 : u < 2) : okU u = true := by
  have k := get_all okU_n0 (u - 0) (by omega)
  have e : Nat.add (u - 0) 0 = u := by show u - 0 + 0 = u; omega
  rw [e] at k
  exact k
set_option maxRecDepth 100000 in
theorem okU_n1 : (List.range 1).all (fun u => okU (Nat.add u 2)) = true := by decide +kernel
theorem near_n1 (u : Nat) (h : 2 ≤ u) (h2 : u < 3) : okU u = true := by
  have k := get_all okU_n1 (u - 2) (by omega)
  have e : Nat.add (u - 2) 2 = u := by show u - 2 + 2 = u; omega
  rw [e] at k
  exact k
set_option maxRecDepth 100000 in
theorem okU_n2 : (List.range 1).all (fun u => okU (Nat.add u 3)) = true := by decide +kernel
theorem near_n2 (u : Nat) (h : 3 ≤ u) (h2 : u < 4) : okU u = true := by
  have k := get_all okU_n2 (u - 3) (by omega)
  have e : Nat.add (u - 3) 3 = u := by show u - 3 + 3 = u; omega
  rw [e] at k
  exact k
set_option maxRecDepth 100000 in
theorem okU_n3 : (List.range 2).all (fun u => okU (Nat.add u 4)) = true := by decide +kernel
theorem near_n3 (u : Nat) (h : 4 ≤ u) (h2 : u < 6) : okU u = true := by
  have k := get_all okU_n3 (u - 4) (by omega)
  have e : Nat.add (u - 4) 4 = u := by show u - 4 + 4 = u; omega
  rw [e] at k
  exact k
set_option maxRecDepth 100000 in
theorem okU_n4 : (List.range 2).all (fun u => okU (Nat.add u 6)) = true := by decide +kernel
theorem near_n4 (u : Nat) (h : 6 ≤ u) (h2 : u < 8) : okU u = true := by
  have k := get_all okU_n4 (u - 6) (by omega)
  have e : Nat.add (u - 6) 6 = u := by show u - 6 + 6 = u; omega
  rw [e] at k
  exact k
theorem near_n (u : Nat) (h : 0 ≤ u) (h2 : u < 8) : okU u = true := by
  by_cases h3 : u < 2
  · exact near_n0 u (by omega) h3
  by_cases h4 : u < 3
  · exact near_n1 u (by omega) h4
  by_cases h5 : u < 4
  · exact near_n2 u (by omega) h5
  by_cases h6 : u < 6
  · exact near_n3 u (by omega) h6
  exact near_n4 u (by omega) (by omega)
end Go.Proofs.Ytcnamhmoocdccaa
