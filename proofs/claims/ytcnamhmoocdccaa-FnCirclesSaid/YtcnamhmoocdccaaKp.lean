/- Tenths of decibels of eighths and their products, reckoned: a part of all. Under no condition. -/
import Derived.Test.YtcnamhmoocdccaaKm
namespace Go.Proofs.Ytcnamhmoocdccaa
open Go Go.RowKit
set_option maxRecDepth 100000 in
theorem okU_p0 : (List.range 3).all (fun u => okU (Nat.add u 20)) = true := by decide +kernel
theorem near_p0 (u : Nat) (h : 20 ≤ u) (h2 : u < 23) : okU u = true := by
  have k := get_all okU_p0 (u - 20) (by omega)
  have e : Nat.add (u - 20) 20 = u := by show u - 20 + 20 = u; omega
  rw [e] at k
  exact k
set_option maxRecDepth 100000 in
theorem okU_p1 : (List.range 3).all (fun u => okU (Nat.add u 23)) = true := by decide +kernel
theorem near_p1 (u : Nat) (h : 23 ≤ u) (h2 : u < 26) : okU u = true := by
  have k := get_all okU_p1 (u - 23) (by omega)
  have e : Nat.add (u - 23) 23 = u := by show u - 23 + 23 = u; omega
  rw [e] at k
  exact k
set_option maxRecDepth 100000 in
theorem okU_p2 : (List.range 4).all (fun u => okU (Nat.add u 26)) = true := by decide +kernel
theorem near_p2 (u : Nat) (h : 26 ≤ u) (h2 : u < 30) : okU u = true := by
  have k := get_all okU_p2 (u - 26) (by omega)
  have e : Nat.add (u - 26) 26 = u := by show u - 26 + 26 = u; omega
  rw [e] at k
  exact k
set_option maxRecDepth 100000 in
theorem okU_p3 : (List.range 4).all (fun u => okU (Nat.add u 30)) = true := by decide +kernel
theorem near_p3 (u : Nat) (h : 30 ≤ u) (h2 : u < 34) : okU u = true := by
  have k := get_all okU_p3 (u - 30) (by omega)
  have e : Nat.add (u - 30) 30 = u := by show u - 30 + 30 = u; omega
  rw [e] at k
  exact k
set_option maxRecDepth 100000 in
theorem okU_p4 : (List.range 5).all (fun u => okU (Nat.add u 34)) = true := by decide +kernel
theorem near_p4 (u : Nat) (h : 34 ≤ u) (h2 : u < 39) : okU u = true := by
  have k := get_all okU_p4 (u - 34) (by omega)
  have e : Nat.add (u - 34) 34 = u := by show u - 34 + 34 = u; omega
  rw [e] at k
  exact k
theorem near_p (u : Nat) (h : 20 ≤ u) (h2 : u < 39) : okU u = true := by
  by_cases h3 : u < 23
  · exact near_p0 u (by omega) h3
  by_cases h4 : u < 26
  · exact near_p1 u (by omega) h4
  by_cases h5 : u < 30
  · exact near_p2 u (by omega) h5
  by_cases h6 : u < 34
  · exact near_p3 u (by omega) h6
  exact near_p4 u (by omega) (by omega)
end Go.Proofs.Ytcnamhmoocdccaa
