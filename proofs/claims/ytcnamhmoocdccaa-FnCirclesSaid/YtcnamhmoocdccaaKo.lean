/- Tenths of decibels of eighths and their products, reckoned: a part of all. Under no condition. -/
import Derived.Test.YtcnamhmoocdccaaKm
namespace Go.Proofs.Ytcnamhmoocdccaa
open Go Go.RowKit
set_option maxRecDepth 100000 in
theorem okU_o0 : (List.range 2).all (fun u => okU (Nat.add u 8)) = true := by decide +kernel
theorem near_o0 (u : Nat) (h : 8 ≤ u) (h2 : u < 10) : okU u = true := by
  have k := get_all okU_o0 (u - 8) (by omega)
  have e : Nat.add (u - 8) 8 = u := by show u - 8 + 8 = u; omega
  rw [e] at k
  exact k
set_option maxRecDepth 100000 in
theorem okU_o1 : (List.range 2).all (fun u => okU (Nat.add u 10)) = true := by decide +kernel
theorem near_o1 (u : Nat) (h : 10 ≤ u) (h2 : u < 12) : okU u = true := by
  have k := get_all okU_o1 (u - 10) (by omega)
  have e : Nat.add (u - 10) 10 = u := by show u - 10 + 10 = u; omega
  rw [e] at k
  exact k
set_option maxRecDepth 100000 in
theorem okU_o2 : (List.range 2).all (fun u => okU (Nat.add u 12)) = true := by decide +kernel
theorem near_o2 (u : Nat) (h : 12 ≤ u) (h2 : u < 14) : okU u = true := by
  have k := get_all okU_o2 (u - 12) (by omega)
  have e : Nat.add (u - 12) 12 = u := by show u - 12 + 12 = u; omega
  rw [e] at k
  exact k
set_option maxRecDepth 100000 in
theorem okU_o3 : (List.range 3).all (fun u => okU (Nat.add u 14)) = true := by decide +kernel
theorem near_o3 (u : Nat) (h : 14 ≤ u) (h2 : u < 17) : okU u = true := by
  have k := get_all okU_o3 (u - 14) (by omega)
  have e : Nat.add (u - 14) 14 = u := by show u - 14 + 14 = u; omega
  rw [e] at k
  exact k
set_option maxRecDepth 100000 in
theorem okU_o4 : (List.range 3).all (fun u => okU (Nat.add u 17)) = true := by decide +kernel
theorem near_o4 (u : Nat) (h : 17 ≤ u) (h2 : u < 20) : okU u = true := by
  have k := get_all okU_o4 (u - 17) (by omega)
  have e : Nat.add (u - 17) 17 = u := by show u - 17 + 17 = u; omega
  rw [e] at k
  exact k
theorem near_o (u : Nat) (h : 8 ≤ u) (h2 : u < 20) : okU u = true := by
  by_cases h3 : u < 10
  · exact near_o0 u (by omega) h3
  by_cases h4 : u < 12
  · exact near_o1 u (by omega) h4
  by_cases h5 : u < 14
  · exact near_o2 u (by omega) h5
  by_cases h6 : u < 17
  · exact near_o3 u (by omega) h6
  exact near_o4 u (by omega) (by omega)
end Go.Proofs.Ytcnamhmoocdccaa
