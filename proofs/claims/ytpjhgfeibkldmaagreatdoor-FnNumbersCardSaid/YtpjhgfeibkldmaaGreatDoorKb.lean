/- Bytes that came in: how many, and one of them. Under no condition. -/
import Derived.Test.YtpjhgfeibkldmaaGreatDoorSl
import Derived.Test.YtpjhgfeibkldmaaGreatDoorZa
import Derived.Tactics
namespace Go.Proofs.YtpjhgfeibkldmaaGreatDoor
open Go Go.RowKit
set_option linter.unusedVariables false
set_option linter.unusedSimpArgs false

/-! ### Bytes. -/
set_option maxRecDepth 100000 in
theorem laws_b10Long (a : Option Addr) (n c : Nat) (b : Option Addr) (m d : Nat) (w : World) : Calls Tryz.prog 5 #[.slice a n c, .slice b m d] w fun e w' => e = .returned (.bool (decide (1048576 < n) || decide (1048576 < m))) ∧ w = w' := by
  by_cases h1 : 1048576 < n
  · have g1 : decide ((1048576 : Int) < (n : Int)) = true := decide_eq_true (by omega)
    rw [decide_eq_true h1]
    clear h1
    go_enter Tryz.func5, Tryz.ntmps5
    go_wp2
    go_ret
    exact ⟨rfl, rfl⟩
  · have g1 : decide ((1048576 : Int) < (n : Int)) = false := decide_eq_false (by omega)
    rw [decide_eq_false h1]
    clear h1
    by_cases h2 : 1048576 < m
    · have g2 : decide ((1048576 : Int) < (m : Int)) = true := decide_eq_true (by omega)
      rw [decide_eq_true h2]
      clear h2
      go_enter Tryz.func5, Tryz.ntmps5
      go_wp2
      go_ret
      exact ⟨rfl, rfl⟩
    · have g2 : decide ((1048576 : Int) < (m : Int)) = false := decide_eq_false (by omega)
      rw [decide_eq_false h2]
      clear h2
      go_enter Tryz.func5, Tryz.ntmps5
      go_wp2
      go_ret
      exact ⟨rfl, rfl⟩
theorem byte_at {xs : List Int} (h : ∀ x ∈ xs, (Lit.int .u8 x).wf = true) (i : Nat) : 0 ≤ xs.getD i 0 ∧ xs.getD i 0 < 256 := by
  rw [List.getD_eq_getElem?_getD]
  cases hx : xs[i]? with
  | none => exact ⟨Int.le_refl _, by decide⟩
  | some v =>
    have := h v (List.mem_of_getElem? hx)
    simp [Lit.wf, IntKind.min, IntKind.max, IntKind.signed, IntKind.bits] at this
    show 0 ≤ v ∧ v < 256
    omega
set_option maxRecDepth 100000 in
theorem laws_b10At (a : Option Addr) (len cap : Nat) (xs : List Int) (i n : Nat) (w : World) (h : IRow .u8 w a len cap xs) (hi : i ≤ 1) (h2 : 2 ≤ n) (h256 : n ≤ 256) :
    Calls Tryz.prog 16 #[.slice a len cap, .int .i64 (i : Int), .int .i64 (n : Int)] w fun e w' => (∃ m : Nat, m < n ∧ e = .returned (.int .i64 (m : Int))) ∧ w = w' := by
  obtain ⟨hC, hl, hcap, hmax, hwf⟩ := h
  have g1 : decide ((n : Int) ≤ 1) = false := decide_eq_false (by omega)
  have hlen : len ≤ maxLen := by omega
  unfold maxLen at hlen
  by_cases hlt : i < len
  · rcases hC.split with h0 | ⟨b, o, rfl, hb, hc⟩
    · omega
    have h1 : w.cell? ⟨b, o + i, none⟩ = some (.int .u8 (xs.getD i 0)) := hc i hlt
    have hv := byte_at hwf i
    generalize xs.getD i 0 = v at h1 hv
    have g2 : decide ((i : Int) < (len : Int)) = true := decide_eq_true (by omega)
    have hm : ∃ m : Nat, m < n ∧ Int.tmod v (n : Int) = (m : Int) := by
      refine ⟨(v % (n : Int)).toNat, ?_, ?_⟩
      · have := Int.emod_lt_of_pos v (show (0 : Int) < n by omega)
        have := Int.emod_nonneg v (show (n : Int) ≠ 0 by omega)
        omega
      · rw [Int.tmod_eq_emod_of_nonneg hv.1, Int.toNat_of_nonneg (Int.emod_nonneg v (show (n : Int) ≠ 0 by omega))]
    obtain ⟨m, hm1, hm2⟩ := hm
    have hn0 : ¬ ((n : Int) = 0) := by omega
    clear hc hC hwf hl hcap hmax hb
    go_enter Tryz.func16, Tryz.ntmps16
    go_wp2
    go_ret
    refine ⟨⟨m, hm1, ?_⟩, rfl⟩
    first | rw [← hm2] | skip
    rfl
  · have g2 : decide ((i : Int) < (len : Int)) = false := decide_eq_false (by omega)
    have hm : ∃ m : Nat, m < n ∧ Int.tmod ((i : Int) * 37 + 11) (n : Int) = (m : Int) := by
      have h0 : 0 ≤ (i : Int) * 37 + 11 := by omega
      refine ⟨(((i : Int) * 37 + 11) % (n : Int)).toNat, ?_, ?_⟩
      · have := Int.emod_lt_of_pos ((i : Int) * 37 + 11) (show (0 : Int) < n by omega)
        have := Int.emod_nonneg ((i : Int) * 37 + 11) (show (n : Int) ≠ 0 by omega)
        omega
      · rw [Int.tmod_eq_emod_of_nonneg h0, Int.toNat_of_nonneg (Int.emod_nonneg _ (show (n : Int) ≠ 0 by omega))]
    obtain ⟨m, hm1, hm2⟩ := hm
    have hn0 : ¬ ((n : Int) = 0) := by omega
    clear hC hwf hl hcap hmax
    go_enter Tryz.func16, Tryz.ntmps16
    go_wp2
    go_ret
    refine ⟨⟨m, hm1, ?_⟩, rfl⟩
    first | rw [← hm2] | skip
    rfl

end Go.Proofs.YtpjhgfeibkldmaaGreatDoor

