/- The contract of areWithin, and what it calls of the library. Under no condition. -/
import Derived.Test.YtcnamhmoocdccaaCb
import Derived.Test.YtcnamhmoocdccaaSl
import Derived.Lib.Hide
namespace Go.Proofs.Ytcnamhmoocdccaa
open Go Go.RowKit
set_option linter.unusedVariables false
set_option linter.unusedSimpArgs false

theorem areWithin_fn (n lo hi : Int) (p q : Addr) (w : World) (hp : w.cell? p = some (.int .i64 lo)) (hq : w.cell? q = some (.int .i64 hi)) :
    Calls Try.prog 96 #[.int .i64 n, .pointer (some p), .pointer (some q)] w fun e w' => e = .returned (.bool (!inB n lo hi)) ∧ w = w' := by
  go_enter Try.func96, Try.ntmps96
  go_wp2_with (first | (go_at_call 75; refine (impl_within _ _ _ _).mono ?_; rintro e w' ⟨rfl, rfl⟩))
  go_ret
  exact ⟨rfl, rfl⟩

/-- All of the first k numbers are in the range. -/
def allIn (z : Nat → Int) (lo hi : Int) : Nat → Bool
  | 0 => true
  | k + 1 => allIn z lo hi k && inB (z k) lo hi

theorem allIn_false {z : Nat → Int} {lo hi : Int} {k len : Nat} (hk : k < len) (h : inB (z k) lo hi = false) : allIn z lo hi len = false := by
  induction len with
  | zero => omega
  | succ n ih =>
    unfold allIn
    by_cases e : k = n
    · subst e; rw [h, Bool.and_false]
    · rw [ih (by omega), Bool.false_and]

theorem indexFunc_within (a : Option Addr) (len cap : Nat) (z : Nat → Int) (lo hi : Int) (p q : Addr) (w : World) (hs : Holds w a len (fun i => .int .i64 (z i))) (hl : len ≤ 9223372036854775807)
    (hp : w.cell? p = some (.int .i64 lo)) (hq : w.cell? q = some (.int .i64 hi)) :
    Calls Try.prog 107 #[.slice a len cap, .func (.func 96) #[] #[.pointer (some p), .pointer (some q)]] w fun e w' => (∃ k : Int, e = .returned (.int .i64 k) ∧ decide (0 ≤ k) = !allIn z lo hi len) ∧ w = w' := by
  have H := Lib.hid hs.split
  clear hs
  go_enter Try.func107, Try.ntmps107
  go_wp2
  go_loop [8] (fun i => ∃ k : Nat, k ≤ len ∧ i = .int .i64 k ∧ Hid (allIn z lo hi k = true)) (fun i => len - (intOf i).toNat)
  case atStart => exact ⟨0, Nat.zero_le _, rfl, Lib.hid rfl⟩
  case round =>
    obtain ⟨k, hk, rfl, hall⟩ := hrel
    by_cases hlt : k < len
    · rcases H.out with h0 | ⟨b, o, rfl, hb, hc⟩
      · omega
      have h1 : w.cell? ⟨b, o + k, none⟩ = some (.int .i64 (z k)) := hc k hlt
      clear H hc
      cases hin : inB (z k) lo hi with
      | true =>
        have HN : Hid (allIn z lo hi (k + 1) = true) := Lib.hid (by unfold allIn; rw [hall.out, hin]; rfl)
        go_wp2_with (first | (go_at_call 96; refine (areWithin_fn _ _ _ _ _ _ hp hq).mono ?_; rintro e w' ⟨rfl, rfl⟩))
        go_round
        case rel => exact ⟨k + 1, by omega, by go_num, HN⟩
        case measure => simp [intOf]; omega
      | false =>
        have HN := Lib.hid (allIn_false hlt hin)
        go_wp2_with (first | (go_at_call 96; refine (areWithin_fn _ _ _ _ _ _ hp hq).mono ?_; rintro e w' ⟨rfl, rfl⟩))
        go_ret
        exact ⟨⟨_, rfl, by rw [HN.out]; simp⟩, rfl⟩
    · have hk2 : k = len := by omega
      subst hk2
      go_wp2
      go_ret
      exact ⟨⟨_, rfl, by rw [hall.out]; rfl⟩, rfl⟩

theorem containsFunc_within (a : Option Addr) (len cap : Nat) (z : Nat → Int) (lo hi : Int) (p q : Addr) (w : World) (hs : Holds w a len (fun i => .int .i64 (z i))) (hl : len ≤ 9223372036854775807)
    (hp : w.cell? p = some (.int .i64 lo)) (hq : w.cell? q = some (.int .i64 hi)) :
    Calls Try.prog 95 #[.slice a len cap, .func (.func 96) #[] #[.pointer (some p), .pointer (some q)]] w fun e w' => e = .returned (.bool (!allIn z lo hi len)) ∧ w = w' := by
  go_enter Try.func95, Try.ntmps95
  go_wp2_with (first | (go_at_call 107; refine (indexFunc_within _ _ _ z _ _ _ _ _ hs hl hp hq).mono ?_; rintro e w' ⟨⟨k, rfl, hk⟩, rfl⟩; have HK := Lib.hid hk; clear hk))
  go_ret
  exact ⟨ret_bool HK.out, rfl⟩

theorem impl_areWithin (lo hi : Int) (a : Option Addr) (len cap : Nat) (z : Nat → Int) (w : World) (hs : Holds w a len (fun i => .int .i64 (z i))) (hl : len ≤ 9223372036854775807) :
    Calls Try.prog 63 #[.int .i64 lo, .int .i64 hi, .slice a len cap] w fun e w' => e = .returned (.bool (allIn z lo hi len)) ∧ Below w.heap.size w w' := by
  have hmf : ∀ (fn : Fn) (first cap : Array Value) (w : World), (Instr.makeFunc fn first cap).run Try.prog w = .ok (.func fn first cap) w := fun _ _ _ _ => rfl
  have K : Below w.heap.size w ((w.alloc (.cells #[.int .i64 lo] 2)).alloc (.cells #[.int .i64 hi] 2)) := ((Below.refl _ _).alloc (Nat.le_refl _) _).alloc (by simp) _
  have hs' := hs.keep K
  go_enter Try.func63, Try.ntmps63
  go_wp2_with fail

  refine (containsFunc_within _ _ _ z lo hi _ _ _ hs' hl ?_ ?_).mono ?_
  · go_simp
  · go_simp
  rintro e w' ⟨rfl, rfl⟩
  go_wp2
  go_ret
  exact ⟨ret_bool (by simp), K⟩

end Go.Proofs.Ytcnamhmoocdccaa
