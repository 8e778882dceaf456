/- Contracts on ranges, names and check numbers. Under no condition. -/
import Derived.Test.YtcnamhmoocdccaaChecked
import Derived.Test.YtcnamhmoocdccaaFl
import Derived.WalkKit
import Derived.WalkLawsBesides
import Derived.WalkSpells
import Derived.KernelRfl
import Derived.Lib.Hide
namespace Go.Proofs.Ytcnamhmoocdccaa
open Go Go.RowKit
set_option linter.unusedVariables false
set_option linter.unusedSimpArgs false

def inB (n lo hi : Int) : Bool := decide (lo ≤ n ∧ n ≤ hi)

theorem impl_within (n lo hi : Int) (w : World) :
    Calls Try.prog 75 #[.int .i64 n, .int .i64 lo, .int .i64 hi] w fun e w' => e = .returned (.bool (inB n lo hi)) ∧ w = w' := by
  go_enter Try.func75, Try.ntmps75
  go_wp2
  all_goals (go_ret; refine ⟨ret_bool ?_, rfl⟩)
  all_goals (simp [inB]; try omega)

theorem spec_l00In (n lo hi : Int) (w : World) :
    Calls Try.prog 94 #[.int .i64 n, .int .i64 lo, .int .i64 hi] w fun e w' => e = .returned (.bool (inB n lo hi)) ∧ w = w' := by
  go_enter Try.func94, Try.ntmps94
  go_wp2
  all_goals (go_ret; refine ⟨ret_bool ?_, rfl⟩)
  all_goals (simp [inB]; try omega)

def azB (c : UInt8) : Bool := decide (97 ≤ c.toNat ∧ c.toNat ≤ 122)
theorem az_lo {c : UInt8} (h : azB c = true) : (97 : Int) ≤ c.toNat := by simp [azB] at h; omega
theorem az_hi {c : UInt8} (h : azB c = true) : (c.toNat : Int) ≤ 122 := by simp [azB] at h; omega
theorem az_not {c : UInt8} (h : ¬ azB c = true) : (c.toNat : Int) < 97 ∨ (122 : Int) < c.toNat := by simp [azB] at h; omega
def AzUpto (s : ByteArray) (k : Nat) : Prop := ∀ j, j < k → ∀ h : j < s.size, azB s[j] = true
theorem AzUpto.snoc {s : ByteArray} {k : Nat} (h : AzUpto s k) (hk : k < s.size) (ha : azB s[k] = true) : AzUpto s (k + 1) := by
  intro j hj hjs
  by_cases e : j = k
  · subst e; exact ha
  · exact h j (by omega) hjs
def AzAll (s : ByteArray) : Prop := ∀ j (h : j < s.size), azB s[j] = true
theorem AzUpto.all {s : ByteArray} {k : Nat} (h : AzUpto s k) (hk : s.size ≤ k) : AzAll s := fun j hj => h j (by omega) hj
open Classical in
noncomputable def nameB (s : ByteArray) : Bool := decide (AzAll s ∧ 1 ≤ s.size ∧ s.size ≤ 8)
theorem nameB_no (s : ByteArray) (k : Nat) (hk : k < s.size) (h : ¬ azB s[k] = true) : nameB s = false := by
  unfold nameB
  rw [decide_eq_false_iff_not]
  exact fun g => h (g.1 k hk)
theorem nameB_len (s : ByteArray) (h : AzAll s) : nameB s = decide ((1 : Int) ≤ s.size ∧ (s.size : Int) ≤ 8) := by
  unfold nameB
  rw [decide_eq_decide]
  constructor
  · rintro ⟨_, h1, h2⟩; omega
  · rintro ⟨h1, h2⟩; exact ⟨h, by omega, by omega⟩

/-- The check number of a text. -/
def checkL (n : Int) (l : List UInt8) : Int := l.foldl (fun n c => (743 * n + c.toNat + 71) % 65003) n
theorem checkL_bd (n : Int) (l : List UInt8) (h0 : 0 ≤ n) (h1 : n < 65003) : 0 ≤ checkL n l ∧ checkL n l < 65003 := by
  unfold checkL
  induction l generalizing n with
  | nil => exact ⟨h0, h1⟩
  | cons c l ih => exact ih ((743 * n + c.toNat + 71) % 65003) (by omega) (by omega)
theorem take_snoc (s : ByteArray) (k : Nat) (h : k < s.size) : s.data.toList.take (k + 1) = s.data.toList.take k ++ [s[k]] := by
  rw [List.take_succ_eq_append_getElem (by simpa using h)]; rfl
theorem take_all (s : ByteArray) (k : Nat) (h : s.size ≤ k) : s.data.toList.take k = s.data.toList := List.take_of_length_le (by simpa using h)
theorem checkL_snoc (m : Int) (s : ByteArray) (k : Nat) (h : k < s.size) : checkL m (s.data.toList.take (k + 1)) = (743 * checkL m (s.data.toList.take k) + s[k].toNat + 71) % 65003 := by
  rw [take_snoc s k h]; simp [checkL, List.foldl_append]

/-- What CheckOf answers. -/
def checkOk (m : Int) : Bool := inB m 0 65002
def checkVal (m : Int) (s : ByteArray) : Int := if checkOk m then checkL m s.data.toList else 0
end Go.Proofs.Ytcnamhmoocdccaa
