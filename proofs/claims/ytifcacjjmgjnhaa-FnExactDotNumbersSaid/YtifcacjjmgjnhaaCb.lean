/- Contracts on ranges, names and check numbers. Under no condition. -/
import Derived.Test.YtifcacjjmgjnhaaChecked
import Derived.Test.YtifcacjjmgjnhaaFl
import Derived.WalkKit
import Derived.WalkLawsBesides
import Derived.WalkSpells
import Derived.KernelRfl
import Derived.Lib.Hide
namespace Go.Proofs.Ytifcacjjmgjnhaa
open Go Go.RowKit
set_option linter.unusedVariables false
set_option linter.unusedSimpArgs false

def inB (n lo hi : Int) : Bool := decide (lo ≤ n ∧ n ≤ hi)

theorem impl_within (n lo hi : Int) (w : World) :
    Calls Try.prog 47 #[.int .i64 n, .int .i64 lo, .int .i64 hi] w fun e w' => e = .returned (.bool (inB n lo hi)) ∧ w = w' := by
  go_enter Try.func47, Try.ntmps47
  go_wp2
  all_goals (go_ret; refine ⟨ret_bool ?_, rfl⟩)
  all_goals (simp [inB]; try omega)

theorem spec_l00In (n lo hi : Int) (w : World) :
    Calls Try.prog 45 #[.int .i64 n, .int .i64 lo, .int .i64 hi] w fun e w' => e = .returned (.bool (inB n lo hi)) ∧ w = w' := by
  go_enter Try.func45, Try.ntmps45
  go_wp2
  all_goals (go_ret; refine ⟨ret_bool ?_, rfl⟩)
  all_goals (simp [inB]; try omega)

def azB (c : UInt8) : Bool := decide (97 ≤ c.toNat ∧ c.toNat ≤ 122)
theorem az_lo {c : UInt8} (h : azB c = true) : (97 : Int) ≤ c.toNat := by simp [azB] at h; omega
theorem az_hi {c : UInt8} (h : azB c = true) : (c.toNat : Int) ≤ 122 := by simp [azB] at h; omega
theorem az_not {c : UInt8} (h : ¬ azB c = true) : (c.toNat : Int) < 97 ∨ (122 : Int) < c.toNat := by simp [azB] at h; omega
def AzUpto (s : ByteArray) (k : Nat) : Prop := ∀ j, j < k → ∀ h : j < s.size, azB s[j] = true
theorem AzUpto.snoc {s : ByteArray} {k : Nat} (h : AzUpto s k) (hk : k < s.size) (ha : azB s[k] = true) : AzUpto s (k + 1) := by
  intro j hj hjs
  by_cases e : j = k
  · subst e; exact ha
  · exact h j (by omega) hjs
def AzAll (s : ByteArray) : Prop := ∀ j (h : j < s.size), azB s[j] = true
theorem AzUpto.all {s : ByteArray} {k : Nat} (h : AzUpto s k) (hk : s.size ≤ k) : AzAll s := fun j hj => h j (by omega) hj
open Classical in
noncomputable def nameB (s : ByteArray) : Bool := decide (AzAll s ∧ 1 ≤ s.size ∧ s.size ≤ 8)
theorem nameB_no (s : ByteArray) (k : Nat) (hk : k < s.size) (h : ¬ azB s[k] = true) : nameB s = false := by
  unfold nameB
  rw [decide_eq_false_iff_not]
  exact fun g => h (g.1 k hk)
theorem nameB_len (s : ByteArray) (h : AzAll s) : nameB s = decide ((1 : Int) ≤ s.size ∧ (s.size : Int) ≤ 8) := by
  unfold nameB
  rw [decide_eq_decide]
  constructor
  · rintro ⟨_, h1, h2⟩; omega
  · rintro ⟨h1, h2⟩; exact ⟨h, by omega, by omega⟩

theorem impl_IsName (s : ByteArray) (w : World) (hs : s.size ≤ maxLen) :
    Calls Try.prog 20 #[.string s] w fun e w' => e = .returned (.bool (nameB s)) ∧ w = w' := by
  unfold maxLen at hs
  go_enter Try.func20, Try.ntmps20
  go_wp2
  go_loop [6] (fun i => ∃ k : Nat, k ≤ s.size ∧ i = .int .i64 k ∧ AzUpto s k) (fun i => s.size - (intOf i).toNat)
  case atStart => exact ⟨0, Nat.zero_le _, rfl, fun j h _ => absurd h (Nat.not_lt_zero _)⟩
  case round =>
    obtain ⟨k, hk, rfl, hall⟩ := hrel
    by_cases hlt : k < s.size
    · by_cases haz : azB s[k] = true
      · have h1 := az_lo haz
        have h2 := az_hi haz
        go_wp2
        go_round
        case rel => exact ⟨k + 1, by omega, by go_num, hall.snoc hlt haz⟩
        case measure => simp [intOf]; omega
      · have hno := nameB_no s k hlt haz
        have h1 := az_not haz
        have HNO := Lib.hid hno
        clear hno
        go_wp2
        all_goals first
          | (go_ret; exact ⟨ret_bool HNO.out.symm, rfl⟩)
          | (exfalso; omega)
    · have hall' := hall.all (by omega)
      have e := nameB_len s hall'
      have E := Lib.hid e
      clear e hall' hall
      go_wp2
      all_goals (go_ret; refine ⟨ret_bool ?_, rfl⟩; rw [E.out]; (try simp); (try omega))

theorem spec_IsName (s : ByteArray) (w : World) (hs : s.size ≤ maxLen) :
    Calls Try.prog 19 #[.string s] w fun e w' => e = .returned (.bool (nameB s)) ∧ w = w' := by
  unfold maxLen at hs
  go_enter Try.func19, Try.ntmps19
  go_wp2
  go_loop [3] (fun i => ∃ k : Nat, k ≤ s.size ∧ i = .int .i64 k ∧ AzUpto s k) (fun i => s.size - (intOf i).toNat)
  case atStart => exact ⟨0, Nat.zero_le _, rfl, fun j h _ => absurd h (Nat.not_lt_zero _)⟩
  case round =>
    obtain ⟨k, hk, rfl, hall⟩ := hrel
    by_cases hlt : k < s.size
    · by_cases haz : azB s[k] = true
      · have h1 := az_lo haz
        have h2 := az_hi haz
        go_wp2
        go_round
        case rel => exact ⟨k + 1, by omega, by go_num, hall.snoc hlt haz⟩
        case measure => simp [intOf]; omega
      · have hno := nameB_no s k hlt haz
        have h1 := az_not haz
        have HNO := Lib.hid hno
        clear hno
        go_wp2
        all_goals first
          | (go_ret; exact ⟨ret_bool HNO.out.symm, rfl⟩)
          | (exfalso; omega)
    · have hall' := hall.all (by omega)
      have e := nameB_len s hall'
      have E := Lib.hid e
      clear e hall' hall
      go_wp2
      all_goals (go_ret; refine ⟨ret_bool ?_, rfl⟩; rw [E.out]; (try simp); (try omega))

/-- The check number of a text. -/
def checkL (n : Int) (l : List UInt8) : Int := l.foldl (fun n c => (743 * n + c.toNat + 71) % 65003) n
theorem checkL_bd (n : Int) (l : List UInt8) (h0 : 0 ≤ n) (h1 : n < 65003) : 0 ≤ checkL n l ∧ checkL n l < 65003 := by
  unfold checkL
  induction l generalizing n with
  | nil => exact ⟨h0, h1⟩
  | cons c l ih => exact ih ((743 * n + c.toNat + 71) % 65003) (by omega) (by omega)
theorem take_snoc (s : ByteArray) (k : Nat) (h : k < s.size) : s.data.toList.take (k + 1) = s.data.toList.take k ++ [s[k]] := by
  rw [List.take_succ_eq_append_getElem (by simpa using h)]; rfl
theorem take_all (s : ByteArray) (k : Nat) (h : s.size ≤ k) : s.data.toList.take k = s.data.toList := List.take_of_length_le (by simpa using h)
theorem checkL_snoc (m : Int) (s : ByteArray) (k : Nat) (h : k < s.size) : checkL m (s.data.toList.take (k + 1)) = (743 * checkL m (s.data.toList.take k) + s[k].toNat + 71) % 65003 := by
  rw [take_snoc s k h]; simp [checkL, List.foldl_append]

theorem impl_check (m : Int) (s : ByteArray) (w : World) (hs : s.size ≤ maxLen) (h0 : 0 ≤ m) (h1 : m < 65003) :
    Calls Try.prog 50 #[.int .i64 m, .string s] w fun e w' => e = .returned (.int .i64 (checkL m s.data.toList)) ∧ w = w' := by
  unfold maxLen at hs
  go_enter Try.func50, Try.ntmps50
  go_wp2
  go_loop [0, 8] (fun n i => ∃ k : Nat, k ≤ s.size ∧ i = .int .i64 k ∧ n = .int .i64 (checkL m (s.data.toList.take k))) (fun _ i => s.size - (intOf i).toNat)
  case atStart => exact ⟨0, Nat.zero_le _, rfl, rfl⟩
  case round =>
    obtain ⟨k, hk, rfl, rfl⟩ := hrel
    obtain ⟨hb0, hb1⟩ := checkL_bd m (s.data.toList.take k) h0 h1
    by_cases hlt : k < s.size
    · have hsn := Lib.hid (checkL_snoc m s k hlt)
      have hc : (s[k].toNat : Int) < 256 := by have := s[k].toNat_lt; omega
      have hc0 : (0 : Int) ≤ s[k].toNat := by omega
      generalize checkL m (s.data.toList.take k) = c at *
      go_wp2
      go_round
      case rel => exact ⟨k + 1, by omega, by go_num, by rw [hsn.out]⟩
      case measure => simp [intOf]; omega
    · have hall := Lib.hid (take_all s k (Nat.not_lt.1 hlt))
      go_wp2
      go_ret
      exact ⟨ret_i64 (congrArg (checkL m) hall.out), rfl⟩

theorem spec_l01Check (m : Int) (s : ByteArray) (w : World) (hs : s.size ≤ maxLen) (h0 : 0 ≤ m) (h1 : m < 65003) :
    Calls Try.prog 49 #[.int .i64 m, .string s] w fun e w' => e = .returned (.int .i64 (checkL m s.data.toList)) ∧ w = w' := by
  unfold maxLen at hs
  go_enter Try.func49, Try.ntmps49
  go_wp2
  go_loop [0, 5] (fun n i => ∃ k : Nat, k ≤ s.size ∧ i = .int .i64 k ∧ n = .int .i64 (checkL m (s.data.toList.take k))) (fun _ i => s.size - (intOf i).toNat)
  case atStart => exact ⟨0, Nat.zero_le _, rfl, rfl⟩
  case round =>
    obtain ⟨k, hk, rfl, rfl⟩ := hrel
    obtain ⟨hb0, hb1⟩ := checkL_bd m (s.data.toList.take k) h0 h1
    by_cases hlt : k < s.size
    · have hsn := Lib.hid (checkL_snoc m s k hlt)
      have hc : (s[k].toNat : Int) < 256 := by have := s[k].toNat_lt; omega
      have hc0 : (0 : Int) ≤ s[k].toNat := by omega
      generalize checkL m (s.data.toList.take k) = c at *
      go_wp2
      go_round
      case rel => exact ⟨k + 1, by omega, by go_num, by rw [hsn.out]⟩
      case measure => simp [intOf]; omega
    · have hall := Lib.hid (take_all s k (Nat.not_lt.1 hlt))
      go_wp2
      go_ret
      exact ⟨ret_i64 (congrArg (checkL m) hall.out), rfl⟩

/-- What CheckOf answers. -/
def checkOk (m : Int) : Bool := inB m 0 65002
def checkVal (m : Int) (s : ByteArray) : Int := if checkOk m then checkL m s.data.toList else 0
theorem spec_CheckOf (m : Int) (s : ByteArray) (w : World) (hs : s.size ≤ maxLen) :
    Calls Try.prog 26 #[.int .i64 m, .string s] w fun e w' => e = .returned (.tuple #[.int .i64 (checkVal m s), .bool (checkOk m)]) ∧ w = w' := by
  cases hb : checkOk m with
  | true =>
    have hb1 : inB m 0 65002 = true := hb
    have h0 : 0 ≤ m ∧ m ≤ 65002 := by simpa [inB] using hb1
    have hv : checkVal m s = checkL m s.data.toList := by simp [checkVal, hb]
    rw [hv]; clear hv hb
    obtain ⟨h0, h1⟩ := h0
    go_enter Try.func26, Try.ntmps26
    go_wp2_with (first | (go_at_call 45; refine (spec_l00In _ _ _ _).mono ?_; rintro e w' ⟨rfl, rfl⟩) | (go_at_call 49; refine (spec_l01Check _ _ _ hs h0 (Int.lt_of_le_of_lt h1 (by decide))).mono ?_; rintro e w' ⟨rfl, rfl⟩))
    go_ret2
    exact ⟨rfl, rfl⟩
  | false =>
    have hb1 : inB m 0 65002 = false := hb
    have hv : checkVal m s = 0 := by simp [checkVal, hb]
    rw [hv]; clear hv hb
    go_enter Try.func26, Try.ntmps26
    go_wp2_with (first | (go_at_call 45; refine (spec_l00In _ _ _ _).mono ?_; rintro e w' ⟨rfl, rfl⟩))
    go_ret2
    exact ⟨rfl, rfl⟩
theorem impl_CheckOf (m : Int) (s : ByteArray) (w : World) (hs : s.size ≤ maxLen) :
    Calls Try.prog 27 #[.int .i64 m, .string s] w fun e w' => e = .returned (.tuple #[.int .i64 (checkVal m s), .bool (checkOk m)]) ∧ w = w' := by
  cases hb : checkOk m with
  | true =>
    have hb1 : inB m 0 65002 = true := hb
    have h0 : 0 ≤ m ∧ m ≤ 65002 := by simpa [inB] using hb1
    have hv : checkVal m s = checkL m s.data.toList := by simp [checkVal, hb]
    rw [hv]; clear hv hb
    obtain ⟨h0, h1⟩ := h0
    go_enter Try.func27, Try.ntmps27
    go_wp2_with (first | (go_at_call 47; refine (impl_within _ _ _ _).mono ?_; rintro e w' ⟨rfl, rfl⟩) | (go_at_call 50; refine (impl_check _ _ _ hs h0 (Int.lt_of_le_of_lt h1 (by decide))).mono ?_; rintro e w' ⟨rfl, rfl⟩))
    go_ret2
    exact ⟨rfl, rfl⟩
  | false =>
    have hb1 : inB m 0 65002 = false := hb
    have hv : checkVal m s = 0 := by simp [checkVal, hb]
    rw [hv]; clear hv hb
    go_enter Try.func27, Try.ntmps27
    go_wp2_with (first | (go_at_call 47; refine (impl_within _ _ _ _).mono ?_; rintro e w' ⟨rfl, rfl⟩))
    go_ret2
    exact ⟨rfl, rfl⟩

end Go.Proofs.Ytifcacjjmgjnhaa
