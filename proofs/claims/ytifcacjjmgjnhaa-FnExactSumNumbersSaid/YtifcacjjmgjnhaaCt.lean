/- Contracts of sums and products of lists. Under no condition. -/
import Derived.Test.YtifcacjjmgjnhaaCs
import Derived.RegionTactic
import Derived.ChangeAlike
namespace Go.Proofs.Ytifcacjjmgjnhaa
open Go Go.RowKit
set_option linter.unusedVariables false
set_option linter.unusedSimpArgs false

/-- The sum of the numbers V 0 .. V (k-1), from left to right. -/
def accF (V : Nat → Nat) : Nat → Nat
  | 0 => 0
  | k + 1 => fadd .f32 (accF V k) (V k)

theorem acc_step {V : Nat → Nat} {k s r : Nat} (h : Same .f32 s (accF V k)) (hr : cn .f32 r = cn .f32 (fadd .f32 s (V k))) : Same .f32 r (accF V (k + 1)) := by
  refine ⟨hr.trans ?_⟩
  show _ = cn .f32 (fadd .f32 (accF V k) (V k))
  rw [h.add (Same.refl _ _)]

def sumV (xs : List Nat) (i : Nat) : Nat := xs[i]?.getD 0
def dotV (xs ys : List Nat) (i : Nat) : Nat := fmul .f32 (xs[i]?.getD 0) (ys[i]?.getD 0)

theorem spec_l01Few (a : Option Addr) (len cap : Nat) (w : World) :
    Calls Try.prog 55 #[.slice a len cap] w fun e w' => e = .returned (.bool (decide ((len : Int) ≤ 256))) ∧ w = w' := by
  go_enter Try.func55, Try.ntmps55
  go_wp2
  go_ret
  exact ⟨rfl, rfl⟩

theorem spec_l01Sum (a : Option Addr) (len cap : Nat) (xs : List Nat) (w : World) (hs : Holds w a len (fvals .f32 xs)) (hl : len ≤ 1048576) :
    Calls Try.prog 57 #[.slice a len cap] w fun e w' => ∃ s n, e = .returned (.float .f32 s) ∧ Same .f32 s (accF (sumV xs) len) ∧ w' = w.drewN n := by
  have H := Lib.hid hs.split
  clear hs
  go_enter Try.func57, Try.ntmps57
  go_wp2
  go_loopw [3, 4] (fun sv i wr => ∃ k : Nat, k ≤ len ∧ i = .int .i64 k ∧ ∃ s n, sv = .float .f32 s ∧ Same .f32 s (accF (sumV xs) k) ∧ wr = w.drewN n) (fun _ i _ => len - (intOf i).toNat)
  case atStart => exact ⟨0, Nat.zero_le _, rfl, 0, 0, rfl, Same.refl _ _, rfl⟩
  case round =>
    obtain ⟨k, hk, rfl, s, n, rfl, hs, rfl⟩ := hrel
    have HS := Lib.hid hs
    clear hs
    by_cases hlt : k < len
    · rcases H.out with h0 | ⟨b, o, rfl, hb, hc⟩
      · omega
      have h1 : w.cell? ⟨b, o + k, none⟩ = some (.float .f32 (sumV xs k)) := hc k hlt
      clear H hc
      go_wp2_with (first | (refine wpList_farith rfl _ _ _ _ _ rfl rfl _ _ _ rfl rfl ?_; rintro r n ⟨hr⟩ hl; simp only [fbin] at hr) | (refine wpList_fwid rfl _ _ _ rfl _ rfl (by rw [Try.underlying23]; rfl) Try.underlying31 ?_; rintro r n ⟨hr⟩ hl))
      go_roundw
      case rel => exact ⟨k + 1, by omega, by go_num, _, _, rfl, acc_step HS.out hr, rfl⟩
      case measure => simp [intOf]; omega
    · have hk2 : k = len := by omega
      subst hk2
      go_wp2
      go_ret
      exact ⟨_, _, rfl, HS.out, rfl⟩

/-- What SumNumbers answers. -/
def SumOut (V : Nat → Nat) (few : Bool) (len : Nat) (w : World) (e : Ending) (w' : World) : Prop :=
  ∃ s n, e = .returned (.tuple #[.float .f32 s, .bool few]) ∧ Same .f32 s (if few then accF V len else 0) ∧ w' = w.drewN n

theorem impl_SumNumbers (a : Option Addr) (len cap : Nat) (xs : List Nat) (w : World) (hs : Holds w a len (fvals .f32 xs)) (hl : len ≤ 1048576) :
    Calls Try.prog 37 #[.slice a len cap] w (SumOut (sumV xs) (decide (len ≤ 256)) len w) := by
  have H := Lib.hid hs.split
  clear hs
  by_cases hf : len ≤ 256
  · rw [decide_eq_true hf]
    go_enter Try.func37, Try.ntmps37
    go_wp2
    go_loopw [4, 12] (fun sv i wr => ∃ k : Nat, k ≤ len ∧ i = .int .i64 k ∧ ∃ s n, sv = .float .f32 s ∧ Same .f32 s (accF (sumV xs) k) ∧ wr = w.drewN n) (fun _ i _ => len - (intOf i).toNat)
    case atStart => exact ⟨0, Nat.zero_le _, rfl, 0, 0, rfl, Same.refl _ _, rfl⟩
    case round =>
      obtain ⟨k, hk, rfl, s, n, rfl, hs, rfl⟩ := hrel
      have HS := Lib.hid hs
      clear hs
      by_cases hlt : k < len
      · rcases H.out with h0 | ⟨b, o, rfl, hb, hc⟩
        · omega
        have h1 : w.cell? ⟨b, o + k, none⟩ = some (.float .f32 (sumV xs k)) := hc k hlt
        clear H hc
        go_wp2_with (first | (refine wpList_farith rfl _ _ _ _ _ rfl rfl _ _ _ rfl rfl ?_; rintro r n ⟨hr⟩ hl; simp only [fbin] at hr) | (refine wpList_fwid rfl _ _ _ rfl _ rfl (by rw [Try.underlying23]; rfl) Try.underlying31 ?_; rintro r n ⟨hr⟩ hl))
        go_roundw
        case rel => exact ⟨k + 1, by omega, by go_num, _, _, rfl, acc_step HS.out hr, rfl⟩
        case measure => simp [intOf]; omega
      · have hk2 : k = len := by omega
        subst hk2
        go_wp2
        go_ret2
        exact ⟨_, _, rfl, HS.out, rfl⟩
  · rw [decide_eq_false hf]
    go_enter Try.func37, Try.ntmps37
    go_wp2
    go_ret2
    exact ⟨_, 0, rfl, Same.refl _ _, rfl⟩

theorem spec_SumNumbers (a : Option Addr) (len cap : Nat) (xs : List Nat) (w : World) (hs : Holds w a len (fvals .f32 xs)) (hl : len ≤ 1048576) :
    Calls Try.prog 36 #[.slice a len cap] w (SumOut (sumV xs) (decide (len ≤ 256)) len w) := by
  by_cases hf : len ≤ 256
  · rw [decide_eq_true hf]
    have hd : decide ((len : Int) ≤ 256) = true := by simp; omega
    go_enter Try.func36, Try.ntmps36
    go_wp2_with (first | (go_at_call 55; refine (spec_l01Few _ _ _ _).mono ?_; rintro e w' ⟨rfl, rfl⟩) | (go_at_call 57; refine (spec_l01Sum _ _ _ xs _ hs hl).mono ?_; rintro e w' ⟨s, n, rfl, h1, rfl⟩))
    go_ret2
    exact ⟨_, _, rfl, h1, rfl⟩
  · rw [decide_eq_false hf]
    have hd : decide ((len : Int) ≤ 256) = false := by simp; omega
    go_enter Try.func36, Try.ntmps36
    go_wp2_with (first | (go_at_call 55; refine (spec_l01Few _ _ _ _).mono ?_; rintro e w' ⟨rfl, rfl⟩))
    go_ret2
    exact ⟨_, 0, rfl, Same.refl _ _, rfl⟩

theorem acc_step2 {V : Nat → Nat} {k s r rm : Nat} (h : Same .f32 s (accF V k)) (hm : cn .f32 rm = cn .f32 (V k)) (hr : cn .f32 r = cn .f32 (fadd .f32 s rm)) : Same .f32 r (accF V (k + 1)) := by
  refine acc_step h (hr.trans ?_)
  rw [Same.add (Same.refl _ s) ⟨hm⟩]

theorem spec_l01Dot (a b : Option Addr) (len cap cap' : Nat) (xs ys : List Nat) (w : World) (hx : Holds w a len (fvals .f32 xs)) (hy : Holds w b len (fvals .f32 ys)) (hl : len ≤ 1048576) :
    Calls Try.prog 56 #[.slice a len cap, .slice b len cap'] w fun e w' => ∃ s n, e = .returned (.float .f32 s) ∧ Same .f32 s (accF (dotV xs ys) len) ∧ w' = w.drewN n := by
  have HX := Lib.hid hx.split
  have HY := Lib.hid hy.split
  clear hx hy
  go_enter Try.func56, Try.ntmps56
  go_wp2
  go_loopw [5, 6] (fun sv i wr => ∃ k : Nat, k ≤ len ∧ i = .int .i64 k ∧ ∃ s n, sv = .float .f32 s ∧ Same .f32 s (accF (dotV xs ys) k) ∧ wr = w.drewN n) (fun _ i _ => len - (intOf i).toNat)
  case atStart => exact ⟨0, Nat.zero_le _, rfl, 0, 0, rfl, Same.refl _ _, rfl⟩
  case round =>
    obtain ⟨k, hk, rfl, s, n, rfl, hs, rfl⟩ := hrel
    have HS := Lib.hid hs
    clear hs
    by_cases hlt : k < len
    · rcases HX.out with h0 | ⟨b, o, rfl, hb, hc⟩
      · omega
      rcases HY.out with h0 | ⟨b', o', rfl, hb', hc'⟩
      · omega
      have h1 : w.cell? ⟨b, o + k, none⟩ = some (.float .f32 (xs[k]?.getD 0)) := hc k hlt
      have h2 : w.cell? ⟨b', o' + k, none⟩ = some (.float .f32 (ys[k]?.getD 0)) := hc' k hlt
      clear HX HY hc hc'
      have hM := fun x y w => run_afv Try.prog .mul rfl 23 .f32 x y w
      have hA := fun x y w => run_afv Try.prog .add rfl 23 .f32 x y w
      go_wp2
      all_goals (try go_region)
      all_goals
        go_wp2
        go_roundw
        case rel =>
          exact ⟨k + 1, by omega, by go_num, _, _, rfl, acc_step2 HS.out (cn_afv .mul rfl .f32 _ _ _) (cn_afv .add rfl .f32 _ _ _), rfl⟩
        case measure => simp [intOf]; omega
    · have hk2 : k = len := by omega
      subst hk2
      go_wp2
      go_ret
      exact ⟨_, _, rfl, HS.out, rfl⟩

theorem impl_DotNumbers (a b : Option Addr) (len cap cap' : Nat) (xs ys : List Nat) (w : World) (hx : Holds w a len (fvals .f32 xs)) (hy : Holds w b len (fvals .f32 ys)) (hl : len ≤ 256) :
    Calls Try.prog 34 #[.slice a len cap, .slice b len cap'] w (SumOut (dotV xs ys) true len w) := by
  have HX := Lib.hid hx.split
  have HY := Lib.hid hy.split
  clear hx hy
  go_enter Try.func34, Try.ntmps34
  go_wp2
  go_loopw [6, 21] (fun sv i wr => ∃ k : Nat, k ≤ len ∧ i = .int .i64 k ∧ ∃ s n, sv = .float .f32 s ∧ Same .f32 s (accF (dotV xs ys) k) ∧ wr = w.drewN n) (fun _ i _ => len - (intOf i).toNat)
  case atStart => exact ⟨0, Nat.zero_le _, rfl, 0, 0, rfl, Same.refl _ _, rfl⟩
  case round =>
    obtain ⟨k, hk, rfl, s, n, rfl, hs, rfl⟩ := hrel
    have HS := Lib.hid hs
    clear hs
    by_cases hlt : k < len
    · rcases HX.out with h0 | ⟨b, o, rfl, hb, hc⟩
      · omega
      rcases HY.out with h0 | ⟨b', o', rfl, hb', hc'⟩
      · omega
      have h1 : w.cell? ⟨b, o + k, none⟩ = some (.float .f32 (xs[k]?.getD 0)) := hc k hlt
      have h2 : w.cell? ⟨b', o' + k, none⟩ = some (.float .f32 (ys[k]?.getD 0)) := hc' k hlt
      clear HX HY hc hc'
      have hM := fun x y w => run_afv Try.prog .mul rfl 23 .f32 x y w
      have hA := fun x y w => run_afv Try.prog .add rfl 23 .f32 x y w
      go_wp2
      all_goals (try go_region)
      all_goals
        go_wp2
        go_roundw
        case rel =>
          exact ⟨k + 1, by omega, by go_num, _, _, rfl, acc_step2 HS.out (cn_afv .mul rfl .f32 _ _ _) (cn_afv .add rfl .f32 _ _ _), rfl⟩
        case measure => simp [intOf]; omega
    · have hk2 : k = len := by omega
      subst hk2
      go_wp2
      go_ret2
      exact ⟨_, _, rfl, HS.out, rfl⟩

theorem impl_DotNumbers_no (a b : Option Addr) (len len' cap cap' : Nat) (V : Nat → Nat) (w : World) (hno : 256 < len ∨ len ≠ len') (hl : len ≤ 1048576) (hl' : len' ≤ 1048576) :
    Calls Try.prog 34 #[.slice a len cap, .slice b len' cap'] w (SumOut V false len w) := by
  by_cases h : 256 < len
  · go_enter Try.func34, Try.ntmps34
    go_wp2
    go_ret2
    exact ⟨_, 0, rfl, Same.refl _ _, rfl⟩
  · have hne : ((len : Int) != (len' : Int)) = true := by rw [bne_iff_ne]; omega
    have hno' : len ≤ 256 := by omega
    clear hno h
    go_enter Try.func34, Try.ntmps34
    go_wp2
    go_ret2
    exact ⟨_, 0, rfl, Same.refl _ _, rfl⟩

theorem spec_DotNumbers (a b : Option Addr) (len cap cap' : Nat) (xs ys : List Nat) (w : World) (hx : Holds w a len (fvals .f32 xs)) (hy : Holds w b len (fvals .f32 ys)) (hl : len ≤ 256) :
    Calls Try.prog 32 #[.slice a len cap, .slice b len cap'] w (SumOut (dotV xs ys) true len w) := by
  have hd : decide ((len : Int) ≤ 256) = true := by simp; omega
  go_enter Try.func32, Try.ntmps32
  go_wp2_with (first | (go_at_call 55; refine (spec_l01Few _ _ _ _).mono ?_; rintro e w' ⟨rfl, rfl⟩) | (go_at_call 56; refine (spec_l01Dot _ _ _ _ _ xs ys _ hx hy (by omega)).mono ?_; rintro e w' ⟨s, n, rfl, h1, rfl⟩))
  go_ret2
  exact ⟨_, _, rfl, h1, rfl⟩

theorem spec_DotNumbers_no (a b : Option Addr) (len len' cap cap' : Nat) (V : Nat → Nat) (w : World) (hno : 256 < len ∨ len ≠ len') (hl : len ≤ 1048576) (hl' : len' ≤ 1048576) :
    Calls Try.prog 32 #[.slice a len cap, .slice b len' cap'] w (SumOut V false len w) := by
  by_cases h : 256 < len
  · have hd : decide ((len : Int) ≤ 256) = false := by simp; omega
    go_enter Try.func32, Try.ntmps32
    go_wp2_with (first | (go_at_call 55; refine (spec_l01Few _ _ _ _).mono ?_; rintro e w' ⟨rfl, rfl⟩))
    go_ret2
    exact ⟨_, 0, rfl, Same.refl _ _, rfl⟩
  · have hne : ((len : Int) != (len' : Int)) = true := by rw [bne_iff_ne]; omega
    have hd : decide ((len : Int) ≤ 256) = true := by simp; omega
    clear hno h
    go_enter Try.func32, Try.ntmps32
    go_wp2_with (first | (go_at_call 55; refine (spec_l01Few _ _ _ _).mono ?_; rintro e w' ⟨rfl, rfl⟩))
    go_ret2
    exact ⟨_, 0, rfl, Same.refl _ _, rfl⟩

end Go.Proofs.Ytifcacjjmgjnhaa
