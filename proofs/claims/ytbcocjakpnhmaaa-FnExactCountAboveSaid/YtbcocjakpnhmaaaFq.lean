/- Contracts on fields that are read: counts and ranges. Under no condition. -/
import Derived.Test.YtbcocjakpnhmaaaFr
namespace Go.Proofs.Ytbcocjakpnhmaaa
open Go Go.RowKit
set_option linter.unusedVariables false
set_option linter.unusedSimpArgs false

def geB (x l : Nat) : Bool := FloatKind.f32.format.order x l == some .gt || FloatKind.f32.format.order x l == some .eq
/-- How many of the first k numbers are at least l. -/
def cntV (V : Nat → Nat) (l : Nat) : Nat → Int
  | 0 => 0
  | k + 1 => cntV V l k + if geB (V k) l then 1 else 0
theorem cntV_bd (V : Nat → Nat) (l k : Nat) : 0 ≤ cntV V l k ∧ cntV V l k ≤ k := by
  induction k with
  | zero => simp [cntV]
  | succ n ih =>
    unfold cntV
    cases geB (V n) l <;> simp <;> omega
theorem ge_parts {x l : Nat} {v : Bool} (h : geB x l = v) : (FloatKind.f32.format.order x l == some .gt || FloatKind.f32.format.order x l == some .eq) = v := h

theorem spec_l02Count (b : Nat) (x y : Int) (r : Bool) (a : Option Addr) (len cap : Nat) (xs : List Nat) (l : Nat) (W1 : World) (h : FieldRd W1 b x y r a len cap xs) :
    Calls Try.prog 67 #[.pointer (some ⟨b, 0, none⟩), .float .f32 l] W1 fun e w' => ∃ n, e = .returned (.int .i64 (cntV (sumV xs) l len)) ∧ w' = W1.drewN n := by
  obtain ⟨⟨_, _, _, _, h3⟩, hs, hl⟩ := h
  have H := Lib.hid hs.split
  clear hs
  go_enter Try.func67, Try.ntmps67
  go_wp2
  go_loopw [5, 6] (fun cv i wr => ∃ k : Nat, k ≤ len ∧ i = .int .i64 k ∧ cv = .int .i64 (cntV (sumV xs) l k) ∧ ∃ n, wr = W1.drewN n) (fun _ i _ => len - (intOf i).toNat)
  case atStart => exact ⟨0, Nat.zero_le _, rfl, rfl, 0, rfl⟩
  case round =>
    obtain ⟨k, hk, rfl, rfl, n, rfl⟩ := hrel
    obtain ⟨hb0, hb1⟩ := cntV_bd (sumV xs) l k
    by_cases hlt : k < len
    · rcases H.out with h0 | ⟨b', o, rfl, hb, hc⟩
      · omega
      have h1 : W1.cell? ⟨b', o + k, none⟩ = some (.float .f32 (sumV xs k)) := hc k hlt
      cases hg : geB (sumV xs k) l with
      | true =>
        have hg2 := ge_parts hg
        have HN : Hid (cntV (sumV xs) l (k + 1) = cntV (sumV xs) l k + 1) := Lib.hid (by simp [cntV, hg])
        clear H hc hg
        generalize cntV (sumV xs) l k = c at *
        go_wp2
        go_roundw
        case rel => exact ⟨k + 1, by omega, by go_num, by rw [HN.out], _, rfl⟩
        case measure => simp [intOf]; omega
      | false =>
        have hg2 := ge_parts hg
        have HN : Hid (cntV (sumV xs) l (k + 1) = cntV (sumV xs) l k) := Lib.hid (by simp [cntV, hg])
        clear H hc hg
        generalize cntV (sumV xs) l k = c at *
        go_wp2
        go_roundw
        case rel => exact ⟨k + 1, by omega, by go_num, by rw [HN.out], _, rfl⟩
        case measure => simp [intOf]; omega
    · have hk2 : k = len := by omega
      subst hk2
      clear H hb0 hb1
      go_wp2
      go_ret
      exact ⟨_, rfl, rfl⟩

def cntR (c : Int) (ok : Bool) : Int := if ok then c else 0
/-- What CountAbove answers. -/
def CntOut (c : Int) (ok : Bool) (w : World) (e : Ending) (w' : World) : Prop :=
  e = .returned (.tuple #[.int .i64 (cntR c ok), .bool ok]) ∧ Below w.heap.size w w'

theorem spec_CountAbove (x y : Int) (r : Bool) (a : Option Addr) (len cap : Nat) (xs : List Nat) (l : Nat) (w : World) (hs : Holds w a len (fvals .f32 xs)) (hl : len ≤ 1048576) :
    Calls Try.prog 34 #[.agg #[.int .i64 x, .int .i64 y, .bool r, .slice a len cap], .float .f32 l] w (CntOut (cntV (sumV xs) l len) (validB x y len) w) := by
  have K := keep_box w (.cells #[.int .i64 x, .int .i64 y, .bool r, .slice a len cap] 37)
  have R := FieldRd.mk' w x y r a len cap xs 37 hs hl
  cases hv : validB x y len with
  | true =>
    have HV := Lib.hid hv
    clear hv
    go_enter Try.func34, Try.ntmps34
    go_wp2_with fail
    refine (spec_l02Is _ x y r a len cap _ R.box (by omega)).mono ?_
    rintro e w1 ⟨n1, rfl, rfl⟩
    rw [HV.out]
    go_wp2_with fail
    refine (spec_l02Count _ x y r a len cap xs l _ (R.drewN _)).mono ?_
    rintro e w2 ⟨n2, rfl, rfl⟩
    generalize cntV (sumV xs) l len = c at *
    go_wp2
    go_ret2
    exact ⟨rfl, keep_drewN K _⟩
  | false =>
    have HV := Lib.hid hv
    clear hv
    go_enter Try.func34, Try.ntmps34
    go_wp2_with fail
    refine (spec_l02Is _ x y r a len cap _ R.box (by omega)).mono ?_
    rintro e w1 ⟨n1, rfl, rfl⟩
    rw [HV.out]
    go_wp2
    go_ret2
    exact ⟨rfl, keep_drewN K _⟩

theorem impl_CountAbove (x y : Int) (r : Bool) (a : Option Addr) (len cap : Nat) (xs : List Nat) (l : Nat) (w : World) (hs : Holds w a len (fvals .f32 xs)) (hl : len ≤ 1048576) :
    Calls Try.prog 35 #[.agg #[.int .i64 x, .int .i64 y, .bool r, .slice a len cap], .float .f32 l] w (CntOut (cntV (sumV xs) l len) (validB x y len) w) := by
  have K := keep_box w (.cells #[.int .i64 x, .int .i64 y, .bool r, .slice a len cap] 37)
  have R := FieldRd.mk' w x y r a len cap xs 37 hs hl
  cases hv : validB x y len with
  | true =>
    have HV := Lib.hid hv
    clear hv
    go_enter Try.func35, Try.ntmps35
    go_wp2_with fail
    refine (impl_ValidField x y r a len cap _ (by omega)).mono ?_
    rintro e W1 ⟨rfl, k1⟩
    rw [HV.out]
    replace R := R.keep k1
    replace K := keep_trans K k1
    clear k1 hs
    obtain ⟨⟨_, _, _, _, c3⟩, hs, _⟩ := R
    have H := Lib.hid hs.split
    clear hs
    go_wp2
    go_loopw [6, 15] (fun cv i wr => ∃ k : Nat, k ≤ len ∧ i = .int .i64 k ∧ cv = .int .i64 (cntV (sumV xs) l k) ∧ ∃ n, wr = W1.drewN n) (fun _ i _ => len - (intOf i).toNat)
    case atStart => exact ⟨0, Nat.zero_le _, rfl, rfl, 0, rfl⟩
    case round =>
      obtain ⟨k, hk, rfl, rfl, n, rfl⟩ := hrel
      obtain ⟨hb0, hb1⟩ := cntV_bd (sumV xs) l k
      by_cases hlt : k < len
      · rcases H.out with h0 | ⟨b', o, rfl, hb, hc⟩
        · omega
        have h1 : W1.cell? ⟨b', o + k, none⟩ = some (.float .f32 (sumV xs k)) := hc k hlt
        cases hg : geB (sumV xs k) l with
        | true =>
          have hg2 := ge_parts hg
          have HN : Hid (cntV (sumV xs) l (k + 1) = cntV (sumV xs) l k + 1) := Lib.hid (by simp [cntV, hg])
          clear H hc hg
          generalize cntV (sumV xs) l k = c at *
          go_wp2
          go_roundw
          case rel => exact ⟨k + 1, by omega, by go_num, by rw [HN.out], _, rfl⟩
          case measure => simp [intOf]; omega
        | false =>
          have hg2 := ge_parts hg
          have HN : Hid (cntV (sumV xs) l (k + 1) = cntV (sumV xs) l k) := Lib.hid (by simp [cntV, hg])
          clear H hc hg
          generalize cntV (sumV xs) l k = c at *
          go_wp2
          go_roundw
          case rel => exact ⟨k + 1, by omega, by go_num, by rw [HN.out], _, rfl⟩
          case measure => simp [intOf]; omega
      · have hk2 : k = len := by omega
        subst hk2
        clear H hb0 hb1
        go_wp2
        go_ret2
        exact ⟨rfl, keep_drewN K _⟩
  | false =>
    have HV := Lib.hid hv
    clear hv
    go_enter Try.func35, Try.ntmps35
    go_wp2_with fail
    refine (impl_ValidField x y r a len cap _ (by omega)).mono ?_
    rintro e w1 ⟨rfl, k1⟩
    rw [HV.out]
    go_wp2
    go_ret2
    exact ⟨rfl, keep_trans K k1⟩

end Go.Proofs.Ytbcocjakpnhmaaa
