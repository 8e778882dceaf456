/- Contracts on fields that are read: sums, counts, ranges. Under no condition. -/
import Derived.Test.YtbcocjakpnhmaaaFe
import Derived.Test.YtbcocjakpnhmaaaCt
namespace Go.Proofs.Ytbcocjakpnhmaaa
open Go Go.RowKit
set_option linter.unusedVariables false
set_option linter.unusedSimpArgs false

/-- A field in memory, with its list. -/
structure FieldRd (w : World) (b : Nat) (x y : Int) (r : Bool) (a : Option Addr) (len cap : Nat) (xs : List Nat) : Prop where
  box : FieldAt w b x y r (.slice a len cap)
  list : Holds w a len (fvals .f32 xs)
  small : len ≤ 1048576

theorem keep_box (w : World) (o : Obj) : Below w.heap.size w (w.alloc o) := (Below.refl w.heap.size w).alloc (Nat.le_refl _) o
theorem box_at (w : World) (x y : Int) (r : Bool) (s : Value) (t : TypeId) : FieldAt (w.alloc (.cells #[.int .i64 x, .int .i64 y, .bool r, s] t)) w.heap.size x y r s :=
  ⟨by simp, by go_simp, by go_simp, by go_simp, by go_simp⟩
theorem FieldRd.keep {w w' : World} {b : Nat} {x y : Int} {r : Bool} {a : Option Addr} {len cap : Nat} {xs : List Nat} (h : FieldRd w b x y r a len cap xs) (k : Below w.heap.size w w') : FieldRd w' b x y r a len cap xs :=
  ⟨h.box.keep k, h.list.keep k, h.small⟩
theorem FieldRd.drewN {w : World} {b : Nat} {x y : Int} {r : Bool} {a : Option Addr} {len cap : Nat} {xs : List Nat} (h : FieldRd w b x y r a len cap xs) (n : Nat) : FieldRd (w.drewN n) b x y r a len cap xs :=
  ⟨h.box.drewN n, h.list.drewN n, h.small⟩
theorem FieldRd.mk' (w : World) (x y : Int) (r : Bool) (a : Option Addr) (len cap : Nat) (xs : List Nat) (t : TypeId) (h : Holds w a len (fvals .f32 xs)) (hl : len ≤ 1048576) :
    FieldRd (w.alloc (.cells #[.int .i64 x, .int .i64 y, .bool r, .slice a len cap] t)) w.heap.size x y r a len cap xs :=
  ⟨box_at _ _ _ _ _ _, h.keep (keep_box _ _), hl⟩

theorem spec_l02Sum (b : Nat) (x y : Int) (r : Bool) (a : Option Addr) (len cap : Nat) (xs : List Nat) (w : World) (h : FieldRd w b x y r a len cap xs) :
    Calls Try.prog 65 #[.pointer (some ⟨b, 0, none⟩)] w fun e w' => ∃ s n, e = .returned (.float .f32 s) ∧ Same .f32 s (accF (sumV xs) len) ∧ w' = w.drewN n := by
  obtain ⟨⟨_, _, _, _, h3⟩, hs, hl⟩ := h
  have H := Lib.hid hs.split
  clear hs
  go_enter Try.func65, Try.ntmps65
  go_wp2
  go_loopw [3, 4] (fun sv i wr => ∃ k : Nat, k ≤ len ∧ i = .int .i64 k ∧ ∃ s n, sv = .float .f32 s ∧ Same .f32 s (accF (sumV xs) k) ∧ wr = w.drewN n) (fun _ i _ => len - (intOf i).toNat)
  case atStart => exact ⟨0, Nat.zero_le _, rfl, 0, 0, rfl, Same.refl _ _, rfl⟩
  case round =>
    obtain ⟨k, hk, rfl, s, n, rfl, hs, rfl⟩ := hrel
    have HS := Lib.hid hs
    clear hs
    by_cases hlt : k < len
    · rcases H.out with h0 | ⟨b', o, rfl, hb, hc⟩
      · omega
      have h1 : w.cell? ⟨b', o + k, none⟩ = some (.float .f32 (sumV xs k)) := hc k hlt
      clear H hc
      go_wp2_with (first | (refine wpList_farith rfl _ _ _ _ _ rfl rfl _ _ _ rfl rfl ?_; rintro r n ⟨hr⟩ hl; simp only [fbin] at hr) | (refine wpList_fwid rfl _ _ _ rfl _ rfl (by rw [Try.underlying41]; rfl) Try.underlying49 ?_; rintro r n ⟨hr⟩ hl))
      go_roundw
      case rel => exact ⟨k + 1, by omega, by go_num, _, _, rfl, acc_step HS.out hr, rfl⟩
      case measure => simp [intOf]; omega
    · have hk2 : k = len := by omega
      subst hk2
      go_wp2
      go_ret
      exact ⟨_, _, rfl, HS.out, rfl⟩

theorem impl_sum (x y : Int) (r : Bool) (a : Option Addr) (len cap : Nat) (xs : List Nat) (w : World) (hs : Holds w a len (fvals .f32 xs)) (hl : len ≤ 1048576) :
    Calls Try.prog 66 #[.agg #[.int .i64 x, .int .i64 y, .bool r, .slice a len cap]] w fun e w' => ∃ s, e = .returned (.float .f32 s) ∧ Same .f32 s (accF (sumV xs) len) ∧ Below w.heap.size w w' := by
  have K := keep_box w (.cells #[.int .i64 x, .int .i64 y, .bool r, .slice a len cap] 37)
  have H := Lib.hid (hs.keep K).split
  clear hs
  go_enter Try.func66, Try.ntmps66
  go_wp2
  go_loopw [3, 9] (fun sv i wr => ∃ k : Nat, k ≤ len ∧ i = .int .i64 k ∧ ∃ s n, sv = .float .f32 s ∧ Same .f32 s (accF (sumV xs) k) ∧ wr = (w.alloc (.cells #[.int .i64 x, .int .i64 y, .bool r, .slice a len cap] 37)).drewN n) (fun _ i _ => len - (intOf i).toNat)
  case atStart => exact ⟨0, Nat.zero_le _, rfl, 0, 0, rfl, Same.refl _ _, rfl⟩
  case round =>
    obtain ⟨k, hk, rfl, s, n, rfl, hs, rfl⟩ := hrel
    have HS := Lib.hid hs
    clear hs
    by_cases hlt : k < len
    · rcases H.out with h0 | ⟨b', o, rfl, hb, hc⟩
      · omega
      have h1 : (w.alloc (.cells #[.int .i64 x, .int .i64 y, .bool r, .slice (some ⟨b', o, none⟩) len cap] 37)).cell? ⟨b', o + k, none⟩ = some (.float .f32 (sumV xs k)) := hc k hlt
      clear H hc
      generalize (w.alloc (.cells #[.int .i64 x, .int .i64 y, .bool r, .slice (some ⟨b', o, none⟩) len cap] 37)) = W at *
      go_wp2_with (first | (refine wpList_farith rfl _ _ _ _ _ rfl rfl _ _ _ rfl rfl ?_; rintro r n ⟨hr⟩ hl; simp only [fbin] at hr) | (refine wpList_fwid rfl _ _ _ rfl _ rfl (by rw [Try.underlying41]; rfl) Try.underlying49 ?_; rintro r n ⟨hr⟩ hl))
      go_roundw
      case rel => exact ⟨k + 1, by omega, by go_num, _, _, rfl, acc_step HS.out hr, rfl⟩
      case measure => simp [intOf]; omega
    · have hk2 : k = len := by omega
      subst hk2
      go_wp2
      go_ret
      exact ⟨_, rfl, HS.out, keep_drewN K _⟩

/-- What SumOfField answers: a sum, if the field is valid. -/
def FSumOut (V : Nat → Nat) (ok : Bool) (len : Nat) (w : World) (e : Ending) (w' : World) : Prop :=
  ∃ s, e = .returned (.tuple #[.float .f32 s, .bool ok]) ∧ Same .f32 s (if ok then accF V len else 0) ∧ Below w.heap.size w w'

theorem spec_SumOfField (x y : Int) (r : Bool) (a : Option Addr) (len cap : Nat) (xs : List Nat) (w : World) (hs : Holds w a len (fvals .f32 xs)) (hl : len ≤ 1048576) :
    Calls Try.prog 31 #[.agg #[.int .i64 x, .int .i64 y, .bool r, .slice a len cap]] w (FSumOut (sumV xs) (validB x y len) len w) := by
  have K := keep_box w (.cells #[.int .i64 x, .int .i64 y, .bool r, .slice a len cap] 37)
  have R := FieldRd.mk' w x y r a len cap xs 37 hs hl
  cases hv : validB x y len with
  | true =>
    have HV := Lib.hid hv
    clear hv
    go_enter Try.func31, Try.ntmps31
    go_wp2_with fail
    refine (spec_l02Is _ x y r a len cap _ R.box (by omega)).mono ?_
    rintro e w1 ⟨n1, rfl, rfl⟩
    rw [HV.out]
    go_wp2_with fail
    refine (spec_l02Sum _ x y r a len cap xs _ (R.drewN _)).mono ?_
    rintro e w2 ⟨s, n2, rfl, h2, rfl⟩
    go_wp2
    go_ret2
    exact ⟨s, rfl, h2, keep_drewN K _⟩
  | false =>
    have HV := Lib.hid hv
    clear hv
    go_enter Try.func31, Try.ntmps31
    go_wp2_with fail
    refine (spec_l02Is _ x y r a len cap _ R.box (by omega)).mono ?_
    rintro e w1 ⟨n1, rfl, rfl⟩
    rw [HV.out]
    go_wp2
    go_ret2
    exact ⟨_, rfl, Same.refl _ _, keep_drewN K _⟩

theorem impl_SumOfField (x y : Int) (r : Bool) (a : Option Addr) (len cap : Nat) (xs : List Nat) (w : World) (hs : Holds w a len (fvals .f32 xs)) (hl : len ≤ 1048576) :
    Calls Try.prog 32 #[.agg #[.int .i64 x, .int .i64 y, .bool r, .slice a len cap]] w (FSumOut (sumV xs) (validB x y len) len w) := by
  have K := keep_box w (.cells #[.int .i64 x, .int .i64 y, .bool r, .slice a len cap] 37)
  have R := FieldRd.mk' w x y r a len cap xs 37 hs hl
  cases hv : validB x y len with
  | true =>
    have HV := Lib.hid hv
    clear hv
    go_enter Try.func32, Try.ntmps32
    go_wp2_with fail
    refine (impl_ValidField x y r a len cap _ (by omega)).mono ?_
    rintro e w1 ⟨rfl, k1⟩
    rw [HV.out]
    replace R := R.keep k1
    replace K := keep_trans K k1
    clear k1
    have R' := R
    obtain ⟨⟨_, c0, c1, c2, c3⟩, hs1, _⟩ := R'
    go_wp2_with fail
    refine (impl_sum x y r a len cap xs _ hs1 hl).mono ?_
    rintro e w2 ⟨s, rfl, h2, k2⟩
    go_wp2
    go_ret2
    exact ⟨s, rfl, h2, keep_trans K k2⟩
  | false =>
    have HV := Lib.hid hv
    clear hv
    go_enter Try.func32, Try.ntmps32
    go_wp2_with fail
    refine (impl_ValidField x y r a len cap _ (by omega)).mono ?_
    rintro e w1 ⟨rfl, k1⟩
    rw [HV.out]
    go_wp2
    go_ret2
    exact ⟨_, rfl, Same.refl _ _, keep_trans K k1⟩

end Go.Proofs.Ytbcocjakpnhmaaa
