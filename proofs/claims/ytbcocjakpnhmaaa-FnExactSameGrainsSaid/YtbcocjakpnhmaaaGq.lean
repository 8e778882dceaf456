/- Valid grains, and grains compared: the reference's and the program's. Under no condition. -/
import Derived.Test.YtbcocjakpnhmaaaGr
namespace Go.Proofs.Ytbcocjakpnhmaaa
open Go Go.RowKit
set_option linter.unusedVariables false
set_option linter.unusedSimpArgs false

theorem spec_l04Label (n : Int) (w : World) :
    Calls Try.prog 83 #[.int .i64 n] w fun e w' => e = .returned (.bool (inB n 0 63)) ∧ w = w' := by
  go_enter Try.func83, Try.ntmps83
  go_wp2_with (first | (go_at_call 74; refine (spec_l00In _ _ _ _).mono ?_; rintro e w' ⟨rfl, rfl⟩))
  go_ret
  exact ⟨rfl, rfl⟩

def labelsB (xs : List Int) (len : Nat) : Bool := allIn (fun i => xs.getD i 0) 0 63 len
def validG (x y : Int) (len : Nat) (xs : List Int) : Bool := validB x y len && labelsB xs len
theorem labels_snoc {xs : List Int} {k : Nat} (h : labelsB xs k = true) (e : inB (xs.getD k 0) 0 63 = true) : labelsB xs (k + 1) = true := by
  unfold labelsB at *
  simp only [allIn, Bool.and_eq_true]
  exact ⟨h, e⟩

set_option maxHeartbeats 1000000 in
theorem spec_l04Is (b : Nat) (x y : Int) (a : Option Addr) (len cap : Nat) (xs : List Int) (w : World) (h : GrainsAt w b x y (.slice a len cap)) (hs : Holds w a len (ivals .i64 xs)) (hl : len ≤ 9223372036854775807) :
    Calls Try.prog 53 #[.pointer (some ⟨b, 0, none⟩)] w fun e w' => ∃ n, e = .returned (.bool (validG x y len xs)) ∧ w' = w.drewN n := by
  obtain ⟨_, h1, h2, h4⟩ := h
  have HX := Lib.hid hs.split
  clear hs
  cases hs : sizeB x y with
  | true =>
    obtain ⟨⟨hx1, hx2⟩, hy1, hy2⟩ := size_bounds hs
    have hm1 : 0 ≤ x * y := Int.mul_nonneg (by omega) (by omega)
    have hm2 : x * y ≤ 16 * 16 := Int.mul_le_mul hx2 hy2 (by omega) (by omega)
    by_cases hxy : (len : Int) = x * y
    · have e : Hid (validG x y len xs = labelsB xs len) := Lib.hid (by simp [validG, validB, hs, hxy])
      have hbn : ((len : Int) != x * y) = false := by simp [hxy]
      have HS := Lib.hid hs
      clear hs hxy
      go_enter Try.func53, Try.ntmps53
      go_wp2_with fail
      go_quiet ((go_at_call 59; exact Calls.quiet_of_same (spec_l02Size_is HS.out _)))
      go_wp2
      go_loopw [3] (fun i wr => ∃ k : Nat, k ≤ len ∧ i = .int .i64 k ∧ Hid (labelsB xs k = true) ∧ ∃ n, wr = w.drewN n) (fun i _ => len - (intOf i).toNat)
      case atStart => exact ⟨0, Nat.zero_le _, rfl, Lib.hid rfl, _, rfl⟩
      case round =>
        obtain ⟨k, hk, rfl, hall, n, rfl⟩ := hrel
        by_cases hlt : k < len
        · rcases HX.out with h0 | ⟨bx, ox, rfl, hbx, hcx⟩
          · omega
          have h5 : w.cell? ⟨bx, ox + k, none⟩ = some (.int .i64 (xs.getD k 0)) := hcx k hlt
          clear HX hcx
          cases hin : inB (xs.getD k 0) 0 63 with
          | true =>
            have HN := Lib.hid (labels_snoc hall.out hin)
            have HI := Lib.hid hin
            clear hin
            generalize xs.getD k 0 = el at h5 HI
            go_wp2_with (first | (go_at_call 83; refine (spec_l04Label _ _).mono ?_; rintro e w' ⟨rfl, rfl⟩; rw [HI.out]))
            go_roundw
            case rel => exact ⟨k + 1, by omega, by go_num, HN, _, rfl⟩
            case measure => simp [intOf]; omega
          | false =>
            have HN := Lib.hid (allIn_false (z := fun i => xs.getD i 0) hlt hin)
            have HI := Lib.hid hin
            clear hin
            generalize xs.getD k 0 = el at h5 HI
            go_wp2_with (first | (go_at_call 83; refine (spec_l04Label _ _).mono ?_; rintro e w' ⟨rfl, rfl⟩; rw [HI.out]))
            go_ret
            exact ⟨_, ret_bool (e.out.trans HN.out).symm, rfl⟩
        · have hk2 : k = len := by omega
          subst hk2
          go_wp2
          go_ret
          exact ⟨_, ret_bool (e.out.trans hall.out).symm, rfl⟩
    · have e : Hid (validG x y len xs = false) := Lib.hid (by simp [validG, validB, hs, hxy])
      have hbn : ((len : Int) != x * y) = true := by simpa using hxy
      have HS := Lib.hid hs
      clear hs hxy
      go_enter Try.func53, Try.ntmps53
      go_wp2_with fail
      go_quiet ((go_at_call 59; exact Calls.quiet_of_same (spec_l02Size_is HS.out _)))
      go_wp2
      go_ret
      exact ⟨_, ret_bool e.out.symm, rfl⟩
  | false =>
    have e : Hid (validG x y len xs = false) := Lib.hid (by simp [validG, validB, hs])
    have HS := Lib.hid hs
    clear hs
    go_enter Try.func53, Try.ntmps53
    go_wp2_with fail
    go_quiet ((go_at_call 59; exact Calls.quiet_of_same (spec_l02Size_is HS.out _)))
    go_wp2
    go_ret
    exact ⟨_, ret_bool e.out.symm, rfl⟩

theorem spec_ValidGrains (x y : Int) (a : Option Addr) (len cap : Nat) (xs : List Int) (w : World) (hs : Holds w a len (ivals .i64 xs)) (hl : len ≤ 9223372036854775807) :
    Calls Try.prog 20 #[.agg #[.int .i64 x, .int .i64 y, .slice a len cap]] w fun e w' => e = .returned (.bool (validG x y len xs)) ∧ Below w.heap.size w w' := by
  have hs' := hs.keep (((Below.refl _ _).alloc (Nat.le_refl _) (.cells #[.int .i64 x, .int .i64 y, .slice a len cap] 27)))
  go_enter Try.func20, Try.ntmps20
  go_wp2_with fail
  refine (spec_l04Is _ x y a len cap xs _ ⟨by simp, by go_simp, by go_simp, by go_simp⟩ hs' hl).mono ?_
  rintro e w' ⟨n, rfl, rfl⟩
  go_wp2
  go_ret
  exact ⟨rfl, keep_drewN ((Below.refl _ _).alloc (Nat.le_refl _) _) _⟩

set_option maxHeartbeats 1000000 in
theorem impl_ValidGrains (x y : Int) (a : Option Addr) (len cap : Nat) (xs : List Int) (w : World) (hs : Holds w a len (ivals .i64 xs)) (hl : len ≤ 9223372036854775807) :
    Calls Try.prog 21 #[.agg #[.int .i64 x, .int .i64 y, .slice a len cap]] w fun e w' => e = .returned (.bool (validG x y len xs)) ∧ Below w.heap.size w w' := by
  have hall : Hid (allIn (fun i => [x, y].getD i 0) 1 16 2 = sizeB x y) := Lib.hid (by simp [allIn, sizeB])
  have HX := Lib.hid hs
  clear hs
  go_enter Try.func21, Try.ntmps21
  go_wp2_with fail
  refine (impl_areWithin 1 16 _ 2 2 (fun i => [x, y].getD i 0) _ ⟨.inr ⟨_, 0, rfl, by simp, ?_⟩⟩ (by omega)).mono ?_
  · intro i hi
    have : i = 0 ∨ i = 1 := by omega
    rcases this with rfl | rfl <;> go_simp
  rintro e w1 ⟨rfl, hb⟩
  rw [hall.out]
  have c0 : w1.cell? ⟨w.heap.size, 0, none⟩ = some (.int .i64 x) := (hb.cell (p := ⟨w.heap.size, 0, none⟩) (by simp; omega)).trans (by go_simp)
  have c1 : w1.cell? ⟨w.heap.size, 1, none⟩ = some (.int .i64 y) := (hb.cell (p := ⟨w.heap.size, 1, none⟩) (by simp; omega)).trans (by go_simp)
  have c3 : w1.cell? ⟨w.heap.size, 2, none⟩ = some (.slice a len cap) := (hb.cell (p := ⟨w.heap.size, 2, none⟩) (by simp; omega)).trans (by go_simp)
  have K : Below w.heap.size w w1 := keep_trans (((Below.refl _ _).alloc (Nat.le_refl _) _).alloc (by simp) _) hb
  have HK := Lib.hid K
  have HX1 := Lib.hid (HX.out.keep K)
  clear hall hb HX K
  cases hs : sizeB x y with
  | true =>
    obtain ⟨⟨hx1, hx2⟩, hy1, hy2⟩ := size_bounds hs
    have hm1 : 0 ≤ x * y := Int.mul_nonneg (by omega) (by omega)
    have hm2 : x * y ≤ 16 * 16 := Int.mul_le_mul hx2 hy2 (by omega) (by omega)
    by_cases hxy : (len : Int) = x * y
    · have e : Hid (validG x y len xs = labelsB xs len) := Lib.hid (by simp [validG, validB, hs, hxy])
      have hbn : ((len : Int) == x * y) = true := by simp [hxy]
      clear hs hxy
      go_wp2_with fail
      refine (impl_areWithin 0 63 a len cap (fun i => xs.getD i 0) _ HX1.out hl).mono ?_
      rintro e w2 ⟨rfl, hb⟩
      go_wp2
      go_ret
      exact ⟨ret_bool e.out.symm, keep_trans HK.out hb⟩
    · have e : Hid (validG x y len xs = false) := Lib.hid (by simp [validG, validB, hs, hxy])
      have hbn : ((len : Int) == x * y) = false := by simpa using hxy
      clear hs hxy
      go_wp2
      go_ret
      exact ⟨ret_bool e.out.symm, HK.out⟩
  | false =>
    have e : Hid (validG x y len xs = false) := Lib.hid (by simp [validG, validB, hs])
    clear hs
    go_wp2
    go_ret
    exact ⟨ret_bool e.out.symm, HK.out⟩

def sameG (x y : Int) (len : Nat) (xs : List Int) (x' y' : Int) (len' : Nat) (ys : List Int) : Bool := decide (x = x') && decide (y = y') && eqL len len' xs ys

theorem spec_SameGrains (x y : Int) (a : Option Addr) (len cap : Nat) (xs : List Int) (x' y' : Int) (a' : Option Addr) (len' cap' : Nat) (ys : List Int) (w : World) (hs : Holds w a len (ivals .i64 xs)) (hs' : Holds w a' len' (ivals .i64 ys)) (hl : len ≤ 9223372036854775807) (hl' : len' ≤ 9223372036854775807) :
    Calls Try.prog 16 #[.agg #[.int .i64 x, .int .i64 y, .slice a len cap], .agg #[.int .i64 x', .int .i64 y', .slice a' len' cap']] w fun e w' => e = .returned (.bool (sameG x y len xs x' y' len' ys)) ∧ Below w.heap.size w w' := by
  have K : Below w.heap.size w ((w.alloc (.cells #[.int .i64 x, .int .i64 y, .slice a len cap] 27)).alloc (.cells #[.int .i64 x', .int .i64 y', .slice a' len' cap'] 27)) := ((Below.refl _ _).alloc (Nat.le_refl _) _).alloc (by simp) _
  have H1 := Lib.hid (hs.keep K)
  have H2 := Lib.hid (hs'.keep K)
  have HK := Lib.hid K
  clear hs hs' K
  by_cases hx : x = x'
  · by_cases hy : y = y'
    · have E : Hid (sameG x y len xs x' y' len' ys = eqL len len' xs ys) := Lib.hid (by simp [sameG, hx, hy])
      have b1 : (x == x') = true := by simpa using hx
      have b2 : (y == y') = true := by simpa using hy
      clear hx hy
      go_enter Try.func16, Try.ntmps16
      go_wp2_with fail
      refine (spec_l00Same _ _ len len' _ _ xs ys _ H1.out H2.out hl hl').mono ?_
      rintro e w1 ⟨n, rfl, rfl⟩
      go_wp2
      go_ret
      exact ⟨ret_bool E.out.symm, keep_drewN HK.out _⟩
    · have E : Hid (sameG x y len xs x' y' len' ys = false) := Lib.hid (by simp [sameG, hy])
      have b1 : (x == x') = true := by simpa using hx
      have b2 : (y == y') = false := by simpa using hy
      clear hx hy
      go_enter Try.func16, Try.ntmps16
      go_wp2
      go_ret
      exact ⟨ret_bool E.out.symm, HK.out⟩
  · have E : Hid (sameG x y len xs x' y' len' ys = false) := Lib.hid (by simp [sameG, hx])
    have b1 : (x == x') = false := by simpa using hx
    clear hx
    go_enter Try.func16, Try.ntmps16
    go_wp2
    go_ret
    exact ⟨ret_bool E.out.symm, HK.out⟩

theorem impl_SameGrains (x y : Int) (a : Option Addr) (len cap : Nat) (xs : List Int) (x' y' : Int) (a' : Option Addr) (len' cap' : Nat) (ys : List Int) (w : World) (hs : Holds w a len (ivals .i64 xs)) (hs' : Holds w a' len' (ivals .i64 ys)) (hl : len ≤ 9223372036854775807) (hl' : len' ≤ 9223372036854775807) :
    Calls Try.prog 18 #[.agg #[.int .i64 x, .int .i64 y, .slice a len cap], .agg #[.int .i64 x', .int .i64 y', .slice a' len' cap']] w fun e w' => e = .returned (.bool (sameG x y len xs x' y' len' ys)) ∧ Below w.heap.size w w' := by
  have K : Below w.heap.size w ((w.alloc (.cells #[.int .i64 x, .int .i64 y, .slice a len cap] 27)).alloc (.cells #[.int .i64 x', .int .i64 y', .slice a' len' cap'] 27)) := ((Below.refl _ _).alloc (Nat.le_refl _) _).alloc (by simp) _
  have H1 := Lib.hid (hs.keep K)
  have H2 := Lib.hid (hs'.keep K)
  have HK := Lib.hid K
  clear hs hs' K
  by_cases hx : x = x'
  · by_cases hy : y = y'
    · have E : Hid (sameG x y len xs x' y' len' ys = eqL len len' xs ys) := Lib.hid (by simp [sameG, hx, hy])
      have b1 : (x == x') = true := by simpa using hx
      have b2 : (y == y') = true := by simpa using hy
      clear hx hy
      go_enter Try.func18, Try.ntmps18
      go_wp2_with fail
      refine (slices_Equal _ _ len len' _ _ xs ys _ H1.out H2.out hl hl').mono ?_
      rintro e w1 ⟨n, rfl, rfl⟩
      go_wp2
      go_ret
      exact ⟨ret_bool E.out.symm, keep_drewN HK.out _⟩
    · have E : Hid (sameG x y len xs x' y' len' ys = false) := Lib.hid (by simp [sameG, hy])
      have b1 : (x == x') = true := by simpa using hx
      have b2 : (y == y') = false := by simpa using hy
      clear hx hy
      go_enter Try.func18, Try.ntmps18
      go_wp2
      go_ret
      exact ⟨ret_bool E.out.symm, HK.out⟩
  · have E : Hid (sameG x y len xs x' y' len' ys = false) := Lib.hid (by simp [sameG, hx])
    have b1 : (x == x') = false := by simpa using hx
    clear hx
    go_enter Try.func18, Try.ntmps18
    go_wp2
    go_ret
    exact ⟨ret_bool E.out.symm, HK.out⟩

end Go.Proofs.Ytbcocjakpnhmaaa
