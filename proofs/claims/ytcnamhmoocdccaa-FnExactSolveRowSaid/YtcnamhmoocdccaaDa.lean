/- Discs: gaps, and the reference's DiscField. Under no condition. -/
import Derived.Test.YtcnamhmoocdccaaMs
import Derived.Test.YtcnamhmoocdccaaCd
namespace Go.Proofs.Ytcnamhmoocdccaa
open Go Go.RowKit
set_option linter.unusedVariables false
set_option linter.unusedSimpArgs false

theorem afv_ex (op : BinOp) (hop : isArith op = true) (t : TypeId) (k : FloatKind) (x y : Nat) (w : World) :
    ∃ v n, (binOp op t (.float k x) (.float k y)).run Try.prog w = .ok (.float k v) (w.drewN n) ∧ Same k v (fbin op k x y) :=
  ⟨_, _, run_afv Try.prog op hop t k x y w, ⟨cn_afv op hop k x y w⟩⟩

def halfV (s : Nat) : Nat := fdiv .f32 (floatOfInt .f32 s) 1073741824
theorem half_num : ∀ s, s ≤ 16 → isN .f32 (halfV s) = false := by
  have h : ∀ s : Nat, s < 17 → isN .f32 (halfV s) = false := by decide +kernel
  exact fun s hs => h s (by omega)
def gapV (d s : Nat) (r : Bool) : Nat :=
  if r && (FloatKind.f32.format.order d (halfV s) == some .gt) then fsub .f32 d (floatOfInt .f32 s)
  else if r && (FloatKind.f32.format.order d (Op.negFloat .f32 (halfV s)) == some .lt) then fadd .f32 d (floatOfInt .f32 s) else d
theorem Same.gap {d d' : Nat} (h : Same .f32 d d') (s : Nat) (r : Bool) : Same .f32 (gapV d s r) (gapV d' s r) := by
  unfold gapV
  rw [h.order (Same.refl _ (halfV s)), h.order (Same.refl _ (Op.negFloat .f32 (halfV s))), h.sub (Same.refl _ _), h.add (Same.refl _ _)]
  split
  · exact Same.refl _ _
  · split
    · exact Same.refl _ _
    · exact h
theorem unary_neg_float (k : FloatKind) (b : Nat) : Op.unary .neg (.float k b) = pure (.float k (Op.negFloat k b)) := rfl
theorem Same.of_eq {k : FloatKind} {a b : Nat} (h : a = b) : Same k a b := h ▸ Same.refl _ _

set_option maxHeartbeats 1000000 in
theorem spec_l02Gap (a b : Nat) (s : Nat) (r : Bool) (w : World) (hs : s ≤ 16) :
    Calls Try.prog 62 #[.float .f32 a, .float .f32 b, .int .i64 s, .bool r] w fun e w' => ∃ v n, e = .returned (.float .f32 v) ∧ Same .f32 v (gapV (fsub .f32 a b) s r) ∧ w' = w.drewN n := by
  have hun := unary_neg_float .f32
  obtain ⟨d, n1, hD, DD⟩ := afv_ex .sub rfl 27 .f32 a b w
  obtain ⟨wA, hwA⟩ : ∃ wA, wA = w.drewN n1 := ⟨_, rfl⟩
  rw [← hwA] at hD
  have EA := Lib.hid hwA
  clear hwA
  obtain ⟨h, n2, hQ, HQ⟩ := afv_ex .quo rfl 27 .f32 (floatOfInt .f32 s) 1073741824 wA
  have hq : h = halfV s := HQ.eq (half_num s hs)
  subst hq
  obtain ⟨wB, hwB⟩ : ∃ wB, wB = wA.drewN n2 := ⟨_, rfl⟩
  rw [← hwB] at hQ
  have EB := Lib.hid hwB
  clear hwB HQ hs
  cases r with
  | false =>
    have GV : Hid (Same .f32 d (gapV (fsub .f32 a b) s false)) := Lib.hid ((Same.of_eq (by simp [gapV])).trans (DD.gap s false))
    clear DD
    generalize halfV s = hf at *
    go_enter Try.func62, Try.ntmps62
    go_wp2
    go_ret
    exact ⟨_, n1 + n2, rfl, GV.out, (by first | (rw [EB.out, EA.out]; done) | (rw [EB.out, EA.out]; simp [Nat.add_assoc]; done))⟩
  | true =>
    cases hg : (FloatKind.f32.format.order d (halfV s) == some .gt) with
    | true =>
      obtain ⟨v, n3, hS, HS⟩ := afv_ex .sub rfl 27 .f32 d (floatOfInt .f32 s) wB
      have GV : Hid (Same .f32 v (gapV (fsub .f32 a b) s true)) := Lib.hid ((HS.trans (Same.of_eq (by simp [gapV, hg, fbin]))).trans (DD.gap s true))
      clear DD
      generalize halfV s = hf at *
      go_enter Try.func62, Try.ntmps62
      go_wp2
      go_ret
      exact ⟨_, n1 + n2 + n3, rfl, GV.out, (by first | (rw [EB.out, EA.out]; done) | (rw [EB.out, EA.out]; simp [Nat.add_assoc]; done))⟩
    | false =>
      cases hl : (FloatKind.f32.format.order d (Op.negFloat .f32 (halfV s)) == some .lt) with
      | true =>
        obtain ⟨v, n3, hS, HS⟩ := afv_ex .add rfl 27 .f32 d (floatOfInt .f32 s) wB
        have GV : Hid (Same .f32 v (gapV (fsub .f32 a b) s true)) := Lib.hid ((HS.trans (Same.of_eq (by simp [gapV, hg, hl, fbin]))).trans (DD.gap s true))
        clear DD
        generalize halfV s = hf at *
        go_enter Try.func62, Try.ntmps62
        go_wp2
        go_ret
        exact ⟨_, n1 + n2 + n3, rfl, GV.out, (by first | (rw [EB.out, EA.out]; done) | (rw [EB.out, EA.out]; simp [Nat.add_assoc]; done))⟩
      | false =>
        have GV : Hid (Same .f32 d (gapV (fsub .f32 a b) s true)) := Lib.hid ((Same.of_eq (by simp [gapV, hg, hl])).trans (DD.gap s true))
        clear DD
        generalize halfV s = hf at *
        go_enter Try.func62, Try.ntmps62
        go_wp2
        go_ret
        exact ⟨_, n1 + n2, rfl, GV.out, (by first | (rw [EB.out, EA.out]; done) | (rw [EB.out, EA.out]; simp [Nat.add_assoc]; done))⟩

set_option maxHeartbeats 1000000 in
theorem impl_difference (d : Nat) (s : Nat) (r : Bool) (w : World) (hs : s ≤ 16) :
    Calls Try.prog 66 #[.float .f32 d, .int .i64 s, .bool r] w fun e w' => ∃ v n, e = .returned (.float .f32 v) ∧ Same .f32 v (gapV d s r) ∧ w' = w.drewN n := by
  have hun := unary_neg_float .f32
  have DD : Same .f32 d d := Same.refl _ _
  obtain ⟨h, n2, hQ, HQ⟩ := afv_ex .quo rfl 27 .f32 (floatOfInt .f32 s) 1073741824 w
  have hq : h = halfV s := HQ.eq (half_num s hs)
  subst hq
  obtain ⟨wB, hwB⟩ : ∃ wB, wB = w.drewN n2 := ⟨_, rfl⟩
  rw [← hwB] at hQ
  have EB := Lib.hid hwB
  clear hwB HQ hs
  cases r with
  | false =>
    have GV : Hid (Same .f32 d (gapV d s false)) := Lib.hid ((Same.of_eq (by simp [gapV])).trans (DD.gap s false))
    clear DD
    generalize halfV s = hf at *
    go_enter Try.func66, Try.ntmps66
    go_wp2
    go_ret
    exact ⟨_, n2, rfl, GV.out, (by first | (rw [EB.out]; done) | (rw [EB.out]; simp [Nat.add_assoc]; done))⟩
  | true =>
    cases hg : (FloatKind.f32.format.order d (halfV s) == some .gt) with
    | true =>
      obtain ⟨v, n3, hS, HS⟩ := afv_ex .sub rfl 27 .f32 d (floatOfInt .f32 s) wB
      have GV : Hid (Same .f32 v (gapV d s true)) := Lib.hid ((HS.trans (Same.of_eq (by simp [gapV, hg, fbin]))).trans (DD.gap s true))
      clear DD
      generalize halfV s = hf at *
      go_enter Try.func66, Try.ntmps66
      go_wp2
      go_ret
      exact ⟨_, n2 + n3, rfl, GV.out, (by first | (rw [EB.out]; done) | (rw [EB.out]; simp [Nat.add_assoc]; done))⟩
    | false =>
      cases hl : (FloatKind.f32.format.order d (Op.negFloat .f32 (halfV s)) == some .lt) with
      | true =>
        obtain ⟨v, n3, hS, HS⟩ := afv_ex .add rfl 27 .f32 d (floatOfInt .f32 s) wB
        have GV : Hid (Same .f32 v (gapV d s true)) := Lib.hid ((HS.trans (Same.of_eq (by simp [gapV, hg, hl, fbin]))).trans (DD.gap s true))
        clear DD
        generalize halfV s = hf at *
        go_enter Try.func66, Try.ntmps66
        go_wp2
        go_ret
        exact ⟨_, n2 + n3, rfl, GV.out, (by first | (rw [EB.out]; done) | (rw [EB.out]; simp [Nat.add_assoc]; done))⟩
      | false =>
        have GV : Hid (Same .f32 d (gapV d s true)) := Lib.hid ((Same.of_eq (by simp [gapV, hg, hl])).trans (DD.gap s true))
        clear DD
        generalize halfV s = hf at *
        go_enter Try.func66, Try.ntmps66
        go_wp2
        go_ret
        exact ⟨_, n2, rfl, GV.out, (by first | (rw [EB.out]; done) | (rw [EB.out]; simp [Nat.add_assoc]; done))⟩

def finL (xs : List Nat) : Nat → Bool
  | 0 => true
  | k + 1 => finL xs k && finB .f32 (xs.getD k 0)
theorem finL_false {xs : List Nat} {k len : Nat} (hk : k < len) (h : finB .f32 (xs.getD k 0) = false) : finL xs len = false := by
  induction len with
  | zero => omega
  | succ n ih =>
    unfold finL
    by_cases e : k = n
    · subst e; rw [h, Bool.and_false]
    · rw [ih (by omega), Bool.false_and]
theorem areFinite_fn (x : Nat) (w : World) :
    Calls Try.prog 79 #[.float .f32 x] w fun e w' => ∃ n, e = .returned (.bool (!finB .f32 x)) ∧ w' = w.drewN n := by
  go_enter Try.func79, Try.ntmps79
  go_wp2_with (first | (go_at_call 47; refine (impl_IsFinite _ _).mono ?_; rintro e w' ⟨n, rfl, rfl⟩))
  go_ret
  exact ⟨_, rfl, rfl⟩

theorem indexFunc_finite (a : Option Addr) (len cap : Nat) (xs : List Nat) (w : World) (hs : Holds w a len (fvals .f32 xs)) (hl : len ≤ 9223372036854775807) :
    Calls Try.prog 100 #[.slice a len cap, .func (.func 79) #[] #[]] w fun e w' => (∃ k : Int, e = .returned (.int .i64 k) ∧ decide (0 ≤ k) = !finL xs len) ∧ ∃ n, w' = w.drewN n := by
  have H := Lib.hid hs.split
  clear hs
  go_enter Try.func100, Try.ntmps100
  go_wp2
  go_loopw [8] (fun i wr => ∃ k : Nat, k ≤ len ∧ i = .int .i64 k ∧ Hid (finL xs k = true) ∧ ∃ n, wr = w.drewN n) (fun i _ => len - (intOf i).toNat)
  case atStart => exact ⟨0, Nat.zero_le _, rfl, Lib.hid rfl, 0, rfl⟩
  case round =>
    obtain ⟨k, hk, rfl, hall, n, rfl⟩ := hrel
    by_cases hlt : k < len
    · rcases H.out with h0 | ⟨b, o, rfl, hb, hc⟩
      · omega
      have h1 : w.cell? ⟨b, o + k, none⟩ = some (.float .f32 (xs.getD k 0)) := hc k hlt
      clear H hc
      cases hin : finB .f32 (xs.getD k 0) with
      | true =>
        have HN : Hid (finL xs (k + 1) = true) := Lib.hid (by unfold finL; rw [hall.out, hin]; rfl)
        have HI := Lib.hid hin
        clear hin
        generalize xs.getD k 0 = el at h1 HI
        go_wp2_with (first | (go_at_call 79; refine (areFinite_fn _ _).mono ?_; rintro e w' ⟨n2, rfl, rfl⟩; rw [HI.out]))
        go_roundw
        case rel => exact ⟨k + 1, by omega, by go_num, HN, _, rfl⟩
        case measure => simp [intOf]; omega
      | false =>
        have HN := Lib.hid (finL_false hlt hin)
        have HI := Lib.hid hin
        clear hin
        generalize xs.getD k 0 = el at h1 HI
        go_wp2_with (first | (go_at_call 79; refine (areFinite_fn _ _).mono ?_; rintro e w' ⟨n2, rfl, rfl⟩; rw [HI.out]))
        go_ret
        exact ⟨⟨_, rfl, by rw [HN.out]; simp⟩, _, rfl⟩
    · have hk2 : k = len := by omega
      subst hk2
      go_wp2
      go_ret
      exact ⟨⟨_, rfl, by rw [hall.out]; rfl⟩, _, rfl⟩

theorem impl_areFinite (a : Option Addr) (len cap : Nat) (xs : List Nat) (w : World) (hs : Holds w a len (fvals .f32 xs)) (hl : len ≤ 9223372036854775807) :
    Calls Try.prog 45 #[.slice a len cap] w fun e w' => ∃ n, e = .returned (.bool (finL xs len)) ∧ w' = w.drewN n := by
  have hc : ∀ w : World, Holds w a len (fvals .f32 xs) → Calls Try.prog 78 #[.slice a len cap, .func (.func 79) #[] #[]] w fun e w' => ∃ n, e = .returned (.bool (!finL xs len)) ∧ w' = w.drewN n := by
    intro w hs
    go_enter Try.func78, Try.ntmps78
    go_wp2_with (first | (go_at_call 100; refine (indexFunc_finite _ _ _ xs _ hs hl).mono ?_; rintro e w' ⟨⟨k, rfl, hk⟩, n, rfl⟩; have HK := Lib.hid hk; clear hk))
    go_ret
    exact ⟨_, ret_bool HK.out, rfl⟩
  have HC := Lib.hid (hc w hs)
  clear hc hs
  go_enter Try.func45, Try.ntmps45
  go_wp2_with fail
  refine HC.out.mono ?_
  rintro e w' ⟨n, rfl, rfl⟩
  go_wp2
  go_ret
  exact ⟨_, ret_bool (by simp), rfl⟩

end Go.Proofs.Ytcnamhmoocdccaa
