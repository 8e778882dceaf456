/- Contracts on the range of a field. Under no condition. -/
import Derived.Test.YtbcocjakpnhmaaaFr
import Derived.OwnWalk
namespace Go.Proofs.Ytbcocjakpnhmaaa
open Go Go.RowKit
set_option linter.unusedVariables false
set_option linter.unusedSimpArgs false

def ltB (v l : Nat) : Bool := FloatKind.f32.format.order v l == some .lt
def gtB (v l : Nat) : Bool := FloatKind.f32.format.order v l == some .gt

/-- The least and the greatest number among the first k, without not-a-numbers. -/
def rngStep (st : Option (Nat × Nat)) (v : Nat) : Option (Nat × Nat) :=
  if isN .f32 v then st else
  match st with
  | none => some (v, v)
  | some (lo, hi) => some (if ltB v lo then v else lo, if gtB v hi then v else hi)
def rngV (V : Nat → Nat) : Nat → Option (Nat × Nat)
  | 0 => none
  | k + 1 => rngStep (rngV V k) (V k)
def loOf : Option (Nat × Nat) → Nat | none => 0 | some p => p.1
def hiOf : Option (Nat × Nat) → Nat | none => 0 | some p => p.2

def RngInv (st : Option (Nat × Nat)) : Prop := ∀ lo hi, st = some (lo, hi) → isN .f32 lo = false ∧ isN .f32 hi = false ∧ sval FloatKind.f32.format lo ≤ sval FloatKind.f32.format hi

theorem rng_inv (V : Nat → Nat) (k : Nat) : RngInv (rngV V k) := by
  induction k with
  | zero => intro lo hi h; cases h
  | succ n ih =>
    intro lo hi h
    unfold rngV rngStep at h
    cases hn : isN .f32 (V n) with
    | true => rw [hn] at h; simp at h; exact ih lo hi h
    | false =>
      rw [hn] at h
      simp only [Bool.false_eq_true, if_false] at h
      cases hs : rngV V n with
      | none => rw [hs] at h; simp at h; obtain ⟨rfl, rfl⟩ := h; exact ⟨hn, hn, Int.le_refl _⟩
      | some p =>
        obtain ⟨l, g⟩ := p
        rw [hs] at h
        obtain ⟨i1, i2, i3⟩ := ih l g hs
        simp only [Option.some.injEq, Prod.mk.injEq] at h
        obtain ⟨rfl, rfl⟩ := h
        have e1 : ltB (V n) l = decide (sval FloatKind.f32.format (V n) < sval FloatKind.f32.format l) := lss_num hn i1
        have e2 : gtB (V n) g = decide (sval FloatKind.f32.format g < sval FloatKind.f32.format (V n)) := gtr_num hn i2
        rw [e1, e2]
        refine ⟨?_, ?_, ?_⟩
        · split <;> assumption
        · split <;> assumption
        · by_cases c1 : sval FloatKind.f32.format (V n) < sval FloatKind.f32.format l <;> by_cases c2 : sval FloatKind.f32.format g < sval FloatKind.f32.format (V n) <;> simp [c1, c2] <;> omega

theorem rng_excl {v lo hi : Nat} (hn : isN .f32 v = false) (h1 : isN .f32 lo = false) (h2 : isN .f32 hi = false) (h3 : sval FloatKind.f32.format lo ≤ sval FloatKind.f32.format hi) (hl : ltB v lo = true) : gtB v hi = false := by
  have e1 : ltB v lo = decide (sval FloatKind.f32.format v < sval FloatKind.f32.format lo) := lss_num hn h1
  have e2 : gtB v hi = decide (sval FloatKind.f32.format hi < sval FloatKind.f32.format v) := gtr_num hn h2
  rw [e1, decide_eq_true_eq] at hl
  rw [e2, decide_eq_false_iff_not]
  omega
theorem lt_parts {x l : Nat} {v : Bool} (h : ltB x l = v) : (FloatKind.f32.format.order x l == some .lt) = v := h
theorem gt_parts {x l : Nat} {v : Bool} (h : gtB x l = v) : (FloatKind.f32.format.order x l == some .gt) = v := h
theorem nan_parts {x : Nat} {v : Bool} (h : isN .f32 x = v) : (FloatKind.f32.format.order x x != some .eq) = v := (order_self .f32 x).trans h

def rngR (st : Option (Nat × Nat)) (ok : Bool) : Option (Nat × Nat) := if ok then st else none
/-- What RangeOfField answers. -/
def RngOut (st : Option (Nat × Nat)) (ok : Bool) (w : World) (e : Ending) (w' : World) : Prop :=
  e = .returned (.tuple #[.float .f32 (loOf (rngR st ok)), .float .f32 (hiOf (rngR st ok)), .bool (rngR st ok).isSome]) ∧ Below w.heap.size w w'

theorem spec_RangeOfField (x y : Int) (r : Bool) (a : Option Addr) (len cap : Nat) (xs : List Nat) (w : World) (hs : Holds w a len (fvals .f32 xs)) (hl : len ≤ 1048576) :
    Calls Try.prog 36 #[.agg #[.int .i64 x, .int .i64 y, .bool r, .slice a len cap]] w (RngOut (rngV (sumV xs) len) (validB x y len) w) := by
  have K := keep_box w (.cells #[.int .i64 x, .int .i64 y, .bool r, .slice a len cap] 37)
  have R := FieldRd.mk' w x y r a len cap xs 37 hs hl
  cases hv : validB x y len with
  | true =>
    have HV := Lib.hid hv
    clear hv
    go_enter Try.func36, Try.ntmps36
    go_wp2_with fail
    refine (spec_l02Is _ x y r a len cap _ R.box (by omega)).mono ?_
    rintro e w1 ⟨n1, rfl, rfl⟩
    rw [HV.out]
    replace R := R.drewN n1
    replace K := keep_drewN K n1
    clear hs
    obtain ⟨W1, hW⟩ : ∃ W1, W1 = (w.alloc (.cells #[.int .i64 x, .int .i64 y, .bool r, .slice a len cap] 37)).drewN n1 := ⟨_, rfl⟩
    rw [← hW] at R K ⊢
    clear hW
    obtain ⟨⟨_, _, _, _, c3⟩, hs, _⟩ := R
    have H := Lib.hid hs.split
    clear hs
    go_wp2
    go_loopw [5, 6, 7, 8] (fun lv hv bv iv wr => ∃ k : Nat, k ≤ len ∧ iv = .int .i64 k ∧ lv = .float .f32 (loOf (rngV (sumV xs) k)) ∧ hv = .float .f32 (hiOf (rngV (sumV xs) k)) ∧ bv = .bool (rngV (sumV xs) k).isSome ∧ wr = W1) (fun _ _ _ iv _ => len - (intOf iv).toNat)
    case atStart => exact ⟨0, Nat.zero_le _, rfl, rfl, rfl, rfl, rfl⟩
    case round =>
      obtain ⟨k, hk, rfl, rfl, rfl, rfl, rfl⟩ := hrel
      by_cases hlt : k < len
      · rcases H.out with h0 | ⟨b', o, rfl, hb, hc⟩
        · omega
        have h1 : wr.cell? ⟨b', o + k, none⟩ = some (.float .f32 (sumV xs k)) := hc k hlt
        have hinv := rng_inv (sumV xs) k
        clear H hc
        cases hn : isN .f32 (sumV xs k) with
        | true =>
          have HN : Hid (rngV (sumV xs) (k + 1) = rngV (sumV xs) k) := Lib.hid (by show rngStep _ _ = _; unfold rngStep; rw [hn]; rfl)
          have p1 := nan_parts hn
          clear hinv hn
          generalize sumV xs k = v at *
          generalize rngV (sumV xs) k = st at *
          cases st with
          | none =>
            go_wp2
            go_roundw
            case rel => exact ⟨k + 1, by omega, by go_num, by rw [HN.out] <;> rfl, by rw [HN.out] <;> rfl, by rw [HN.out] <;> rfl, by first | rfl | trivial⟩
            case measure => simp [intOf]; omega
          | some p =>
            obtain ⟨lo, hi⟩ := p
            go_wp2
            go_roundw
            case rel => exact ⟨k + 1, by omega, by go_num, by rw [HN.out] <;> rfl, by rw [HN.out] <;> rfl, by rw [HN.out] <;> rfl, by first | rfl | trivial⟩
            case measure => simp [intOf]; omega
        | false =>
          have p1 := nan_parts hn
          cases hst : rngV (sumV xs) k with
          | none =>
            have HN : Hid (rngV (sumV xs) (k + 1) = some (sumV xs k, sumV xs k)) := Lib.hid (by show rngStep _ _ = _; unfold rngStep; rw [hn, hst]; rfl)
            clear hinv hn
            generalize sumV xs k = v at *
            clear hst
            go_wp2
            go_roundw
            case rel => exact ⟨k + 1, by omega, by go_num, by rw [HN.out] <;> rfl, by rw [HN.out] <;> rfl, by rw [HN.out] <;> rfl, by first | rfl | trivial⟩
            case measure => simp [intOf]; omega
          | some p =>
            obtain ⟨lo, hi⟩ := p
            obtain ⟨i1, i2, i3⟩ := hinv lo hi hst
            cases hlo : ltB (sumV xs k) lo with
            | true =>
              have hhi := rng_excl hn i1 i2 i3 hlo
              have HN : Hid (rngV (sumV xs) (k + 1) = some (sumV xs k, hi)) := Lib.hid (by show rngStep _ _ = _; unfold rngStep; rw [hn, hst]; simp [hlo, hhi])
              have p2 := lt_parts hlo
              have p3 := gt_parts hhi
              clear hinv hn i1 i2 i3 hlo hhi
              generalize sumV xs k = v at *
              clear hst
              replace p2 : (FloatKind.f32.format.order v (loOf (some (lo, hi))) == some .lt) = true := p2
              replace p3 : (FloatKind.f32.format.order v (hiOf (some (lo, hi))) == some .gt) = false := p3
              go_wp2
              go_roundw
              case rel => exact ⟨k + 1, by omega, by go_num, by rw [HN.out] <;> rfl, by rw [HN.out] <;> rfl, by rw [HN.out] <;> rfl, by first | rfl | trivial⟩
              case measure => simp [intOf]; omega
            | false =>
              cases hhi : gtB (sumV xs k) hi with
              | true =>
                have HN : Hid (rngV (sumV xs) (k + 1) = some (lo, sumV xs k)) := Lib.hid (by show rngStep _ _ = _; unfold rngStep; rw [hn, hst]; simp [hlo, hhi])
                have p2 := lt_parts hlo
                have p3 := gt_parts hhi
                clear hinv hn i1 i2 i3 hlo hhi
                generalize sumV xs k = v at *
                clear hst
                replace p2 : (FloatKind.f32.format.order v (loOf (some (lo, hi))) == some .lt) = false := p2
                replace p3 : (FloatKind.f32.format.order v (hiOf (some (lo, hi))) == some .gt) = true := p3
                go_wp2
                go_roundw
                case rel => exact ⟨k + 1, by omega, by go_num, by rw [HN.out] <;> rfl, by rw [HN.out] <;> rfl, by rw [HN.out] <;> rfl, by first | rfl | trivial⟩
                case measure => simp [intOf]; omega
              | false =>
                have HN : Hid (rngV (sumV xs) (k + 1) = some (lo, hi)) := Lib.hid (by show rngStep _ _ = _; unfold rngStep; rw [hn, hst]; simp [hlo, hhi])
                have p2 := lt_parts hlo
                have p3 := gt_parts hhi
                clear hinv hn i1 i2 i3 hlo hhi
                generalize sumV xs k = v at *
                clear hst
                replace p2 : (FloatKind.f32.format.order v (loOf (some (lo, hi))) == some .lt) = false := p2
                replace p3 : (FloatKind.f32.format.order v (hiOf (some (lo, hi))) == some .gt) = false := p3
                go_wp2
                go_roundw
                case rel => exact ⟨k + 1, by omega, by go_num, by rw [HN.out] <;> rfl, by rw [HN.out] <;> rfl, by rw [HN.out] <;> rfl, by first | rfl | trivial⟩
                case measure => simp [intOf]; omega
      · have hk2 : k = len := by omega
        subst hk2
        clear H
        have HK := Lib.hid K
        clear K
        obtain ⟨st, HST⟩ : ∃ st, Hid (st = rngV (sumV xs) k) := ⟨_, Lib.hid rfl⟩
        rw [← HST.out]
        cases st with
        | none =>
          go_wp2
          go_ret3
          refine ⟨?_, HK.out⟩
          rw [← HST.out]; rfl
        | some p =>
          obtain ⟨lo, hi⟩ := p
          go_wp2
          go_ret3
          refine ⟨?_, HK.out⟩
          rw [← HST.out]; rfl
  | false =>
    have HV := Lib.hid hv
    clear hv
    go_enter Try.func36, Try.ntmps36
    go_wp2_with fail
    refine (spec_l02Is _ x y r a len cap _ R.box (by omega)).mono ?_
    rintro e w1 ⟨n1, rfl, rfl⟩
    rw [HV.out]
    replace R := R.drewN n1
    replace K := keep_drewN K n1
    clear hs
    obtain ⟨W1, hW⟩ : ∃ W1, W1 = (w.alloc (.cells #[.int .i64 x, .int .i64 y, .bool r, .slice a len cap] 37)).drewN n1 := ⟨_, rfl⟩
    rw [← hW] at R K ⊢
    clear hW
    go_wp2
    go_ret3
    exact ⟨rfl, K⟩

theorem impl_RangeOfField (x y : Int) (r : Bool) (a : Option Addr) (len cap : Nat) (xs : List Nat) (w : World) (hs : Holds w a len (fvals .f32 xs)) (hl : len ≤ 1048576) :
    Calls Try.prog 37 #[.agg #[.int .i64 x, .int .i64 y, .bool r, .slice a len cap]] w (RngOut (rngV (sumV xs) len) (validB x y len) w) := by
  have K := keep_box w (.cells #[.int .i64 x, .int .i64 y, .bool r, .slice a len cap] 37)
  have R := FieldRd.mk' w x y r a len cap xs 37 hs hl
  cases hv : validB x y len with
  | true =>
    have HV := Lib.hid hv
    clear hv
    go_enter Try.func37, Try.ntmps37
    go_wp2_with fail
    refine (impl_ValidField x y r a len cap _ (by omega)).mono ?_
    rintro e W1 ⟨rfl, k1⟩
    rw [HV.out]
    replace R := R.keep k1
    replace K := keep_trans K k1
    clear k1
    clear hs
    obtain ⟨⟨_, _, _, _, c3⟩, hs, _⟩ := R
    have H := Lib.hid hs.split
    clear hs
    go_wp2
    go_loopw [5, 6, 7, 16] (fun lv hv bv iv wr => ∃ k : Nat, k ≤ len ∧ iv = .int .i64 k ∧ lv = .float .f32 (loOf (rngV (sumV xs) k)) ∧ hv = .float .f32 (hiOf (rngV (sumV xs) k)) ∧ bv = .bool (rngV (sumV xs) k).isSome ∧ wr = W1) (fun _ _ _ iv _ => len - (intOf iv).toNat)
    case atStart => exact ⟨0, Nat.zero_le _, rfl, rfl, rfl, rfl, rfl⟩
    case round =>
      obtain ⟨k, hk, rfl, rfl, rfl, rfl, rfl⟩ := hrel
      by_cases hlt : k < len
      · rcases H.out with h0 | ⟨b', o, rfl, hb, hc⟩
        · omega
        have h1 : wr.cell? ⟨b', o + k, none⟩ = some (.float .f32 (sumV xs k)) := hc k hlt
        have hinv := rng_inv (sumV xs) k
        clear H hc
        cases hn : isN .f32 (sumV xs k) with
        | true =>
          have HN : Hid (rngV (sumV xs) (k + 1) = rngV (sumV xs) k) := Lib.hid (by show rngStep _ _ = _; unfold rngStep; rw [hn]; rfl)
          have p1 := nan_parts hn
          clear hinv hn
          generalize sumV xs k = v at *
          generalize rngV (sumV xs) k = st at *
          cases st with
          | none =>
            go_wp2
            go_roundw
            case rel => exact ⟨k + 1, by omega, by go_num, by rw [HN.out] <;> rfl, by rw [HN.out] <;> rfl, by rw [HN.out] <;> rfl, by first | rfl | trivial⟩
            case measure => simp [intOf]; omega
          | some p =>
            obtain ⟨lo, hi⟩ := p
            go_wp2
            go_roundw
            case rel => exact ⟨k + 1, by omega, by go_num, by rw [HN.out] <;> rfl, by rw [HN.out] <;> rfl, by rw [HN.out] <;> rfl, by first | rfl | trivial⟩
            case measure => simp [intOf]; omega
        | false =>
          have p1 := nan_parts hn
          cases hst : rngV (sumV xs) k with
          | none =>
            have HN : Hid (rngV (sumV xs) (k + 1) = some (sumV xs k, sumV xs k)) := Lib.hid (by show rngStep _ _ = _; unfold rngStep; rw [hn, hst]; rfl)
            clear hinv hn
            generalize sumV xs k = v at *
            clear hst
            go_wp2
            go_roundw
            case rel => exact ⟨k + 1, by omega, by go_num, by rw [HN.out] <;> rfl, by rw [HN.out] <;> rfl, by rw [HN.out] <;> rfl, by first | rfl | trivial⟩
            case measure => simp [intOf]; omega
          | some p =>
            obtain ⟨lo, hi⟩ := p
            obtain ⟨i1, i2, i3⟩ := hinv lo hi hst
            cases hlo : ltB (sumV xs k) lo with
            | true =>
              have hhi := rng_excl hn i1 i2 i3 hlo
              have HN : Hid (rngV (sumV xs) (k + 1) = some (sumV xs k, hi)) := Lib.hid (by show rngStep _ _ = _; unfold rngStep; rw [hn, hst]; simp [hlo, hhi])
              have p2 := lt_parts hlo
              have p3 := gt_parts hhi
              clear hinv hn i1 i2 i3 hlo hhi
              generalize sumV xs k = v at *
              clear hst
              replace p2 : (FloatKind.f32.format.order v (loOf (some (lo, hi))) == some .lt) = true := p2
              replace p3 : (FloatKind.f32.format.order v (hiOf (some (lo, hi))) == some .gt) = false := p3
              go_wp2
              go_roundw
              case rel => exact ⟨k + 1, by omega, by go_num, by rw [HN.out] <;> rfl, by rw [HN.out] <;> rfl, by rw [HN.out] <;> rfl, by first | rfl | trivial⟩
              case measure => simp [intOf]; omega
            | false =>
              cases hhi : gtB (sumV xs k) hi with
              | true =>
                have HN : Hid (rngV (sumV xs) (k + 1) = some (lo, sumV xs k)) := Lib.hid (by show rngStep _ _ = _; unfold rngStep; rw [hn, hst]; simp [hlo, hhi])
                have p2 := lt_parts hlo
                have p3 := gt_parts hhi
                clear hinv hn i1 i2 i3 hlo hhi
                generalize sumV xs k = v at *
                clear hst
                replace p2 : (FloatKind.f32.format.order v (loOf (some (lo, hi))) == some .lt) = false := p2
                replace p3 : (FloatKind.f32.format.order v (hiOf (some (lo, hi))) == some .gt) = true := p3
                go_wp2
                go_roundw
                case rel => exact ⟨k + 1, by omega, by go_num, by rw [HN.out] <;> rfl, by rw [HN.out] <;> rfl, by rw [HN.out] <;> rfl, by first | rfl | trivial⟩
                case measure => simp [intOf]; omega
              | false =>
                have HN : Hid (rngV (sumV xs) (k + 1) = some (lo, hi)) := Lib.hid (by show rngStep _ _ = _; unfold rngStep; rw [hn, hst]; simp [hlo, hhi])
                have p2 := lt_parts hlo
                have p3 := gt_parts hhi
                clear hinv hn i1 i2 i3 hlo hhi
                generalize sumV xs k = v at *
                clear hst
                replace p2 : (FloatKind.f32.format.order v (loOf (some (lo, hi))) == some .lt) = false := p2
                replace p3 : (FloatKind.f32.format.order v (hiOf (some (lo, hi))) == some .gt) = false := p3
                go_wp2
                go_roundw
                case rel => exact ⟨k + 1, by omega, by go_num, by rw [HN.out] <;> rfl, by rw [HN.out] <;> rfl, by rw [HN.out] <;> rfl, by first | rfl | trivial⟩
                case measure => simp [intOf]; omega
      · have hk2 : k = len := by omega
        subst hk2
        clear H
        have HK := Lib.hid K
        clear K
        obtain ⟨st, HST⟩ : ∃ st, Hid (st = rngV (sumV xs) k) := ⟨_, Lib.hid rfl⟩
        rw [← HST.out]
        cases st with
        | none =>
          go_wp2
          go_ret3
          refine ⟨?_, HK.out⟩
          rw [← HST.out]; rfl
        | some p =>
          obtain ⟨lo, hi⟩ := p
          go_wp2
          go_ret3
          refine ⟨?_, HK.out⟩
          rw [← HST.out]; rfl
  | false =>
    have HV := Lib.hid hv
    clear hv
    go_enter Try.func37, Try.ntmps37
    go_wp2_with fail
    refine (impl_ValidField x y r a len cap _ (by omega)).mono ?_
    rintro e W1 ⟨rfl, k1⟩
    rw [HV.out]
    replace R := R.keep k1
    replace K := keep_trans K k1
    clear k1
    go_wp2
    go_ret3
    exact ⟨rfl, K⟩

end Go.Proofs.Ytbcocjakpnhmaaa
