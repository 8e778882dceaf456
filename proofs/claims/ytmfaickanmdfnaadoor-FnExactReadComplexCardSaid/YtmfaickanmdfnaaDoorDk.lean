/- What the reference writes for a whole number is its decimal numeral. Under no condition. -/
import Derived.Test.YtmfaickanmdfnaaDoorPr
import Derived.Lib.ItoaNum
import Derived.Lib.LazyBuf
namespace Go.Proofs.YtmfaickanmdfnaaDoor
open Go Go.RowKit Go.Proofs.YtmfaickanmdfnaaDoorW.PrintWords
set_option linter.unusedVariables false
set_option linter.unusedSimpArgs false

/-- The digits of a number, as whole numbers. -/
def decI (m : Nat) : List Int := (Lib.decDigits m).map fun b => (b.toNat : Int)
theorem digit_nat (d : Nat) (h : d < 10) : ((UInt8.ofNat (48 + d)).toNat : Int) = 48 + d := by
  have e : (48 + d) % 256 = 48 + d := Nat.mod_eq_of_lt (by omega)
  simp [UInt8.toNat_ofNat, e]
theorem decI_small (m : Nat) (h : m < 10) : decI m = [48 + (m : Int)] := by
  unfold decI; rw [Lib.decDigits, dif_pos h]; simp only [List.map_cons, List.map_nil]; rw [digit_nat m h]
theorem decI_step (m : Nat) (h : ¬ m < 10) : decI m = decI (m / 10) ++ [48 + ((m % 10 : Nat) : Int)] := by
  unfold decI; rw [Lib.decDigits, dif_neg h]; simp only [List.map_append, List.map_cons, List.map_nil]; rw [digit_nat (m % 10) (Nat.mod_lt _ (by decide))]

/-- A sign ahead. -/
def sgnI (x : Int) (L : List Int) : List Int := if x < 0 then [45] ++ L else L

theorem j1_end (k : Nat) (x0 x4 : Int) (x3 : List Int) (hl : x3.length ≤ 1000) : Pr.spec_l01Dec.j1 (k + 1) x0 x3 x4 false = some (strOfNums (sgnI x0 x3)) := by
  rw [Pr.spec_l01Dec.j1, if_neg (by decide)]
  unfold sgnI
  by_cases h : x0 < 0
  · rw [if_pos h, if_pos h, Option.bind_some, if_pos (by simp; omega)]
  · rw [if_neg h, if_neg h]
theorem wrap_small (x : Int) (h1 : -9223372036854775808 ≤ x) (h2 : x ≤ 9223372036854775807) : wrap64 x = x := by
  unfold wrap64; rw [Int.emod_eq_of_lt (by omega) (by omega)]; omega
theorem digit_byte (m : Nat) (h : m < 10) : wrap64 (48 + (m : Int)) % 256 = 48 + (m : Int) := by
  rw [wrap_small _ (by omega) (by omega), Int.emod_eq_of_lt (by omega) (by omega)]
theorem digit_byte2 (m : Nat) (h : m < 10) : wrap64 (48 + wrap64 (-(-(m : Int)))) % 256 = 48 + (m : Int) := by
  rw [Int.neg_neg, wrap_small (m : Int) (by omega) (by omega), digit_byte m h]
theorem j1_digit (k : Nat) (x0 x4 : Int) (x3 : List Int) (hl : x3.length ≤ 1000) (h1 : -9223372036854775808 ≤ x4) (h2 : x4 ≤ 9223372036854775807) :
    Pr.spec_l01Dec.j1 (k + 1) x0 x3 x4 true = Pr.spec_l01Dec.l0 k x0 ((48 + ((x4.natAbs % 10 : Nat) : Int)) :: x3) (x4.tdiv 10) := by
  have hd : (x4.tdiv 10).natAbs = x4.natAbs / 10 := by rw [Int.natAbs_tdiv]; rfl
  have hw : wrap64 (x4.tdiv 10) = x4.tdiv 10 := wrap_small _ (by omega) (by omega)
  have hm := Nat.mod_lt x4.natAbs (show 0 < 10 by decide)
  have ht : (x4.tmod 10).natAbs = x4.natAbs % 10 := by rw [Int.natAbs_tmod]; rfl
  rw [Pr.spec_l01Dec.j1, if_pos rfl]
  by_cases h : x4.tmod 10 < 0
  · have e : wrap64 (48 + wrap64 (-(x4.tmod 10))) % 256 = 48 + ((x4.natAbs % 10 : Nat) : Int) := by
      have : x4.tmod 10 = -((x4.natAbs % 10 : Nat) : Int) := by omega
      rw [this]; exact digit_byte2 _ hm
    rw [if_pos h, Option.bind_some, if_pos (by simp; omega), e, hw, List.cons_append, List.nil_append]
  · have e : wrap64 (48 + (x4.tmod 10)) % 256 = 48 + ((x4.natAbs % 10 : Nat) : Int) := by
      have : x4.tmod 10 = ((x4.natAbs % 10 : Nat) : Int) := by omega
      rw [this]; exact digit_byte _ hm
    rw [if_neg h, Option.bind_some, if_pos (by simp; omega), e, hw, List.cons_append, List.nil_append]
theorem l0_end (k : Nat) (x0 : Int) (x3 : List Int) (hl : x3.length ≤ 1000) (h3 : x3 ≠ []) : Pr.spec_l01Dec.l0 (k + 2) x0 x3 0 = some (strOfNums (sgnI x0 x3)) := by
  rw [Pr.spec_l01Dec.l0, if_neg (by intro h; exact h3 (List.eq_nil_of_length_eq_zero (by omega))), show ((0 : Int) != 0) = false from by decide]
  exact j1_end k x0 0 x3 hl
theorem l0_digit (k : Nat) (x0 x4 : Int) (x3 : List Int) (hl : x3.length ≤ 1000) (h1 : -9223372036854775808 ≤ x4) (h2 : x4 ≤ 9223372036854775807) (h : x3 = [] ∨ x4 ≠ 0) :
    Pr.spec_l01Dec.l0 (k + 2) x0 x3 x4 = Pr.spec_l01Dec.l0 k x0 ((48 + ((x4.natAbs % 10 : Nat) : Int)) :: x3) (x4.tdiv 10) := by
  rw [Pr.spec_l01Dec.l0]
  by_cases h0 : (x3.length : Int) = 0
  · rw [if_pos h0, j1_digit k x0 x4 x3 hl h1 h2]
  · have hx : x4 ≠ 0 := by
      rcases h with h | h
      · subst h; simp at h0
      · exact h
    rw [if_neg h0, bne_iff_ne.mpr hx, j1_digit k x0 x4 x3 hl h1 h2]
theorem l0_run (x0 : Int) : ∀ (d : Nat) (x4 : Int) (x3 : List Int), x4.natAbs < 10 ^ d → -9223372036854775808 ≤ x4 → x4 ≤ 9223372036854775807 → x3.length + d ≤ 1000 → (x3 ≠ [] ∨ x4 ≠ 0) →
    ∃ k, Pr.spec_l01Dec.l0 k x0 x3 x4 = some (strOfNums (sgnI x0 ((if x4 = 0 then [] else decI x4.natAbs) ++ x3)))
  | d, x4, x3, hd, h1, h2, hl, h => by
    by_cases h0 : x4 = 0
    · subst h0
      rcases h with h | h
      · exact ⟨2, by rw [l0_end 0 x0 x3 (by omega) h]; rfl⟩
      · exact absurd rfl h
    · match d with
      | 0 => simp at hd; omega
      | d + 1 =>
        have hq : (x4.tdiv 10).natAbs = x4.natAbs / 10 := by rw [Int.natAbs_tdiv]; rfl
        obtain ⟨k, hk⟩ := l0_run x0 d (x4.tdiv 10) ((48 + ((x4.natAbs % 10 : Nat) : Int)) :: x3) (by rw [hq]; rw [Nat.pow_succ] at hd; omega) (by omega) (by omega) (by simp; omega) (Or.inl (by simp))
        refine ⟨k + 2, ?_⟩
        rw [l0_digit k x0 x4 x3 (by omega) h1 h2 (Or.inr h0), hk, if_neg h0]
        congr 3
        by_cases h9 : x4.natAbs < 10
        · rw [if_pos (by omega), decI_small _ h9, Nat.mod_eq_of_lt h9]; rfl
        · rw [if_neg (by omega), decI_step _ h9, hq, List.append_assoc]; rfl

theorem strOf_dec (m : Nat) : strOfNums (decI m) = ⟨(Lib.decDigits m).toArray⟩ := Lib.Lz.strOfNums_map _
theorem strOf_neg (m : Nat) : strOfNums ([45] ++ decI m) = ⟨(45 :: Lib.decDigits m).toArray⟩ := Lib.Lz.strOfNums_map (45 :: Lib.decDigits m)

/-- A whole number's numeral, as a text. -/
def decT (n : Int) : ByteArray := ⟨(Lib.itoa n).toArray⟩
theorem dec_told (n : Int) (h1 : -9223372036854775808 ≤ n) (h2 : n ≤ 9223372036854775807) : ∃ k, Pr.spec_l01Dec.f k n = some (decT n) := by
  unfold Pr.spec_l01Dec.f decT Lib.itoa
  by_cases h0 : n = 0
  · subst h0
    refine ⟨4, ?_⟩
    rw [l0_digit 2 0 0 [] (by simp) (by decide) (by decide) (Or.inl rfl)]
    rw [show (Int.tdiv 0 10) = 0 from by decide, l0_end 0 0 _ (by simp) (by simp)]
    rw [if_neg (by decide), show (Int.toNat 0) = 0 from rfl, ← strOf_dec 0, decI_small 0 (by decide)]
    rfl
  · obtain ⟨k, hk⟩ := l0_run n 19 n [] (by omega) h1 h2 (by simp) (Or.inr h0)
    refine ⟨k, ?_⟩
    rw [hk, if_neg h0, List.append_nil]
    unfold sgnI
    by_cases hn : n < 0
    · rw [if_pos hn, if_pos hn, strOf_neg]
    · rw [if_neg hn, if_neg hn, strOf_dec, show n.natAbs = n.toNat by omega]
theorem dec_mono (n : Int) (k j : Nat) (r : ByteArray) (h : Pr.spec_l01Dec.f k n = some r) : Pr.spec_l01Dec.f (k + j) n = some r := by
  induction j with
  | zero => exact h
  | succ j ih => exact Pr.spec_l01Dec.mono n (k + j) r ih
theorem spec_dec (n : Int) (h1 : -9223372036854775808 ≤ n) (h2 : n ≤ 9223372036854775807) (w : World) :
    Calls Tryd.prog 35 #[.int .i64 n] w fun e w' => e = .returned (.string (decT n)) ∧ Below w.heap.size w w' := by
  obtain ⟨k, hk⟩ := dec_told n h1 h2
  exact Pr.spec_l01Dec.calls k n _ w hk
theorem spec_Decimal (n : Int) (h1 : -9223372036854775808 ≤ n) (h2 : n ≤ 9223372036854775807) (w : World) :
    Calls Tryd.prog 10 #[.int .i64 n] w fun e w' => e = .returned (.string (decT n)) ∧ Below w.heap.size w w' := by
  obtain ⟨k, hk⟩ := dec_told n h1 h2
  exact Pr.spec_Decimal.calls k n _ w (by unfold Pr.spec_Decimal.f; rw [hk]; rfl)
end Go.Proofs.YtmfaickanmdfnaaDoor
