/- Numbers by their rungs: not-a-numbers, comparisons, and a 32-bit number as a 64-bit one. Under no condition. -/
import Derived.Test.YtcnamhmoocdccaaFl
import Derived.Test.YtcnamhmoocdccaaIeee
import Derived.Laws.BitsAllLaws
import Derived.RowKit
namespace Go.Proofs.Ytcnamhmoocdccaa
open Go
set_option linter.unusedVariables false
set_option linter.unusedSimpArgs false

theorem okF (k : FloatKind) : k.format.binade ≤ k.format.infRung := by cases k <;> decide

theorem isN_eq (k : FloatKind) (b : Nat) : isN k b = decide (k.format.infRung < rung k.format b) := by
  unfold isN
  by_cases h : k.format.infRung < rung k.format b
  · rw [read_nan' _ (okF k) b h]; simp [h, Ieee.Datum.isNaN]
  · by_cases h2 : rung k.format b = k.format.infRung
    · rw [read_inf _ (okF k) b h2]; simp [h, Ieee.Datum.isNaN]
    · obtain ⟨m, e, h3, _⟩ := read_fin k.format b (by omega)
      rw [h3]; simp [h, Ieee.Datum.isNaN]

theorem rung_le {k : FloatKind} {b : Nat} (h : isN k b = false) : rung k.format b ≤ k.format.infRung := by
  rw [isN_eq] at h; simpa using h

theorem order_nan_l {k : FloatKind} {x : Nat} (h : isN k x = true) (y : Nat) : k.format.order x y = none := by
  obtain ⟨s, t, hr⟩ := read_nan h
  unfold Ieee.Format.order; rw [hr]; exact order_nan_left _ _ _
theorem order_nan_r {k : FloatKind} {y : Nat} (h : isN k y = true) (x : Nat) : k.format.order x y = none := by
  obtain ⟨s, t, hr⟩ := read_nan h
  unfold Ieee.Format.order; rw [hr]; exact order_nan_right _ _ _

theorem order_num {k : FloatKind} {x y : Nat} (hx : isN k x = false) (hy : isN k y = false) : k.format.order x y = some (compare (sval k.format x) (sval k.format y)) :=
  order_sval _ (okF k) x y (rung_le hx) (rung_le hy)

theorem eql_num {k : FloatKind} {x y : Nat} (hx : isN k x = false) (hy : isN k y = false) : (k.format.order x y == some .eq) = decide (sval k.format x = sval k.format y) := by
  rw [order_num hx hy]
  by_cases h : sval k.format x < sval k.format y
  · have : ¬ sval k.format x = sval k.format y := by omega
    simp [compare, compareOfLessAndEq, h, this]
  · by_cases h2 : sval k.format x = sval k.format y
    · simp [compare, compareOfLessAndEq, h2]
    · simp [compare, compareOfLessAndEq, h, h2]
theorem lss_num {k : FloatKind} {x y : Nat} (hx : isN k x = false) (hy : isN k y = false) : (k.format.order x y == some .lt) = decide (sval k.format x < sval k.format y) := by
  rw [order_num hx hy]
  by_cases h : sval k.format x < sval k.format y
  · simp [compare, compareOfLessAndEq, h]
  · by_cases h2 : sval k.format x = sval k.format y
    · simp [compare, compareOfLessAndEq, h2]
    · simp [compare, compareOfLessAndEq, h, h2]
theorem gtr_num {k : FloatKind} {x y : Nat} (hx : isN k x = false) (hy : isN k y = false) : (k.format.order x y == some .gt) = decide (sval k.format y < sval k.format x) := by
  rw [order_num hx hy]
  by_cases h : sval k.format x < sval k.format y
  · have : ¬ sval k.format y < sval k.format x := by omega
    simp [compare, compareOfLessAndEq, h, this]
  · by_cases h2 : sval k.format x = sval k.format y
    · simp [compare, compareOfLessAndEq, h2]
    · have : sval k.format y < sval k.format x := by omega
      simp [compare, compareOfLessAndEq, h, h2, this]

/-- 'x != x' asks whether it is a not-a-number. -/
theorem order_self (k : FloatKind) (x : Nat) : (k.format.order x x != some .eq) = isN k x := by
  cases h : isN k x with
  | true => rw [order_nan_l h]; rfl
  | false => rw [bne, eql_num h h]; simp
theorem order_self' (k : FloatKind) (x : Nat) : (k.format.order x x == some .eq) = !isN k x := by
  have := order_self k x
  rw [bne] at this
  rw [← this]; simp

/-! ### A 32-bit number as a 64-bit one. -/
theorem widen_number (s : Bool) (m e : Nat) (hm : m < 2 ^ 24) (he : e ≤ 254) :
    ∃ c, c < Ieee.double.infRung ∧ Ieee.double.nearest s m (Ieee.single.leastPlace + e) = Ieee.double.word s c ∧ mag Ieee.double c = m * 2 ^ (e + 925) := by
  have l1 : Ieee.single.leastPlace = -149 := by decide
  have l2 : Ieee.double.leastPlace = -1074 := by decide
  have hB : Ieee.double.binade = 2 ^ 52 := rfl
  have hM : Ieee.double.infRung = 2047 * 2 ^ 52 := by decide
  by_cases h0 : m = 0
  · subst h0
    refine ⟨0, by decide, by simp [Ieee.Format.nearest], ?_⟩
    simp [mag, magB, hB]
  · have g1 : 2 ^ m.log2 ≤ m := Nat.log2_self_le h0
    have g2 : m < 2 ^ (m.log2 + 1) := Nat.lt_log2_self
    have g3 : m.log2 < 24 := (Nat.log2_lt h0).2 hm
    generalize m.log2 = l at *
    have k1 : 2 ^ 52 ≤ m * 2 ^ (52 - l) := by
      have := Nat.mul_le_mul_right (2 ^ (52 - l)) g1
      rwa [← Nat.pow_add, show l + (52 - l) = 52 by omega] at this
    have k2 : m * 2 ^ (52 - l) ≤ 2 * 2 ^ 52 := by
      have := Nat.mul_le_mul_right (2 ^ (52 - l)) (Nat.le_of_lt g2)
      rw [← Nat.pow_add, show l + 1 + (52 - l) = 53 by omega] at this
      exact this
    have k3 : m * 2 ^ (52 - l) * 2 ^ (e + 925 - (52 - l)) = m * 2 ^ (e + 925) := by
      rw [Nat.mul_assoc, ← Nat.pow_add, show 52 - l + (e + 925 - (52 - l)) = e + 925 by omega]
    have hc : (e + 925 - (52 - l)) * Ieee.double.binade + m * 2 ^ (52 - l) < Ieee.double.infRung := by
      rw [hB, hM]
      generalize m * 2 ^ (52 - l) = K at *
      omega
    have hmag : mag Ieee.double ((e + 925 - (52 - l)) * Ieee.double.binade + m * 2 ^ (52 - l)) = m * 2 ^ (e + 925) := by
      rw [← k3]
      exact magB_comb _ _ _ (binade_pos _) (by rw [hB]; exact k2) (.inr (by rw [hB]; exact k1))
    refine ⟨_, hc, nearest_exact _ s m _ _ (Nat.le_of_lt hc) ?_, hmag⟩
    rw [hmag, l1, l2, show (-149 + (e : Int) - -1074).toNat = e + 925 by omega, show (-1074 - (-149 + (e : Int))).toNat = 0 by omega, Nat.pow_zero, Nat.mul_one]

theorem widen_read (b : Nat) (h : rung Ieee.single b < Ieee.single.infRung) :
    ∃ c, c < Ieee.double.infRung ∧ Ieee.double.write (Ieee.single.read b) = Ieee.double.word (sgn Ieee.single b) c ∧ mag Ieee.double c = mag Ieee.single (rung Ieee.single b) * 2 ^ 925 := by
  obtain ⟨m, e, h1, h2, h3, h4⟩ := read_fin Ieee.single b h
  have hB : Ieee.single.binade = 2 ^ 23 := rfl
  have hM : Ieee.single.infRung = 255 * 2 ^ 23 := by decide
  obtain ⟨c, c1, c2, c3⟩ := widen_number (sgn Ieee.single b) m e (by rw [hB] at h3; omega) (by rw [hB] at h4; rw [hM, h4] at h; omega)
  refine ⟨c, c1, ?_, ?_⟩
  · rw [h1]; exact c2
  · rw [c3, ← h2, Nat.pow_add, Nat.mul_assoc]

/-- A 32-bit number as a 64-bit one. -/
def fwid (b : Nat) : Nat := fconv .f32 b .f64

theorem wid_nan {b : Nat} (h : isN .f32 b = true) : isN .f64 (fwid b) = true := by
  unfold fwid fconv pconv
  rw [if_pos (by rw [isN_cn]; exact h)]
  exact isN_nanb _

theorem wid_num {b : Nat} (h : isN .f32 b = false) : fwid b = Ieee.double.write (Ieee.single.read b) := by
  unfold fwid fconv pconv
  rw [if_neg (by rw [isN_cn, h]; simp)]
  unfold cn
  rw [h]; rfl

theorem wid_fin {b : Nat} (h : rung Ieee.single b < Ieee.single.infRung) :
    ∃ c, c < Ieee.double.infRung ∧ fwid b = Ieee.double.word (sgn Ieee.single b) c ∧ mag Ieee.double c = mag Ieee.single (rung Ieee.single b) * 2 ^ 925 := by
  obtain ⟨c, h1, h2, h3⟩ := widen_read b h
  refine ⟨c, h1, ?_, h3⟩
  rw [wid_num (by rw [isN_eq]; simp only [decide_eq_false_iff_not]; exact Nat.not_lt.2 (Nat.le_of_lt h)), h2]

theorem wid_inf {b : Nat} (h : rung Ieee.single b = Ieee.single.infRung) : fwid b = Ieee.double.word (sgn Ieee.single b) Ieee.double.infRung := by
  have hn : isN .f32 b = false := by
    rw [isN_eq]
    simp only [decide_eq_false_iff_not]
    exact Nat.not_lt.2 (Nat.le_of_eq h)
  rw [wid_num hn, read_inf Ieee.single (okF .f32) b h]
  rfl

theorem isInf_word (f : Ieee.Format) (s : Bool) (c : Nat) (hc : c < f.infRung) : (f.read (f.word s c)).isInfinity = false := by
  have hs := f.infRung_lt
  obtain ⟨m, e, h1, _⟩ := read_fin f (f.word s c) (by rw [rung_word f s c (by omega)]; exact hc)
  rw [h1]; rfl

theorem fover_wid (b : Nat) : fover .f32 b .f64 = false := by
  unfold fover
  by_cases h : rung Ieee.single b < Ieee.single.infRung
  · obtain ⟨m, e, h1, _⟩ := read_fin Ieee.single b h
    obtain ⟨c, c1, c2, _⟩ := widen_read b h
    rw [h1] at c2
    rw [show FloatKind.f32.format.read b = _ from h1]
    show (Ieee.double.read (Ieee.double.write (.number (sgn Ieee.single b) m (Ieee.single.leastPlace + e)))).isInfinity = false
    rw [c2]
    exact isInf_word _ _ _ c1
  · by_cases h2 : rung Ieee.single b = Ieee.single.infRung
    · rw [show FloatKind.f32.format.read b = _ from read_inf _ (okF .f32) b h2]
    · rw [show FloatKind.f32.format.read b = _ from read_nan' Ieee.single (okF .f32) b (by omega)]

section
variable {P : Program} {ops : Array Oper} {Q : Exit → Act → World → Prop} {a : Act} {w : World} {rest : List Oper} {o : Oper}

theorem wpList_fwid (hgd : Region.wanted o (yielded ops a.tmps) = true) (src dst : TypeId) (X : Operand) (ho : o.op = .convert src dst X) (b : Nat) (hx : a.eval X = .float .f32 b)
    (hs : (P.underlying src).isSome = true) (hd : P.underlying dst = some (.float .f64))
    (h : ∀ r n, Same .f64 r (fwid b) → Fits .f64 r → wpList P ops Q rest (a.put o.dst (.float .f64 r)) (w.drewN n)) : wpList P ops Q (o :: rest) a w :=
  wpList_fconv hgd src dst X ho .f32 b hx .f64 (by decide) hs hd fun r n hr hl => h r n (hr (fover_wid b)) hl
end

theorem wid_notnan {b : Nat} (h : isN .f32 b = false) : isN .f64 (fwid b) = false := by
  have hM := Ieee.double.infRung_lt
  rcases Nat.lt_or_eq_of_le (rung_le h) with h1 | h1
  · obtain ⟨c, c1, c2, _⟩ := wid_fin h1
    rw [isN_eq, c2, show rung FloatKind.f64.format (Ieee.double.word (sgn Ieee.single b) c) = c from rung_word Ieee.double _ c (by omega)]
    simp only [decide_eq_false_iff_not]
    exact Nat.not_lt.2 (Nat.le_of_lt c1)
  · rw [isN_eq, wid_inf h1, show rung FloatKind.f64.format (Ieee.double.word (sgn Ieee.single b) Ieee.double.infRung) = Ieee.double.infRung from rung_word Ieee.double _ _ hM]
    simp only [decide_eq_false_iff_not]
    exact Nat.lt_irrefl _

theorem wid_isN (b : Nat) : isN .f64 (fwid b) = isN .f32 b := by
  cases h : isN .f32 b with
  | true => exact wid_nan h
  | false => exact wid_notnan h

theorem wid_word {b : Nat} (h : isN .f32 b = false) : ∃ c, c ≤ Ieee.double.infRung ∧ fwid b = Ieee.double.word (sgn Ieee.single b) c := by
  rcases Nat.lt_or_eq_of_le (rung_le h) with h1 | h1
  · obtain ⟨c, c1, c2, _⟩ := wid_fin h1
    exact ⟨c, Nat.le_of_lt c1, c2⟩
  · exact ⟨_, Nat.le_refl _, wid_inf h1⟩

theorem sgn_big (b : Nat) (h : b < 2 ^ 64) : sgn Ieee.double b = decide (2 ^ 63 ≤ b) := by
  have e : Ieee.double.signWeight = 2 ^ 63 := by decide
  unfold sgn
  rw [e]
  by_cases h1 : 2 ^ 63 ≤ b
  · have : b / 2 ^ 63 = 1 := by omega
    simp [this]; omega
  · have : b / 2 ^ 63 = 0 := by omega
    simp [this]; omega

theorem wid_sgn {b : Nat} (h : isN .f32 b = false) : decide (2 ^ 63 ≤ fwid b) = sgn Ieee.single b := by
  have hM := Ieee.double.infRung_lt
  obtain ⟨c, c1, c2⟩ := wid_word h
  have hf : fwid b < 2 ^ 64 := by
    rw [c2]; exact Ieee.double.word_lt _ (by omega)
  rw [← sgn_big _ hf, c2, sgn_word _ _ _ (by omega)]

theorem abs_bits (x : Nat) (hx : x < 2 ^ 64) : (bits .andNot .u64 (x : Int) 9223372036854775808).toNat = x % 2 ^ 63 := by
  have h := u64_andNot_nat x 9223372036854775808 (by omega) (by omega)
  have h2 : bits .andNot .u64 (x : Int) 9223372036854775808 = bits .andNot .u64 (x : Int) ((9223372036854775808 : Nat) : Int) := rfl
  rw [h2, h, Int.toNat_natCast]
  exact Nat.and_two_pow_sub_one_eq_mod x 63

theorem neg_wrap64 (x : Nat) (hx : x < 2 ^ 64) : decide (RowKit.wrap64 (x : Int) < 0) = decide (2 ^ 63 ≤ x) := by
  rw [decide_eq_decide]
  unfold RowKit.wrap64
  omega

theorem eq_of_sval {k : FloatKind} {a b : Nat} (ha : a < 2 ^ k.format.width) (hb : b < 2 ^ k.format.width) (hs : sgn k.format a = sgn k.format b) (h : sval k.format a = sval k.format b) : a = b := by
  unfold sval at h
  rw [hs] at h
  have hm : mag k.format (rung k.format a) = mag k.format (rung k.format b) := by
    cases hb : sgn k.format b with
    | false => rw [hb] at h; simp only [Bool.false_eq_true, if_false] at h; omega
    | true => rw [hb] at h; simp only [if_true] at h; omega
  rw [← word_rung _ a ha, ← word_rung _ b hb, hs, mag_inj _ hm]

end Go.Proofs.Ytcnamhmoocdccaa
