/- Bounds of sums, products, quotients and roots: 'Lim k c x': x is a finite number whose magnitude is at most that of the rung c. Under no condition. -/
import Derived.Test.YtcnamhmoocdccaaFv
namespace Go.Proofs.Ytcnamhmoocdccaa
open Go
set_option linter.unusedVariables false
set_option linter.unusedSimpArgs false
set_option exponentiation.threshold 3000

/-- The number x is finite, and its magnitude is at most n units of the least place. -/
structure Lim (k : FloatKind) (n : Nat) (x : Nat) : Prop where
  fin : rung k.format x < k.format.infRung
  le : mag k.format (rung k.format x) ≤ n

theorem Lim.mono {k : FloatKind} {n m x : Nat} (h : Lim k n x) (g : n ≤ m) : Lim k m x := ⟨h.fin, Nat.le_trans h.le g⟩
theorem Lim.num {k : FloatKind} {n x : Nat} (h : Lim k n x) : isN k x = false := by
  rw [isN_eq]; simp only [decide_eq_false_iff_not]; exact Nat.not_lt.2 (Nat.le_of_lt h.fin)
theorem Lim.cn {k : FloatKind} {n x : Nat} (h : Lim k n x) : cn k x = x := by
  unfold Go.Proofs.Ytcnamhmoocdccaa.cn; rw [h.num]; rfl
theorem Lim.same {k : FloatKind} {n x y : Nat} (h : Lim k n x) (g : Same k y x) : y = x := g.eq h.num
theorem Lim.of_same {k : FloatKind} {n x y : Nat} (h : Lim k n x) (g : Same k y x) : Lim k n y := by rw [h.same g]; exact h

/-- Finite numbers of bounded magnitude have bounded rungs. -/
theorem rung_of_mag {f : Ieee.Format} {c r : Nat} (h : mag f r ≤ mag f c) : r ≤ c := le_of_magB_le _ (binade_pos f) h

theorem write_lim (k : FloatKind) (s : Bool) (n : Nat) (place : Int) (c : Nat) (hc : c < k.format.infRung)
    (h : n * 2 ^ (place - k.format.leastPlace).toNat ≤ mag k.format c * 2 ^ (k.format.leastPlace - place).toNat) : Lim k (mag k.format c) (k.format.write (.number s n place)) := by
  have hM := k.format.infRung_lt
  obtain ⟨R, h0, h1, h2, _⟩ := nearest_rung k.format s n place
  have hR := h2 c (Nat.le_of_lt hc) h
  have e : k.format.write (.number s n place) = k.format.word s R := h0
  have er : rung k.format (k.format.word s R) = R := rung_word _ _ _ (by omega)
  rw [e]
  exact ⟨by rw [er]; omega, by rw [er]; exact magB_le _ (binade_pos _) hR⟩

theorem natAbs_signed (s : Bool) (m e : Nat) : (Ieee.signed s m e).natAbs = m * 2 ^ e := by
  unfold Ieee.signed
  rw [Nat.shiftLeft_eq]
  cases s
  · rfl
  · show (-((m * 2 ^ e : Nat) : Int)).natAbs = m * 2 ^ e
    rw [Int.natAbs_neg]; rfl

theorem add_lim (k : FloatKind) {a b : Nat} (c : Nat) (hc : c < k.format.infRung) {x y : Nat} (hx : Lim k a x) (hy : Lim k b y) (h : a + b ≤ mag k.format c) : Lim k (mag k.format c) (fadd k x y) := by
  obtain ⟨m, e, h1, h2, _, _⟩ := read_fin k.format x hx.fin
  obtain ⟨n, g, h3, h4, _, _⟩ := read_fin k.format y hy.fin
  rw [fadd_eq]
  unfold Ieee.Format.add
  rw [h1, h3]
  unfold Ieee.Datum.sum
  dsimp only
  rw [Option.map_some, Option.getD_some]
  have e1 : (k.format.leastPlace + (e : Int) - min (k.format.leastPlace + (e : Int)) (k.format.leastPlace + (g : Int))).toNat = e - min e g := by omega
  have e2 : (k.format.leastPlace + (g : Int) - min (k.format.leastPlace + (e : Int)) (k.format.leastPlace + (g : Int))).toNat = g - min e g := by omega
  rw [e1, e2]
  refine write_lim k _ _ _ c hc ?_
  rw [show (min (k.format.leastPlace + (e : Int)) (k.format.leastPlace + (g : Int)) - k.format.leastPlace).toNat = min e g by omega,
    show (k.format.leastPlace - min (k.format.leastPlace + (e : Int)) (k.format.leastPlace + (g : Int))).toNat = 0 by omega, Nat.pow_zero, Nat.mul_one]
  have ha := Int.natAbs_add_le (Ieee.signed (sgn k.format x) m (e - min e g)) (Ieee.signed (sgn k.format y) n (g - min e g))
  rw [natAbs_signed, natAbs_signed] at ha
  have := Nat.mul_le_mul_right (2 ^ min e g) ha
  rw [Nat.add_mul, Nat.mul_assoc, Nat.mul_assoc, ← Nat.pow_add, ← Nat.pow_add, Nat.sub_add_cancel (Nat.min_le_left _ _), Nat.sub_add_cancel (Nat.min_le_right _ _), h2, h4] at this
  have := hx.le; have := hy.le
  omega

theorem opp_read (f : Ieee.Format) (y : Nat) (h : rung f y < f.infRung) : ∃ m e : Nat, (f.read y).opposite = .number (!sgn f y) m (f.leastPlace + e) ∧ m * 2 ^ e = mag f (rung f y) := by
  obtain ⟨m, e, h1, h2, _⟩ := read_fin f y h
  exact ⟨m, e, by rw [h1]; rfl, h2⟩

theorem sub_lim (k : FloatKind) {a b : Nat} (c : Nat) (hc : c < k.format.infRung) {x y : Nat} (hx : Lim k a x) (hy : Lim k b y) (h : a + b ≤ mag k.format c) : Lim k (mag k.format c) (fsub k x y) := by
  obtain ⟨m, e, h1, h2, _, _⟩ := read_fin k.format x hx.fin
  obtain ⟨n, g, h3, h4⟩ := opp_read k.format y hy.fin
  rw [fsub_eq]
  unfold Ieee.Format.sub
  rw [h1, h3]
  unfold Ieee.Datum.sum
  dsimp only
  rw [Option.map_some, Option.getD_some]
  have e1 : (k.format.leastPlace + (e : Int) - min (k.format.leastPlace + (e : Int)) (k.format.leastPlace + (g : Int))).toNat = e - min e g := by omega
  have e2 : (k.format.leastPlace + (g : Int) - min (k.format.leastPlace + (e : Int)) (k.format.leastPlace + (g : Int))).toNat = g - min e g := by omega
  rw [e1, e2]
  refine write_lim k _ _ _ c hc ?_
  rw [show (min (k.format.leastPlace + (e : Int)) (k.format.leastPlace + (g : Int)) - k.format.leastPlace).toNat = min e g by omega,
    show (k.format.leastPlace - min (k.format.leastPlace + (e : Int)) (k.format.leastPlace + (g : Int))).toNat = 0 by omega, Nat.pow_zero, Nat.mul_one]
  have ha := Int.natAbs_add_le (Ieee.signed (sgn k.format x) m (e - min e g)) (Ieee.signed (!sgn k.format y) n (g - min e g))
  rw [natAbs_signed, natAbs_signed] at ha
  have := Nat.mul_le_mul_right (2 ^ min e g) ha
  rw [Nat.add_mul, Nat.mul_assoc, Nat.mul_assoc, ← Nat.pow_add, ← Nat.pow_add, Nat.sub_add_cancel (Nat.min_le_left _ _), Nat.sub_add_cancel (Nat.min_le_right _ _), h2, h4] at this
  have := hx.le; have := hy.le
  omega

/-- The least place, from below. -/
def low (k : FloatKind) : Nat := (-k.format.leastPlace).toNat
theorem low_eq (k : FloatKind) : k.format.leastPlace = -(low k : Int) := by cases k <;> decide

theorem mul_lim (k : FloatKind) {a b : Nat} (c : Nat) (hc : c < k.format.infRung) {x y : Nat} (hx : Lim k a x) (hy : Lim k b y) (h : a * b ≤ mag k.format c * 2 ^ low k) : Lim k (mag k.format c) (fmul k x y) := by
  obtain ⟨m, e, h1, h2, _, _⟩ := read_fin k.format x hx.fin
  obtain ⟨n, g, h3, h4, _, _⟩ := read_fin k.format y hy.fin
  rw [fmul_eq]
  unfold Ieee.Format.mul
  rw [h1, h3]
  unfold Ieee.Datum.product
  rw [Option.map_some, Option.getD_some]
  refine write_lim k _ _ _ c hc ?_
  have hab : m * n * 2 ^ (e + g) ≤ mag k.format c * 2 ^ low k := by
    have := Nat.mul_le_mul hx.le hy.le
    rw [← h2, ← h4] at this
    rw [Nat.pow_add, Nat.mul_assoc, Nat.mul_left_comm n, ← Nat.mul_assoc m]
    omega
  rw [low_eq] at *
  generalize low k = D at *
  by_cases hd : D ≤ e + g
  · rw [show (-(D : Int) + (e : Int) + (-(D : Int) + (g : Int)) - -(D : Int)).toNat = e + g - D by omega, show (-(D : Int) - (-(D : Int) + (e : Int) + (-(D : Int) + (g : Int)))).toNat = 0 by omega, Nat.pow_zero, Nat.mul_one]
    refine Nat.le_of_mul_le_mul_right ?_ (Nat.two_pow_pos D)
    rw [Nat.mul_assoc, ← Nat.pow_add, Nat.sub_add_cancel hd]
    exact hab
  · rw [show (-(D : Int) + (e : Int) + (-(D : Int) + (g : Int)) - -(D : Int)).toNat = 0 by omega, show (-(D : Int) - (-(D : Int) + (e : Int) + (-(D : Int) + (g : Int)))).toNat = D - (e + g) by omega, Nat.pow_zero, Nat.mul_one]
    refine Nat.le_of_mul_le_mul_right ?_ (Nat.two_pow_pos (e + g))
    rw [Nat.mul_assoc (mag k.format c), ← Nat.pow_add, Nat.sub_add_cancel (by omega)]
    exact hab

theorem div_lim (k : FloatKind) {a b : Nat} (c : Nat) (hc : c < k.format.infRung) {x y : Nat} (hx : Lim k a x) (hyf : rung k.format y < k.format.infRung) (hyb : b ≤ mag k.format (rung k.format y)) (hb : 0 < b)
    (h : 2 * a * 2 ^ low k ≤ mag k.format c * b) : Lim k (mag k.format c) (fdiv k x y) := by
  obtain ⟨m, e, h1, h2, _, _⟩ := read_fin k.format x hx.fin
  obtain ⟨n, g, h3, h4, _, _⟩ := read_fin k.format y hyf
  have hn : n ≠ 0 := by
    intro h0
    rw [h0, Nat.zero_mul] at h4
    omega
  rw [fdiv_eq]
  unfold Ieee.Format.div
  rw [h1, h3]
  unfold Ieee.Datum.quotient
  dsimp only
  rw [if_neg hn, Option.map_some, Option.getD_some]
  refine write_lim k _ _ _ c hc ?_
  generalize hmore : k.format.fractionBits + 2 + n.log2 - m.log2 = more
  have hq : (2 * (m <<< more / n) + (m <<< more % n != 0).toNat) * n ≤ 4 * (m * 2 ^ more) := by
    rw [Nat.shiftLeft_eq]
    by_cases hm : m = 0
    · subst hm; simp
    · have hle : n ≤ m * 2 ^ more := by
        have l1 : 2 ^ m.log2 ≤ m := Nat.log2_self_le hm
        have l2 : n < 2 ^ (n.log2 + 1) := Nat.lt_log2_self
        have l3 := Nat.mul_le_mul_right (2 ^ more) l1
        rw [← Nat.pow_add] at l3
        have l4 : 2 ^ (n.log2 + 1) ≤ 2 ^ (m.log2 + more) := Nat.pow_le_pow_right (by omega) (by omega)
        omega
      have hd := Nat.div_mul_le_self (m * 2 ^ more) n
      have hb2 : (m * 2 ^ more % n != 0).toNat ≤ 1 := by cases (m * 2 ^ more % n != 0) <;> decide
      have hb3 : (m * 2 ^ more % n != 0).toNat * n ≤ n := by
        have := Nat.mul_le_mul_right n hb2
        omega
      rw [Nat.add_mul, Nat.mul_assoc]
      omega
  generalize 2 * (m <<< more / n) + (m <<< more % n != 0).toNat = Q at *
  have hxy : 2 * (m * 2 ^ e) * 2 ^ low k ≤ mag k.format c * (n * 2 ^ g) := by
    rw [h2, h4]
    have g1 := Nat.mul_le_mul_left (mag k.format c) hyb
    have g2 : 2 * mag k.format (rung k.format x) * 2 ^ low k ≤ 2 * a * 2 ^ low k := Nat.mul_le_mul_right _ (Nat.mul_le_mul_left 2 hx.le)
    omega
  rw [low_eq] at *
  generalize low k = D at *
  generalize mag k.format c = C at *
  have hex : (-(D : Int) + (e : Int) - (-(D : Int) + (g : Int)) - (more : Int) - 1 - -(D : Int)).toNat + (g + more + 1) = e + D + (-(D : Int) - (-(D : Int) + (e : Int) - (-(D : Int) + (g : Int)) - (more : Int) - 1)).toNat := by omega
  generalize (-(D : Int) + (e : Int) - (-(D : Int) + (g : Int)) - (more : Int) - 1 - -(D : Int)).toNat = up at *
  generalize (-(D : Int) - (-(D : Int) + (e : Int) - (-(D : Int) + (g : Int)) - (more : Int) - 1)).toNat = dn at *
  have hpos : 0 < n * 2 ^ (g + more + 1) := Nat.mul_pos (by omega) (Nat.two_pow_pos _)
  refine Nat.le_of_mul_le_mul_right ?_ hpos
  have s1 : Q * 2 ^ up * (n * 2 ^ (g + more + 1)) = Q * n * 2 ^ (e + D + dn) := by
    rw [← hex, Nat.pow_add 2 up]
    simp only [Nat.mul_assoc, Nat.mul_left_comm]
  have s2 : C * 2 ^ dn * (n * 2 ^ (g + more + 1)) = C * (n * 2 ^ g) * (2 ^ dn * 2 ^ more * 2) := by
    rw [Nat.pow_add 2 (g + more), Nat.pow_add 2 g, Nat.pow_one]
    simp only [Nat.mul_assoc, Nat.mul_left_comm]
  have s3 : 4 * (m * 2 ^ more) * 2 ^ (e + D + dn) = 2 * (m * 2 ^ e) * 2 ^ D * (2 ^ dn * 2 ^ more * 2) := by
    rw [Nat.pow_add 2 (e + D), Nat.pow_add 2 e]
    have : (4 : Nat) = 2 * 2 := rfl
    rw [this]
    simp only [Nat.mul_assoc, Nat.mul_left_comm, Nat.mul_comm]
  rw [s1, s2]
  refine Nat.le_trans (Nat.mul_le_mul_right _ hq) ?_
  rw [s3]
  exact Nat.mul_le_mul_right _ hxy

theorem rootFrom_sq (n : Nat) : ∀ todo root, root * root ≤ n → Ieee.Datum.rootFrom n todo root * Ieee.Datum.rootFrom n todo root ≤ n
  | 0, root, h => h
  | todo + 1, root, h => by
    unfold Ieee.Datum.rootFrom
    dsimp only
    split
    · exact rootFrom_sq n todo _ (by assumption)
    · exact rootFrom_sq n todo _ h

theorem sqrt_lim (k : FloatKind) {a : Nat} (c : Nat) (hc : c < k.format.infRung) {x : Nat} (hx : Lim k a x) (hs : sgn k.format x = false ∨ rung k.format x = 0) (h : 4 * a * 2 ^ low k ≤ mag k.format c * mag k.format c) : Lim k (mag k.format c) (fsqrt k x) := by
  obtain ⟨m, e, h1, h2, _, hr⟩ := read_fin k.format x hx.fin
  rw [fsqrt_eq]
  unfold Ieee.Format.sqrt
  rw [h1]
  unfold Ieee.Datum.root
  dsimp only
  by_cases hm : m = 0
  · subst hm
    rw [if_pos rfl, Option.map_some, Option.getD_some]
    exact write_lim k _ _ _ c hc (by simp)
  · have hsg : sgn k.format x = false := by
      rcases hs with hs | hs
      · exact hs
      · exfalso
        have : 0 < m := by omega
        omega
    rw [if_neg hm, hsg]
    simp only [Bool.false_eq_true, if_false]
    rw [Option.map_some, Option.getD_some]
    refine write_lim k _ _ _ c hc ?_
    generalize hM : 2 * (k.format.fractionBits + 2) - m.log2 + ((k.format.leastPlace + (e : Int) - ((2 * (k.format.fractionBits + 2) - m.log2 : Nat) : Int)) % 2).toNat = more
    have hodd : (k.format.leastPlace + (e : Int) - (more : Int)) % 2 = 0 := by omega
    clear hM
    generalize hn : m <<< more = n
    rw [Nat.shiftLeft_eq] at hn
    generalize hw : Ieee.Datum.rootFrom n (n.log2 / 2 + 1) 0 = wh
    have hsq : wh * wh ≤ n := by rw [← hw]; exact rootFrom_sq n _ 0 (by omega)
    have hn1 : 1 ≤ n := by
      rw [← hn]
      exact Nat.mul_pos (by omega) (Nat.two_pow_pos _)
    have hQ : (2 * wh + (wh * wh != n).toNat) * (2 * wh + (wh * wh != n).toNat) ≤ 16 * n := by
      have hb : (wh * wh != n).toNat ≤ 1 := by cases (wh * wh != n) <;> decide
      have hle : 2 * wh + (wh * wh != n).toNat ≤ 2 * wh + 1 := by omega
      have h3 := Nat.mul_le_mul hle hle
      have h4 : (2 * wh + 1) * (2 * wh + 1) = 4 * (wh * wh) + 4 * wh + 1 := by
        simp only [Nat.add_mul, Nat.mul_add, Nat.one_mul, Nat.mul_one]
        have : 2 * wh * (2 * wh) = 4 * (wh * wh) := by rw [Nat.mul_mul_mul_comm]
        omega
      have h5 : wh ≤ wh * wh := by
        by_cases h0 : wh = 0
        · subst h0; exact Nat.zero_le _
        · exact Nat.le_mul_of_pos_left wh (by omega)
      omega
    generalize 2 * wh + (wh * wh != n).toNat = Q at *
    have hxa : 4 * (m * 2 ^ e) * 2 ^ low k ≤ mag k.format c * mag k.format c := by
      rw [h2]
      have : 4 * mag k.format (rung k.format x) * 2 ^ low k ≤ 4 * a * 2 ^ low k := Nat.mul_le_mul_right _ (Nat.mul_le_mul_left 4 hx.le)
      omega
    rw [low_eq] at *
    generalize low k = D at *
    generalize mag k.format c = C at *
    have hex : 2 * ((-(D : Int) + (e : Int) - (more : Int)) / 2 - 1 - -(D : Int)).toNat + more + 2 = e + D + 2 * (-(D : Int) - ((-(D : Int) + (e : Int) - (more : Int)) / 2 - 1)).toNat := by omega
    generalize ((-(D : Int) + (e : Int) - (more : Int)) / 2 - 1 - -(D : Int)).toNat = up at *
    generalize (-(D : Int) - ((-(D : Int) + (e : Int) - (more : Int)) / 2 - 1)).toNat = dn at *
    refine Nat.mul_self_le_mul_self_iff.1 ?_
    have p4 : 0 < 4 := by omega
    refine Nat.le_of_mul_le_mul_right ?_ (Nat.two_pow_pos (more + 2))
    have s1 : Q * 2 ^ up * (Q * 2 ^ up) * 2 ^ (more + 2) = Q * Q * 2 ^ (2 * up + more + 2) := by
      rw [show 2 * up + more + 2 = up + up + (more + 2) by omega, Nat.pow_add 2 (up + up), Nat.pow_add 2 up]
      simp only [Nat.mul_assoc, Nat.mul_left_comm]
    have s2 : C * 2 ^ dn * (C * 2 ^ dn) * 2 ^ (more + 2) = C * C * (2 ^ (2 * dn) * 2 ^ more * 4) := by
      rw [show 2 * dn = dn + dn by omega, Nat.pow_add 2 dn, Nat.pow_add 2 more]
      simp only [Nat.mul_assoc, Nat.mul_left_comm]
    have s3 : 16 * n * 2 ^ (e + D + 2 * dn) = 4 * (m * 2 ^ e) * 2 ^ D * (2 ^ (2 * dn) * 2 ^ more * 4) := by
      rw [← hn, Nat.pow_add 2 (e + D), Nat.pow_add 2 e]
      have : (16 : Nat) = 4 * 4 := rfl
      rw [this]
      simp only [Nat.mul_assoc, Nat.mul_left_comm, Nat.mul_comm]
    rw [s1, s2, hex]
    refine Nat.le_trans (Nat.mul_le_mul_right _ hQ) ?_
    rw [s3]
    exact Nat.mul_le_mul_right _ hxa

/-- A 64-bit number that is not too great narrows to a 32-bit one. -/
theorem narrow_ok {b n : Nat} (h : Lim .f64 n b) (hn : n ≤ 2 ^ 1174) : fover .f64 b .f32 = false := by
  have l1 : Ieee.single.leastPlace = -149 := by decide
  have l2 : Ieee.double.leastPlace = -1074 := by decide
  obtain ⟨m, e, h1, h2, _, _⟩ := read_fin Ieee.double b h.fin
  unfold fover
  rw [show FloatKind.f64.format.read b = _ from h1]
  have hc : (227 * 2 ^ 23 : Nat) < Ieee.single.infRung := by decide
  have hm : mag Ieee.single (227 * 2 ^ 23) = 2 ^ 23 * 2 ^ 226 := by decide
  have hL := write_lim .f32 (sgn Ieee.double b) m (Ieee.double.leastPlace + e) (227 * 2 ^ 23) hc (by
    show m * 2 ^ (Ieee.double.leastPlace + (e : Int) - Ieee.single.leastPlace).toNat ≤ mag Ieee.single (227 * 2 ^ 23) * 2 ^ (Ieee.single.leastPlace - (Ieee.double.leastPlace + (e : Int))).toNat
    rw [hm, l1, l2, ← Nat.pow_add]
    have hle : m * 2 ^ e ≤ 2 ^ 1174 := by rw [h2]; exact Nat.le_trans h.le hn
    by_cases he : 925 ≤ e
    · rw [show (-1074 + (e : Int) - -149).toNat = e - 925 by omega, show (-149 - (-1074 + (e : Int))).toNat = 0 by omega, Nat.pow_zero, Nat.mul_one]
      refine Nat.le_of_mul_le_mul_right ?_ (Nat.two_pow_pos 925)
      rw [Nat.mul_assoc, ← Nat.pow_add, ← Nat.pow_add, Nat.sub_add_cancel he]
      exact hle
    · rw [show (-1074 + (e : Int) - -149).toNat = 0 by omega, show (-149 - (-1074 + (e : Int))).toNat = 925 - e by omega, Nat.pow_zero, Nat.mul_one]
      refine Nat.le_of_mul_le_mul_right ?_ (Nat.two_pow_pos e)
      rw [← Nat.pow_add, ← Nat.pow_add, show 23 + 226 + (925 - e) + e = 1174 by omega]
      exact hle)
  have hf := hL.fin
  obtain ⟨m', e', h3, _⟩ := read_fin Ieee.single _ hf
  show (Ieee.single.read (Ieee.single.write (.number (sgn Ieee.double b) m (Ieee.double.leastPlace + e)))).isInfinity = false
  rw [show Ieee.single.read (Ieee.single.write (.number (sgn Ieee.double b) m (Ieee.double.leastPlace + e))) = _ from h3]
  rfl

/-- The rung whose magnitude is a power of two. -/
theorem mag_pow64 (e : Nat) : mag FloatKind.f64.format ((e + 1) * 2 ^ 52) = 2 ^ (52 + e) := by
  have h := magB_comb (2 ^ 52) e (2 ^ 52) (Nat.two_pow_pos _) (by omega) (.inr (Nat.le_refl _))
  rw [Nat.pow_add, Nat.add_mul, Nat.one_mul]
  exact h
theorem lt_inf64 (e : Nat) (h : e ≤ 2045) : (e + 1) * 2 ^ 52 < FloatKind.f64.format.infRung := by
  have e1 : FloatKind.f64.format.infRung = 2047 * 2 ^ 52 := by decide
  rw [e1]
  exact Nat.mul_lt_mul_of_pos_right (by omega) (Nat.two_pow_pos _)

/-- A finite 32-bit number as a 64-bit one. -/
theorem wid_lim {x : Nat} (h : rung Ieee.single x < Ieee.single.infRung) : Lim .f64 (2 ^ 1202) (fwid x) := by
  have hM := Ieee.double.infRung_lt
  obtain ⟨c, c1, c2, c3⟩ := wid_fin h
  have er : rung FloatKind.f64.format (fwid x) = c := by rw [c2]; exact rung_word Ieee.double _ c (by omega)
  refine ⟨by rw [er]; exact c1, ?_⟩
  rw [er, show mag FloatKind.f64.format c = _ from c3]
  have h1 : mag Ieee.single (rung Ieee.single x) ≤ mag Ieee.single Ieee.single.infRung := magB_le _ (binade_pos _) (Nat.le_of_lt h)
  have h2 : mag Ieee.single Ieee.single.infRung = 2 ^ 277 := by
    have h := magB_comb (2 ^ 23) 254 (2 ^ 23) (Nat.two_pow_pos _) (by omega) (.inr (Nat.le_refl _))
    rw [show (2 : Nat) ^ 277 = 2 ^ 23 * 2 ^ 254 from (Nat.pow_add 2 23 254).symm ▸ rfl, ← h]
    exact congrArg (mag Ieee.single) (by decide)
  rw [h2] at h1
  have := Nat.mul_le_mul_right (2 ^ 925) h1
  rw [← Nat.pow_add] at this
  exact this

theorem narrow_nan {b : Nat} (h : isN .f64 b = true) : fover .f64 b .f32 = false := by
  obtain ⟨s, t, hr⟩ := read_nan h
  unfold fover
  rw [hr]
theorem narrow_inf {b : Nat} (h : rung Ieee.double b = Ieee.double.infRung) : fover .f64 b .f32 = false := by
  unfold fover
  rw [show FloatKind.f64.format.read b = _ from read_inf Ieee.double (okF .f64) b h]

/-- The root of a 32-bit number narrows. -/
theorem root_ok {x r1 r2 : Nat} (h1 : Same .f64 r1 (fwid x)) (h2 : Same .f64 r2 (fsqrt .f64 r1)) : fover .f64 r2 .f32 = false := by
  have h3 : Same .f64 r2 (fsqrt .f64 (fwid x)) := by rw [← h1.sqrt]; exact h2
  cases hn : isN .f64 (fsqrt .f64 (fwid x)) with
  | true => exact narrow_nan (h3.isN.trans hn)
  | false =>
    rw [h3.eq hn]
    cases hx : isN .f32 x with
    | true =>
      obtain ⟨s, t, hr⟩ := read_nan (wid_nan hx)
      rw [fsqrt_eq] at hn
      unfold Ieee.Format.sqrt at hn
      rw [hr] at hn
      simp [Ieee.Datum.root, isN_nanb] at hn
    | false =>
      rcases Nat.lt_or_eq_of_le (rung_le hx) with hf | hf
      · have hl := wid_lim hf
        have hs : sgn FloatKind.f64.format (fwid x) = false ∨ rung FloatKind.f64.format (fwid x) = 0 := by
          obtain ⟨m, e, g1, g2, _, g3⟩ := read_fin FloatKind.f64.format (fwid x) hl.fin
          cases hsg : sgn FloatKind.f64.format (fwid x) with
          | false => exact .inl rfl
          | true =>
            rw [fsqrt_eq] at hn
            unfold Ieee.Format.sqrt at hn
            rw [g1, hsg] at hn
            unfold Ieee.Datum.root at hn
            by_cases hm : m = 0
            · right
              subst hm
              rw [Nat.zero_mul] at g2
              have h0 : mag FloatKind.f64.format 0 = 0 := by decide
              exact mag_inj _ (by rw [← g2, h0])
            · simp [hm, isN_nanb] at hn
        have := sqrt_lim .f64 ((1088 + 1) * 2 ^ 52) (lt_inf64 1088 (by omega)) hl hs (by
          rw [mag_pow64, show low .f64 = 1074 by decide, show (4 : Nat) = 2 ^ 2 from rfl, ← Nat.pow_add, ← Nat.pow_add, ← Nat.pow_add]
          exact Nat.pow_le_pow_right (by omega) (by omega))
        rw [mag_pow64] at this
        exact narrow_ok this (Nat.pow_le_pow_right (by omega) (by omega))
      · have e := wid_inf hf
        have hM := Ieee.double.infRung_lt
        have hr : FloatKind.f64.format.read (fwid x) = .infinity (sgn Ieee.single x) := by
          rw [e, show FloatKind.f64.format.read (Ieee.double.word (sgn Ieee.single x) Ieee.double.infRung) = _ from read_inf Ieee.double (okF .f64) _ (rung_word _ _ _ hM), sgn_word _ _ _ hM]
        rw [fsqrt_eq] at hn ⊢
        unfold Ieee.Format.sqrt at hn ⊢
        rw [hr] at hn ⊢
        unfold Ieee.Datum.root at hn ⊢
        cases hs : sgn Ieee.single x with
        | true => rw [hs] at hn; simp [isN_nanb] at hn
        | false => exact narrow_inf (by decide)

end Go.Proofs.Ytcnamhmoocdccaa
