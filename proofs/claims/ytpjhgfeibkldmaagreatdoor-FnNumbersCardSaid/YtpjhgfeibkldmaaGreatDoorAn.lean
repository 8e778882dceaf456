/- Angles in turns: what is computed, how great it is, and both walks. Under no condition. -/
import Derived.Test.YtpjhgfeibkldmaaGreatDoorBd
import Derived.Test.YtpjhgfeibkldmaaGreatDoorCd
namespace Go.Proofs.YtpjhgfeibkldmaaGreatDoor
open Go Go.RowKit
set_option linter.unusedVariables false
set_option linter.unusedSimpArgs false

theorem Same.of_eq' {k : FloatKind} {a b : Nat} (h : a = b) : Same k a b := h ▸ Same.refl _ _
theorem afv_ex' (op : BinOp) (hop : isArith op = true) (t : TypeId) (k : FloatKind) (x y : Nat) (w : World) :
    ∃ v n, (binOp op t (.float k x) (.float k y)).run Tryz.prog w = .ok (.float k v) (w.drewN n) ∧ Same k v (fbin op k x y) :=
  ⟨_, _, run_afv Tryz.prog op hop t k x y w, ⟨cn_afv op hop k x y w⟩⟩
theorem unary_neg64 (b : Nat) : Op.unary .neg (.float .f64 b) = pure (.float .f64 (Op.negFloat .f64 b)) := rfl

def gtD (a b : Nat) : Bool := FloatKind.f64.format.order a b == some .gt
def ltZ (a : Nat) : Bool := FloatKind.f64.format.order a 0 == some .lt
def angT0 (y x : Nat) : Nat := if gtD (y % 2 ^ 63) (x % 2 ^ 63) then fdiv .f64 (x % 2 ^ 63) (y % 2 ^ 63) else fdiv .f64 (y % 2 ^ 63) (x % 2 ^ 63)
def angT (t0 : Nat) : Nat → Nat
  | 0 => t0
  | k + 1 => fdiv .f64 (angT t0 k) (fadd .f64 4607182418800017408 (fsqrt .f64 (fadd .f64 4607182418800017408 (fmul .f64 (angT t0 k) (angT t0 k)))))
def angP (u : Nat) : Nat → Nat
  | 0 => 0
  | j + 1 => fsub .f64 (fdiv .f64 4607182418800017408 (floatOfInt .f64 (15 - 2 * (j : Int)))) (fmul .f64 u (angP u j))
def angO (t p : Nat) : Nat := fdiv .f64 (fmul .f64 4620693217682128896 (fmul .f64 t p)) 4618760256179416344
def angE (g xn yn : Bool) (o : Nat) : Nat :=
  let o1 := if g then fsub .f64 4598175219545276416 o else o
  let o2 := if xn then fsub .f64 4602678819172646912 o1 else o1
  if yn then Op.negFloat .f64 o2 else o2
def angW (y x : Nat) : Nat :=
  angE (gtD (y % 2 ^ 63) (x % 2 ^ 63)) (ltZ x) (ltZ y) (angO (angT (angT0 y x) 3) (angP (fmul .f64 (angT (angT0 y x) 3) (angT (angT0 y x) 3)) 8))

theorem ang_step {t0 k t m a s d q : Nat} (h : Same .f64 t (angT t0 k)) (hm : cn .f64 m = cn .f64 (fmul .f64 t t)) (ha : cn .f64 a = cn .f64 (fadd .f64 4607182418800017408 m)) (hs : Same .f64 s (fsqrt .f64 a)) (hd : cn .f64 d = cn .f64 (fadd .f64 4607182418800017408 s)) (hq : cn .f64 q = cn .f64 (fdiv .f64 t d)) :
    Same .f64 q (angT t0 (k + 1)) := by
  refine (⟨hq⟩ : Same .f64 q _).trans (Same.of_eq' ?_)
  show fdiv .f64 t d = fdiv .f64 _ _
  refine Same.div h ((⟨hd⟩ : Same .f64 d _).trans (Same.of_eq' (Same.add (Same.refl _ _) (hs.trans (Same.of_eq' (Same.sqrt ((⟨ha⟩ : Same .f64 a _).trans (Same.of_eq' (Same.add (Same.refl _ _) ((⟨hm⟩ : Same .f64 m _).trans (Same.of_eq' (Same.mul h h))))))))))))
theorem angP_same {u u' : Nat} (h : Same .f64 u u') (j : Nat) : angP u j = angP u' j := by
  induction j with
  | zero => rfl
  | succ j ih => unfold angP; rw [Same.mul h (Same.of_eq' ih)]
theorem angP_step {u j p q m r : Nat} (h : Same .f64 p (angP u j)) (hq : cn .f64 q = cn .f64 (fdiv .f64 4607182418800017408 (floatOfInt .f64 (15 - 2 * (j : Int))))) (hm : cn .f64 m = cn .f64 (fmul .f64 u p)) (hr : cn .f64 r = cn .f64 (fsub .f64 q m)) : Same .f64 r (angP u (j + 1)) := by
  refine (⟨hr⟩ : Same .f64 r _).trans (Same.of_eq' ?_)
  show fsub .f64 q m = fsub .f64 _ _
  exact Same.sub ⟨hq⟩ ((⟨hm⟩ : Same .f64 m _).trans (Same.of_eq' (Same.mul (Same.refl _ u) h)))
theorem angE_same {o o' : Nat} (h : Same .f64 o o') (g xn yn : Bool) : Same .f64 (angE g xn yn o) (angE g xn yn o') := by
  unfold angE
  have h1 : Same .f64 (if g then fsub .f64 4598175219545276416 o else o) (if g then fsub .f64 4598175219545276416 o' else o') := by
    cases g
    · exact h
    · exact Same.of_eq' (Same.sub (Same.refl _ _) h)
  have h2 : Same .f64 (if xn then fsub .f64 4602678819172646912 (if g then fsub .f64 4598175219545276416 o else o) else (if g then fsub .f64 4598175219545276416 o else o)) (if xn then fsub .f64 4602678819172646912 (if g then fsub .f64 4598175219545276416 o' else o') else (if g then fsub .f64 4598175219545276416 o' else o')) := by
    cases xn
    · exact h1
    · exact Same.of_eq' (Same.sub (Same.refl _ _) h1)
  cases yn
  · exact h2
  · exact h2.neg

/-! ### How great. -/
theorem angT_bd {t0 : Nat} (h : Bd 1 t0) : ∀ k, k ≤ 3 → Bd (k + 1) (angT t0 k) := by
  intro k
  induction k with
  | zero => intro _; exact h
  | succ k ih =>
    intro hk
    have ht := ih (by omega)
    have h1 := ht.mul ht (by omega)
    obtain ⟨h2, h3, _⟩ := one_more h1 (sgn_square ht.fin) (by omega)
    have h4 := Bd.sqrt (m := k + 2) (h2.mono (by omega)) h3 (by omega)
    obtain ⟨h5, h6, h7⟩ := one_more h4 (sgn_root h2.fin h3) (by omega)
    exact ht.div h5.fin h7 (by omega)
theorem recip_bd : ∀ j : Nat, j < 8 → rung FloatKind.f64.format (floatOfInt .f64 (15 - 2 * (j : Int))) < FloatKind.f64.format.infRung ∧ 2 ^ 1074 ≤ mag FloatKind.f64.format (rung FloatKind.f64.format (floatOfInt .f64 (15 - 2 * (j : Int)))) := by decide +kernel
theorem zero_bd : Bd 0 0 := ⟨by decide +kernel, by decide +kernel⟩
theorem angP_bd {u : Nat} (h : Bd 8 u) : ∀ j, j ≤ 8 → Bd (9 * j) (angP u j) := by
  intro j
  induction j with
  | zero => intro _; exact zero_bd
  | succ j ih =>
    intro hj
    obtain ⟨c1, c2⟩ := recip_bd j (by omega)
    have h1 := one_bd.div c1 c2 (by omega)
    have h2 := h.mul (ih (by omega)) (by omega)
    have h3 := (h1.mono (show 0 + 1 ≤ 8 + 9 * j by omega)).sub h2 (by omega)
    exact h3.mono (by omega)
theorem angW_bd {y x : Nat} (hy : rung Ieee.double y < Ieee.double.infRung) (hx : rung Ieee.double x < Ieee.double.infRung) (h0 : ¬ (rung Ieee.double y = 0 ∧ rung Ieee.double x = 0)) : Bd 82 (angW y x) := by
  have ay : rung FloatKind.f64.format (y % 2 ^ 63) = rung Ieee.double y := rung_abs y
  have ax : rung FloatKind.f64.format (x % 2 ^ 63) = rung Ieee.double x := rung_abs x
  have ny : isN .f64 (y % 2 ^ 63) = false := by rw [isN_abs, isN_eq]; simp only [decide_eq_false_iff_not]; exact Nat.not_lt.2 (Nat.le_of_lt hy)
  have nx : isN .f64 (x % 2 ^ 63) = false := by rw [isN_abs, isN_eq]; simp only [decide_eq_false_iff_not]; exact Nat.not_lt.2 (Nat.le_of_lt hx)
  have hcmp : gtD (y % 2 ^ 63) (x % 2 ^ 63) = decide (mag Ieee.double (rung Ieee.double x) < mag Ieee.double (rung Ieee.double y)) := by
    unfold gtD
    rw [gtr_num ny nx]
    show decide (sval Ieee.double (x % 2 ^ 63) < sval Ieee.double (y % 2 ^ 63)) = _
    rw [sval_abs, sval_abs, decide_eq_decide]
    omega
  have ht : Bd 1 (angT0 y x) := by
    unfold angT0
    rw [hcmp]
    by_cases hlt : mag Ieee.double (rung Ieee.double x) < mag Ieee.double (rung Ieee.double y)
    · rw [if_pos (decide_eq_true hlt)]
      have := lt_of_magB_lt _ (binade_pos Ieee.double) hlt
      exact Bd.ratio (by rw [ay]; exact hy) (by rw [ax, ay]; omega) (by rw [ay]; omega)
    · rw [decide_eq_false hlt, if_neg (by simp)]
      have := le_of_magB_le _ (binade_pos Ieee.double) (Nat.not_lt.1 hlt)
      exact Bd.ratio (by rw [ax]; exact hx) (by rw [ax, ay]; omega) (by rw [ax]; omega)
  have h3 := angT_bd ht 3 (Nat.le_refl _)
  have hu := h3.mul h3 (by omega)
  have hp := angP_bd (hu.mono (by omega)) 8 (Nat.le_refl _)
  have c8 : Bd 3 4620693217682128896 := ⟨by decide +kernel, by decide +kernel⟩
  have cq : Bd 0 4598175219545276416 := ⟨by decide +kernel, by decide +kernel⟩
  have ch : Bd 0 4602678819172646912 := ⟨by decide +kernel, by decide +kernel⟩
  have ho : Bd 80 (angO (angT (angT0 y x) 3) (angP (fmul .f64 (angT (angT0 y x) 3) (angT (angT0 y x) 3)) 8)) := by
    unfold angO
    exact ((c8.mul (h3.mul hp (by omega)) (by omega)).div (by decide +kernel) (by decide +kernel) (by omega)).mono (by omega)
  unfold angW
  generalize angO _ _ = oo at ho ⊢
  unfold angE
  dsimp only
  have e1 : Bd 81 (if gtD (y % 2 ^ 63) (x % 2 ^ 63) = true then fsub .f64 4598175219545276416 oo else oo) := by
    split
    · exact (cq.mono (by omega)).sub ho (by omega)
    · exact ho.mono (by omega)
  generalize (if gtD (y % 2 ^ 63) (x % 2 ^ 63) = true then fsub .f64 4598175219545276416 oo else oo) = o1 at e1 ⊢
  have e2 : Bd 82 (if ltZ x = true then fsub .f64 4602678819172646912 o1 else o1) := by
    split
    · exact (ch.mono (by omega)).sub e1 (by omega)
    · exact e1.mono (by omega)
  generalize (if ltZ x = true then fsub .f64 4602678819172646912 o1 else o1) = o2 at e2 ⊢
  split
  · exact e2.neg
  · exact e2

/-! ### The walks. -/
theorem ang_o {t p m1 m2 q : Nat} (h1 : cn .f64 m1 = cn .f64 (fmul .f64 t p)) (h2 : cn .f64 m2 = cn .f64 (fmul .f64 4620693217682128896 m1)) (h3 : cn .f64 q = cn .f64 (fdiv .f64 m2 4618760256179416344)) : Same .f64 q (angO t p) := by
  refine (⟨h3⟩ : Same .f64 q _).trans (Same.of_eq' ?_)
  exact Same.div ((⟨h2⟩ : Same .f64 m2 _).trans (Same.of_eq' (Same.mul (Same.refl _ _) ⟨h1⟩))) (Same.refl _ _)
theorem ang_e {g xn yn : Bool} {o o1 o2 v : Nat} (h1 : Same .f64 o1 (if g then fsub .f64 4598175219545276416 o else o)) (h2 : Same .f64 o2 (if xn then fsub .f64 4602678819172646912 o1 else o1)) (h3 : Same .f64 v (if yn then Op.negFloat .f64 o2 else o2)) :
    Same .f64 v (angE g xn yn o) := by
  have e2 : Same .f64 o2 (if xn then fsub .f64 4602678819172646912 (if g then fsub .f64 4598175219545276416 o else o) else (if g then fsub .f64 4598175219545276416 o else o)) := by
    refine h2.trans ?_
    cases xn
    · exact h1
    · exact Same.of_eq' (Same.sub (Same.refl _ _) h1)
  refine h3.trans ?_
  unfold angE
  cases yn
  · exact e2
  · exact e2.neg
theorem ang_fin {y x a b W t u p o v : Nat} {g xn yn : Bool} (HW : W = angW y x) (ha : a = y % 2 ^ 63) (hb : b = x % 2 ^ 63) (hg : (FloatKind.f64.format.order a b == some .gt) = g) (hxn : (FloatKind.f64.format.order x 0 == some .lt) = xn) (hyn : (FloatKind.f64.format.order y 0 == some .lt) = yn)
    (ht : Same .f64 t (angT (angT0 y x) 3)) (hu : cn .f64 u = cn .f64 (fmul .f64 t t)) (hp : Same .f64 p (angP u 8)) (ho : Same .f64 o (angO t p)) (hv : Same .f64 v (angE g xn yn o)) : Same .f64 v W := by
  have e1 : Same .f64 o (angO (angT (angT0 y x) 3) (angP (fmul .f64 (angT (angT0 y x) 3) (angT (angT0 y x) 3)) 8)) := by
    refine ho.trans (Same.of_eq' ?_)
    unfold angO
    have e2 : Same .f64 p (angP (fmul .f64 (angT (angT0 y x) 3) (angT (angT0 y x) 3)) 8) := hp.trans (Same.of_eq' (angP_same ((⟨hu⟩ : Same .f64 u _).trans (Same.of_eq' (Same.mul ht ht))) 8))
    rw [Same.mul ht e2]
  rw [HW]
  refine hv.trans ?_
  unfold angW gtD ltZ
  rw [← ha, ← hb, hg, hxn, hyn]
  exact angE_same e1 g xn yn
theorem ang_t0 {y x a b g} (ha : a = y % 2 ^ 63) (hb : b = x % 2 ^ 63) (hg : (FloatKind.f64.format.order a b == some .gt) = g) : angT0 y x = if g then fdiv .f64 b a else fdiv .f64 a b := by
  unfold angT0 gtD; rw [← ha, ← hb, hg]
theorem int15 {j : Nat} (h : j < 8) : IntKind.i64.wrap (15 - 2 * (j : Int) - 2) = 15 - 2 * ((j + 1 : Nat) : Int) := by
  simp [IntKind.wrap, IntKind.bits, IntKind.signed]; omega

set_option maxRecDepth 4000 in
set_option maxHeartbeats 4000000 in
theorem impl_angle (y x : Nat) (w : World) (hy : y < 2 ^ 64) (hx : x < 2 ^ 64) :
    Calls Tryz.prog 67 #[.float .f64 y, .float .f64 x] w fun e w' => ∃ v n, e = .returned (.float .f64 v) ∧ Same .f64 v (angW y x) ∧ w' = w.drewN n := by
  have hun := unary_neg64
  have hM := fun a b w => run_afv Tryz.prog .mul rfl 46 .f64 a b w
  have hA := fun a b w => run_afv Tryz.prog .add rfl 46 .f64 a b w
  have hS := fun a b w => run_afv Tryz.prog .sub rfl 46 .f64 a b w
  have hQ := fun a b w => run_afv Tryz.prog .quo rfl 46 .f64 a b w
  obtain ⟨W, hW⟩ : ∃ W, W = angW y x := ⟨_, rfl⟩
  rw [← hW]
  have HW := Lib.hid hW
  have MY := Lib.hid (fun w => math_Abs y w hy)
  have MX := Lib.hid (fun w => math_Abs x w hx)
  obtain ⟨a, ha⟩ : ∃ a, a = y % 2 ^ 63 := ⟨_, rfl⟩
  obtain ⟨b, hb⟩ : ∃ b, b = x % 2 ^ 63 := ⟨_, rfl⟩
  have HA := Lib.hid ha
  have HB := Lib.hid hb
  clear hW ha hb hy hx
  obtain ⟨g, hg⟩ : ∃ g, (FloatKind.f64.format.order a b == some .gt) = g := ⟨_, rfl⟩
  obtain ⟨xn, hxn⟩ : ∃ g, (FloatKind.f64.format.order x 0 == some .lt) = g := ⟨_, rfl⟩
  obtain ⟨yn, hyn⟩ : ∃ g, (FloatKind.f64.format.order y 0 == some .lt) = g := ⟨_, rfl⟩
  have HT0 := Lib.hid (ang_t0 HA.out HB.out hg)
  cases g with
  | false =>
    go_enter Tryz.func67, Tryz.ntmps67
    go_wp2_with (first | (refine (MY.out _).mono ?_; rintro e w' ⟨rfl, rfl⟩; rw [← HA.out]) | (refine (MX.out _).mono ?_; rintro e w' ⟨rfl, rfl⟩; rw [← HB.out]))
    go_loopw [7, 25] (fun tv i wr => ∃ k : Nat, k ≤ 3 ∧ i = .int .i64 k ∧ ∃ t n, tv = .float .f64 t ∧ Hid (Same .f64 t (angT (angT0 y x) k)) ∧ wr = w.drewN n) (fun _ i _ => 3 - (intOf i).toNat)
    case atStart => exact ⟨0, by omega, rfl, _, _, rfl, Lib.hid (by show Same .f64 _ (angT0 y x); rw [HT0.out]; exact ⟨cn_afv .quo rfl .f64 _ _ _⟩), rfl⟩
    case round =>
      obtain ⟨k, hk, rfl, t, n, rfl, ht, rfl⟩ := hrel
      by_cases hlt : k < 3
      · go_wp2_with (first | (go_at_call 44; refine (math_Sqrt _ _).mono ?_; rintro e w' ⟨s, ns, rfl, hs, hfit, rfl⟩))
        have HS := Lib.hid hs
        clear hs hfit
        go_roundw
        case rel => exact ⟨k + 1, by omega, by go_num, _, _, rfl, Lib.hid (ang_step ht.out (cn_afv .mul rfl .f64 _ _ _) (cn_afv .add rfl .f64 _ _ _) HS.out (cn_afv .add rfl .f64 _ _ _) (cn_afv .quo rfl .f64 _ _ _)), by first | rfl | simp⟩
        case measure => simp [intOf]; omega
      · have hk3 : k = 3 := by omega
        subst hk3
        clear hlt hk
        go_wp2
        have HU := cn_afv .mul rfl .f64 t t (w.drewN n)
        generalize afv .mul .f64 t t (w.drewN n) = u at *
        generalize afn .mul .f64 t t = nu at *
        have HU2 := Lib.hid HU
        clear HU
        go_loopw [9, 10] (fun pv i wr => ∃ j : Nat, j ≤ 8 ∧ i = .int .i64 (15 - 2 * (j : Int)) ∧ ∃ p n, pv = .float .f64 p ∧ Hid (Same .f64 p (angP u j)) ∧ wr = w.drewN n) (fun _ i _ => (intOf i + 1).toNat)
        case atStart => exact ⟨0, by omega, rfl, _, _, rfl, Lib.hid (Same.refl _ _), by first | rfl | simp⟩
        case round =>
          obtain ⟨j, hj, rfl, p, n2, rfl, hp, rfl⟩ := hrel
          by_cases hlt : j < 8
          · have hi := int15 hlt
            have hge : (1 : Int) ≤ 15 - 2 * (j : Int) := by omega
            go_wp2
            go_roundw
            case rel => exact ⟨j + 1, by omega, by first | rfl | (simp; omega) | go_num, _, _, rfl, Lib.hid (angP_step hp.out (cn_afv .quo rfl .f64 _ _ _) (cn_afv .mul rfl .f64 _ _ _) (cn_afv .sub rfl .f64 _ _ _)), by first | rfl | simp⟩
            case measure => simp [intOf]; omega
          · have hj8 : j = 8 := by omega
            subst hj8
            clear hlt hj
            cases xn with
            | false =>
              cases yn with
              | false =>
                go_wp2
                go_ret
                exact ⟨_, _, rfl, ang_fin HW.out HA.out HB.out hg hxn hyn ht.out HU2.out hp.out (ang_o (cn_afv .mul rfl .f64 _ _ _) (cn_afv .mul rfl .f64 _ _ _) (cn_afv .quo rfl .f64 _ _ _)) (ang_e (g := false) (xn := false) (yn := false) (Same.refl _ _) (Same.refl _ _) (Same.refl _ _)), rfl⟩
              | true =>
                go_wp2
                go_ret
                exact ⟨_, _, rfl, ang_fin HW.out HA.out HB.out hg hxn hyn ht.out HU2.out hp.out (ang_o (cn_afv .mul rfl .f64 _ _ _) (cn_afv .mul rfl .f64 _ _ _) (cn_afv .quo rfl .f64 _ _ _)) (ang_e (g := false) (xn := false) (yn := true) (Same.refl _ _) (Same.refl _ _) (Same.refl _ _)), rfl⟩
            | true =>
              cases yn with
              | false =>
                go_wp2
                go_ret
                exact ⟨_, _, rfl, ang_fin HW.out HA.out HB.out hg hxn hyn ht.out HU2.out hp.out (ang_o (cn_afv .mul rfl .f64 _ _ _) (cn_afv .mul rfl .f64 _ _ _) (cn_afv .quo rfl .f64 _ _ _)) (ang_e (g := false) (xn := true) (yn := false) (Same.refl _ _) (⟨cn_afv .sub rfl .f64 _ _ _⟩ : Same .f64 _ _) (Same.refl _ _)), rfl⟩
              | true =>
                go_wp2
                go_ret
                exact ⟨_, _, rfl, ang_fin HW.out HA.out HB.out hg hxn hyn ht.out HU2.out hp.out (ang_o (cn_afv .mul rfl .f64 _ _ _) (cn_afv .mul rfl .f64 _ _ _) (cn_afv .quo rfl .f64 _ _ _)) (ang_e (g := false) (xn := true) (yn := true) (Same.refl _ _) (⟨cn_afv .sub rfl .f64 _ _ _⟩ : Same .f64 _ _) (Same.refl _ _)), rfl⟩
  | true =>
    go_enter Tryz.func67, Tryz.ntmps67
    go_wp2_with (first | (refine (MY.out _).mono ?_; rintro e w' ⟨rfl, rfl⟩; rw [← HA.out]) | (refine (MX.out _).mono ?_; rintro e w' ⟨rfl, rfl⟩; rw [← HB.out]))
    go_loopw [7, 25] (fun tv i wr => ∃ k : Nat, k ≤ 3 ∧ i = .int .i64 k ∧ ∃ t n, tv = .float .f64 t ∧ Hid (Same .f64 t (angT (angT0 y x) k)) ∧ wr = w.drewN n) (fun _ i _ => 3 - (intOf i).toNat)
    case atStart => exact ⟨0, by omega, rfl, _, _, rfl, Lib.hid (by show Same .f64 _ (angT0 y x); rw [HT0.out]; exact ⟨cn_afv .quo rfl .f64 _ _ _⟩), rfl⟩
    case round =>
      obtain ⟨k, hk, rfl, t, n, rfl, ht, rfl⟩ := hrel
      by_cases hlt : k < 3
      · go_wp2_with (first | (go_at_call 44; refine (math_Sqrt _ _).mono ?_; rintro e w' ⟨s, ns, rfl, hs, hfit, rfl⟩))
        have HS := Lib.hid hs
        clear hs hfit
        go_roundw
        case rel => exact ⟨k + 1, by omega, by go_num, _, _, rfl, Lib.hid (ang_step ht.out (cn_afv .mul rfl .f64 _ _ _) (cn_afv .add rfl .f64 _ _ _) HS.out (cn_afv .add rfl .f64 _ _ _) (cn_afv .quo rfl .f64 _ _ _)), by first | rfl | simp⟩
        case measure => simp [intOf]; omega
      · have hk3 : k = 3 := by omega
        subst hk3
        clear hlt hk
        go_wp2
        have HU := cn_afv .mul rfl .f64 t t (w.drewN n)
        generalize afv .mul .f64 t t (w.drewN n) = u at *
        generalize afn .mul .f64 t t = nu at *
        have HU2 := Lib.hid HU
        clear HU
        go_loopw [9, 10] (fun pv i wr => ∃ j : Nat, j ≤ 8 ∧ i = .int .i64 (15 - 2 * (j : Int)) ∧ ∃ p n, pv = .float .f64 p ∧ Hid (Same .f64 p (angP u j)) ∧ wr = w.drewN n) (fun _ i _ => (intOf i + 1).toNat)
        case atStart => exact ⟨0, by omega, rfl, _, _, rfl, Lib.hid (Same.refl _ _), by first | rfl | simp⟩
        case round =>
          obtain ⟨j, hj, rfl, p, n2, rfl, hp, rfl⟩ := hrel
          by_cases hlt : j < 8
          · have hi := int15 hlt
            have hge : (1 : Int) ≤ 15 - 2 * (j : Int) := by omega
            go_wp2
            go_roundw
            case rel => exact ⟨j + 1, by omega, by first | rfl | (simp; omega) | go_num, _, _, rfl, Lib.hid (angP_step hp.out (cn_afv .quo rfl .f64 _ _ _) (cn_afv .mul rfl .f64 _ _ _) (cn_afv .sub rfl .f64 _ _ _)), by first | rfl | simp⟩
            case measure => simp [intOf]; omega
          · have hj8 : j = 8 := by omega
            subst hj8
            clear hlt hj
            cases xn with
            | false =>
              cases yn with
              | false =>
                go_wp2
                go_ret
                exact ⟨_, _, rfl, ang_fin HW.out HA.out HB.out hg hxn hyn ht.out HU2.out hp.out (ang_o (cn_afv .mul rfl .f64 _ _ _) (cn_afv .mul rfl .f64 _ _ _) (cn_afv .quo rfl .f64 _ _ _)) (ang_e (g := true) (xn := false) (yn := false) (⟨cn_afv .sub rfl .f64 _ _ _⟩ : Same .f64 _ _) (Same.refl _ _) (Same.refl _ _)), rfl⟩
              | true =>
                go_wp2
                go_ret
                exact ⟨_, _, rfl, ang_fin HW.out HA.out HB.out hg hxn hyn ht.out HU2.out hp.out (ang_o (cn_afv .mul rfl .f64 _ _ _) (cn_afv .mul rfl .f64 _ _ _) (cn_afv .quo rfl .f64 _ _ _)) (ang_e (g := true) (xn := false) (yn := true) (⟨cn_afv .sub rfl .f64 _ _ _⟩ : Same .f64 _ _) (Same.refl _ _) (Same.refl _ _)), rfl⟩
            | true =>
              cases yn with
              | false =>
                go_wp2
                go_ret
                exact ⟨_, _, rfl, ang_fin HW.out HA.out HB.out hg hxn hyn ht.out HU2.out hp.out (ang_o (cn_afv .mul rfl .f64 _ _ _) (cn_afv .mul rfl .f64 _ _ _) (cn_afv .quo rfl .f64 _ _ _)) (ang_e (g := true) (xn := true) (yn := false) (⟨cn_afv .sub rfl .f64 _ _ _⟩ : Same .f64 _ _) (⟨cn_afv .sub rfl .f64 _ _ _⟩ : Same .f64 _ _) (Same.refl _ _)), rfl⟩
              | true =>
                go_wp2
                go_ret
                exact ⟨_, _, rfl, ang_fin HW.out HA.out HB.out hg hxn hyn ht.out HU2.out hp.out (ang_o (cn_afv .mul rfl .f64 _ _ _) (cn_afv .mul rfl .f64 _ _ _) (cn_afv .quo rfl .f64 _ _ _)) (ang_e (g := true) (xn := true) (yn := true) (⟨cn_afv .sub rfl .f64 _ _ _⟩ : Same .f64 _ _) (⟨cn_afv .sub rfl .f64 _ _ _⟩ : Same .f64 _ _) (Same.refl _ _)), rfl⟩

end Go.Proofs.YtpjhgfeibkldmaaGreatDoor

