/- Tenths of decibels: the numbers, both walks, and the law. Under no condition. -/
import Derived.Test.YtcnamhmoocdccaaLg
namespace Go.Proofs.Ytcnamhmoocdccaa
open Go Go.RowKit
set_option linter.unusedVariables false
set_option linter.unusedSimpArgs false
set_option exponentiation.threshold 5000

theorem sum_abs (s t : Bool) (m n e g c : Nat) (hc : c < Ieee.double.infRung)
    (h1 : ((if s then -((m * 2 ^ e : Nat) : Int) else ((m * 2 ^ e : Nat) : Int)) + (if t then -((n * 2 ^ g : Nat) : Int) else ((n * 2 ^ g : Nat) : Int))).natAbs ≤ mag Ieee.double c) :
    Lim .f64 (mag Ieee.double c) (((Ieee.Datum.sum (.number s m (Ieee.double.leastPlace + (e : Int))) (.number t n (Ieee.double.leastPlace + (g : Int)))).map Ieee.double.write).getD (nanb .f64)) := by
  unfold Ieee.Datum.sum
  dsimp only
  rw [Option.map_some, Option.getD_some]
  have e1 : (Ieee.double.leastPlace + (e : Int) - min (Ieee.double.leastPlace + (e : Int)) (Ieee.double.leastPlace + (g : Int))).toNat = e - min e g := by omega
  have e2 : (Ieee.double.leastPlace + (g : Int) - min (Ieee.double.leastPlace + (e : Int)) (Ieee.double.leastPlace + (g : Int))).toNat = g - min e g := by omega
  rw [e1, e2]
  have hA : m * 2 ^ e = m * 2 ^ (e - min e g) * 2 ^ min e g := by rw [Nat.mul_assoc, ← Nat.pow_add, Nat.sub_add_cancel (Nat.min_le_left _ _)]
  have hB : n * 2 ^ g = n * 2 ^ (g - min e g) * 2 ^ min e g := by rw [Nat.mul_assoc, ← Nat.pow_add, Nat.sub_add_cancel (Nat.min_le_right _ _)]
  have p1 : Ieee.signed s m (e - min e g) = if s then -((m * 2 ^ (e - min e g) : Nat) : Int) else ((m * 2 ^ (e - min e g) : Nat) : Int) := by
    unfold Ieee.signed; rw [Nat.shiftLeft_eq]
  have p2 : Ieee.signed t n (g - min e g) = if t then -((n * 2 ^ (g - min e g) : Nat) : Int) else ((n * 2 ^ (g - min e g) : Nat) : Int) := by
    unfold Ieee.signed; rw [Nat.shiftLeft_eq]
  rw [hA, hB] at h1
  refine write_lim .f64 _ _ _ c hc ?_
  show _ * 2 ^ (min (Ieee.double.leastPlace + (e : Int)) (Ieee.double.leastPlace + (g : Int)) - Ieee.double.leastPlace).toNat ≤ _ * 2 ^ (Ieee.double.leastPlace - min (Ieee.double.leastPlace + (e : Int)) (Ieee.double.leastPlace + (g : Int))).toNat
  rw [show (min (Ieee.double.leastPlace + (e : Int)) (Ieee.double.leastPlace + (g : Int)) - Ieee.double.leastPlace).toNat = min e g by omega,
    show (Ieee.double.leastPlace - min (Ieee.double.leastPlace + (e : Int)) (Ieee.double.leastPlace + (g : Int))).toNat = 0 by omega, Nat.pow_zero, Nat.mul_one]
  refine Nat.le_trans (Nat.le_of_eq ?_) h1
  have key : ∀ (S : Int) (D : Nat), S.natAbs * D = (S * (D : Int)).natAbs := fun S D => by rw [Int.natAbs_mul]; rfl
  rw [key, p1, p2, Int.add_mul]
  generalize m * 2 ^ (e - min e g) = P
  generalize n * 2 ^ (g - min e g) = Q
  generalize 2 ^ min e g = D
  cases s <;> cases t <;> simp only [if_true, if_false, Bool.false_eq_true, Int.natCast_mul, Int.neg_mul]
theorem sub_abs {x y c : Nat} (hx : rung Ieee.double x < Ieee.double.infRung) (hy : rung Ieee.double y < Ieee.double.infRung) (hc : c < Ieee.double.infRung)
    (h1 : (sval Ieee.double x - sval Ieee.double y).natAbs ≤ mag Ieee.double c) : Lim .f64 (mag Ieee.double c) (fsub .f64 x y) := by
  obtain ⟨m, e, r1, r2, _⟩ := read_fin Ieee.double x hx
  obtain ⟨n, g, r3, r4⟩ := opp_read Ieee.double y hy
  have hv : (if !sgn Ieee.double y then -((n * 2 ^ g : Nat) : Int) else ((n * 2 ^ g : Nat) : Int)) = - sval Ieee.double y := by
    rw [sval_eq, r4]; cases sgn Ieee.double y <;> simp
  have hu : (if sgn Ieee.double x then -((m * 2 ^ e : Nat) : Int) else ((m * 2 ^ e : Nat) : Int)) = sval Ieee.double x := by
    rw [sval_eq, r2]
  have k := sum_abs (sgn Ieee.double x) (!sgn Ieee.double y) m n e g c hc (by rw [hu, hv, ← Int.sub_eq_add_neg]; exact h1)
  have : fsub .f64 x y = (((Ieee.Datum.sum (.number (sgn Ieee.double x) m (Ieee.double.leastPlace + (e : Int))) (.number (!sgn Ieee.double y) n (Ieee.double.leastPlace + (g : Int)))).map Ieee.double.write).getD (nanb .f64)) := by
    rw [fsub_eq]
    show ((Ieee.double.sub x y).getD (nanb .f64)) = _
    unfold Ieee.Format.sub
    rw [r1, r3]
  rw [this]; exact k

/-! ### The value. -/
def logS (x : Nat) : Nat := fdiv .f64 (fsub .f64 x 4607182418800017408) (fadd .f64 x 4607182418800017408)
def logU (x : Nat) : Nat := fmul .f64 (logS x) (logS x)
def logQ (u : Nat) : Nat → Nat
  | 0 => 0
  | j + 1 => fadd .f64 (fdiv .f64 4607182418800017408 (floatOfInt .f64 (25 - 2 * (j : Int)))) (fmul .f64 u (logQ u j))
def logA (x : Nat) : Nat := fmul .f64 (logS x) (logQ (logU x) 13)
def logB (x : Nat) : Nat := fmul .f64 4611686018427387904 (logA x)
def logC (E : Int) : Nat := fmul .f64 (floatOfInt .f64 E) 4604418534313441775
def logV (x : Nat) (E : Int) : Nat := fadd .f64 (logB x) (logC E)
def tenV (v : Nat) : Nat := fadd .f64 (fmul .f64 v 4631308968768463603) 4602678819172646912

/-- x is what is left of b, and E how often it was halved. -/
structure LogAt (b x : Nat) (E : Int) : Prop where
  lo : 4604930618986332160 ≤ x
  hi : x < 4609434218613702656
  eq : (x : Int) + E * 4503599627370496 = (b : Int)
theorem LogAt.same {b x x' : Nat} {E E' : Int} (h : LogAt b x E) (g : LogAt b x' E') : x = x' ∧ E = E' := by
  have := h.lo; have := h.hi; have := h.eq; have := g.lo; have := g.hi; have := g.eq
  omega
theorem LogAt.small {b x : Nat} {E : Int} (h : LogAt b x E) (h1 : 3936146074321813504 ≤ b) (h2 : b < 5183643171103440896) : ∃ n : Nat, n < 300 ∧ (E = (n : Int) ∨ E = -(n : Int)) := by
  have := h.lo; have := h.hi; have := h.eq
  refine ⟨E.natAbs, by omega, by omega⟩

theorem c75_mag : mag Ieee.double 4604930618986332160 = 3 * 2 ^ 1072 := by decide +kernel
theorem c15_mag : mag Ieee.double 4609434218613702656 = 3 * 2 ^ 1073 := by decide +kernel
theorem half_mag : mag Ieee.double 4602678819172646912 = 2 ^ 1073 := by decide +kernel
theorem recip25 : ∀ j : Nat, j < 13 → rung FloatKind.f64.format (floatOfInt .f64 (25 - 2 * (j : Int))) < FloatKind.f64.format.infRung ∧ 2 ^ 1074 ≤ mag FloatKind.f64.format (rung FloatKind.f64.format (floatOfInt .f64 (25 - 2 * (j : Int)))) := by decide +kernel
theorem int25 : ∀ j : Nat, j < 13 → IntKind.i64.wrap (25 - 2 * (j : Int) - 2) = 25 - 2 * ((j + 1 : Nat) : Int) := by decide +kernel

theorem logS_bd {x : Nat} (h0 : 4604930618986332160 ≤ x) (h1 : x < 4609434218613702656) : Bd 1 x ∧ Bd 0 (fsub .f64 x 4607182418800017408) ∧ Bd 2 (fadd .f64 x 4607182418800017408) ∧ Bd 1 (logS x) := by
  have hs : x < 2047 * 2 ^ 52 := by omega
  obtain ⟨hr, hsg⟩ := rung_small hs
  have hfin : rung Ieee.double x < Ieee.double.infRung := by rw [hr, inf64]; exact hs
  have m1 := magB_le _ (binade_pos Ieee.double) h0
  have m2 := magB_le _ (binade_pos Ieee.double) (Nat.le_of_lt h1)
  have m1' : 3 * 2 ^ 1072 ≤ mag Ieee.double x := by rw [← c75_mag]; exact m1
  have m2' : mag Ieee.double x ≤ 3 * 2 ^ 1073 := by rw [← c15_mag]; exact m2
  have e73 : (2 : Nat) ^ 1073 = 2 * 2 ^ 1072 := by rw [show (1073 : Nat) = 1072 + 1 from rfl, Nat.pow_succ, Nat.mul_comm]
  have e74 : (2 : Nat) ^ 1074 = 4 * 2 ^ 1072 := by rw [show (1074 : Nat) = 1072 + 2 from rfl, Nat.pow_add, Nat.mul_comm]
  have e75 : (2 : Nat) ^ 1075 = 8 * 2 ^ 1072 := by rw [show (1075 : Nat) = 1072 + 3 from rfl, Nat.pow_add, Nat.mul_comm]
  have hb : Bd 1 x := ⟨hfin, by
    show mag Ieee.double (rung Ieee.double x) ≤ 2 ^ 1075
    rw [hr, e75]
    rw [e73] at m2'
    omega⟩
  have hsub : Lim .f64 (2 ^ 1073) (fsub .f64 x 4607182418800017408) := by
    have k := sub_abs (y := 4607182418800017408) (c := 4602678819172646912) hfin (by decide +kernel) (by decide +kernel) (by
      rw [one_val, val_small hs, half_mag]
      rw [e73] at m2' ⊢
      omega)
    rw [half_mag] at k
    exact k
  have hsub0 : Bd 0 (fsub .f64 x 4607182418800017408) := Lim.mono hsub (Nat.pow_le_pow_right (by omega) (by omega))
  have hadd : Bd 2 (fadd .f64 x 4607182418800017408) := hb.add (one_bd.mono (by omega)) (by omega)
  have hlow : 3 * 2 ^ 1072 ≤ mag FloatKind.f64.format (rung FloatKind.f64.format (fadd .f64 x 4607182418800017408)) := by
    have k := (add_pos hfin one_bd.fin hsg one_sgn).2
    have k2 := magB_le _ (binade_pos FloatKind.f64.format) k
    refine Nat.le_trans ?_ k2
    have : rung FloatKind.f64.format x = x := hr
    rw [this]
    exact m1'
  refine ⟨hb, hsub0, hadd, ?_⟩
  have k := div_lim .f64 ((1 + 1022 + 1) * 2 ^ 52) (lt_inf64 _ (by omega)) hsub hadd.fin hlow (Nat.mul_pos (by omega) (Nat.two_pow_pos _)) (by
    rw [pw64, low64, e73, e74, e75]
    have : 2 * (2 * 2 ^ 1072) * (4 * 2 ^ 1072) = 16 * (2 ^ 1072 * 2 ^ 1072) := by
      rw [show 2 * (2 * 2 ^ 1072) = 4 * 2 ^ 1072 by omega, Nat.mul_mul_mul_comm]
    have g : 8 * 2 ^ 1072 * (3 * 2 ^ 1072) = 24 * (2 ^ 1072 * 2 ^ 1072) := by rw [Nat.mul_mul_mul_comm]
    rw [this, g]
    exact Nat.mul_le_mul_right _ (by omega))
  rw [pw64] at k
  exact k
theorem logQ_step {u : Nat} (hu : Bd 2 u) {j : Nat} (hj : j < 13) (h : Bd (3 * j) (logQ u j)) : Bd 1 (fdiv .f64 4607182418800017408 (floatOfInt .f64 (25 - 2 * (j : Int)))) ∧ Bd (2 + 3 * j) (fmul .f64 u (logQ u j)) ∧ Bd (3 * (j + 1)) (logQ u (j + 1)) := by
  obtain ⟨c1, c2⟩ := recip25 j hj
  have h1 := one_bd.div c1 c2 (by omega)
  have h2 := hu.mul h (by omega)
  have h3 := (h1.mono (show 0 + 1 ≤ 2 + 3 * j by omega)).add h2 (by omega)
  exact ⟨h1, h2, h3.mono (by omega)⟩
theorem logQ_bd {u : Nat} (hu : Bd 2 u) : ∀ j, j ≤ 13 → Bd (3 * j) (logQ u j) := by
  intro j
  induction j with
  | zero => intro _; exact zero_bd
  | succ j ih => intro hj; exact (logQ_step hu (by omega) (ih (by omega))).2.2

structure LogTold (x : Nat) (E : Int) : Prop where
  sub : ∀ w : World, (binOp .sub 31 (.float .f64 x) (.float .f64 4607182418800017408)).run Try.prog w = .ok (.float .f64 (fsub .f64 x 4607182418800017408)) w
  add : ∀ w : World, (binOp .add 31 (.float .f64 x) (.float .f64 4607182418800017408)).run Try.prog w = .ok (.float .f64 (fadd .f64 x 4607182418800017408)) w
  div : ∀ w : World, (binOp .quo 31 (.float .f64 (fsub .f64 x 4607182418800017408)) (.float .f64 (fadd .f64 x 4607182418800017408))).run Try.prog w = .ok (.float .f64 (logS x)) w
  u : ∀ w : World, (binOp .mul 31 (.float .f64 (logS x)) (.float .f64 (logS x))).run Try.prog w = .ok (.float .f64 (logU x)) w
  q : ∀ j : Nat, j < 13 → ∀ w : World, (binOp .quo 31 (.float .f64 4607182418800017408) (.float .f64 (floatOfInt .f64 (25 - 2 * (j : Int))))).run Try.prog w = .ok (.float .f64 (fdiv .f64 4607182418800017408 (floatOfInt .f64 (25 - 2 * (j : Int))))) w
  m : ∀ j : Nat, j < 13 → ∀ w : World, (binOp .mul 31 (.float .f64 (logU x)) (.float .f64 (logQ (logU x) j))).run Try.prog w = .ok (.float .f64 (fmul .f64 (logU x) (logQ (logU x) j))) w
  s : ∀ j : Nat, j < 13 → ∀ w : World, (binOp .add 31 (.float .f64 (fdiv .f64 4607182418800017408 (floatOfInt .f64 (25 - 2 * (j : Int))))) (.float .f64 (fmul .f64 (logU x) (logQ (logU x) j)))).run Try.prog w = .ok (.float .f64 (logQ (logU x) (j + 1))) w
  a : ∀ w : World, (binOp .mul 31 (.float .f64 (logS x)) (.float .f64 (logQ (logU x) 13))).run Try.prog w = .ok (.float .f64 (logA x)) w
  b : ∀ w : World, (binOp .mul 31 (.float .f64 4611686018427387904) (.float .f64 (logA x))).run Try.prog w = .ok (.float .f64 (logB x)) w
  c : ∀ w : World, (binOp .mul 31 (.float .f64 (floatOfInt .f64 E)) (.float .f64 4604418534313441775)).run Try.prog w = .ok (.float .f64 (logC E)) w
  v : ∀ w : World, (binOp .add 31 (.float .f64 (logB x)) (.float .f64 (logC E))).run Try.prog w = .ok (.float .f64 (logV x E)) w
  bd : Bd 43 (logV x E)
theorem LogTold.of {x : Nat} {E : Int} (h0 : 4604930618986332160 ≤ x) (h1 : x < 4609434218613702656) (hE : ∃ n : Nat, n < 300 ∧ (E = (n : Int) ∨ E = -(n : Int))) : LogTold x E := by
  obtain ⟨hx, hsub, hadd, hs⟩ := logS_bd h0 h1
  have hu : Bd 2 (logU x) := hs.mul hs (by omega)
  have hq := logQ_bd hu
  have ha : Bd 40 (logA x) := (hs.mul (hq 13 (Nat.le_refl _)) (by omega)).mono (by omega)
  have c2 : Bd 1 4611686018427387904 := ⟨by decide +kernel, by decide +kernel⟩
  have cl : Bd 0 4604418534313441775 := ⟨by decide +kernel, by decide +kernel⟩
  have hb : Bd 41 (logB x) := (c2.mul ha (by omega)).mono (by omega)
  have he : Bd 9 (floatOfInt .f64 E) := by
    obtain ⟨n, hn, h | h⟩ := hE
    · rw [h]; exact (int_bd n hn).1
    · rw [h]; exact (int_bd n hn).2
  have hc : Bd 9 (logC E) := (he.mul cl (by omega)).mono (by omega)
  have hv : Bd 43 (logV x E) := (hb.add (hc.mono (by omega)) (by omega)).mono (by omega)
  exact ⟨fun w => run_exact .sub rfl 31 _ _ hsub.num w, fun w => run_exact .add rfl 31 _ _ hadd.num w, fun w => run_exact .quo rfl 31 _ _ hs.num w, fun w => run_exact .mul rfl 31 _ _ hu.num w,
    fun j hj w => run_exact .quo rfl 31 _ _ (logQ_step hu hj (hq j (by omega))).1.num w, fun j hj w => run_exact .mul rfl 31 _ _ (logQ_step hu hj (hq j (by omega))).2.1.num w, fun j hj w => run_exact .add rfl 31 _ _ (logQ_step hu hj (hq j (by omega))).2.2.num w,
    fun w => run_exact .mul rfl 31 _ _ ha.num w, fun w => run_exact .mul rfl 31 _ _ hb.num w, fun w => run_exact .mul rfl 31 _ _ hc.num w, fun w => run_exact .add rfl 31 _ _ hv.num w, hv⟩
def bitsV : Value → Nat | .float _ b => b | _ => 0
theorem wrap_mid {n : Int} (h1 : -1000 ≤ n) (h2 : n ≤ 1000) : IntKind.i64.wrap n = n := by
  simp [IntKind.wrap, IntKind.bits, IntKind.signed]; omega

set_option maxRecDepth 8000 in
set_option maxHeartbeats 2000000 in
theorem impl_log (b : Nat) (h1 : 3936146074321813504 ≤ b) (h2 : b < 5183643171103440896) (w : World) :
    Calls Try.prog 87 #[.float .f64 b] w fun e w' => ∃ x E, LogAt b x E ∧ e = .returned (.float .f64 (logV x E)) ∧ w = w' := by
  have H1 := Lib.hid h1
  have H2 := Lib.hid h2
  clear h1 h2
  go_enter Try.func87, Try.ntmps87
  go_wp2
  go_loopw [0, 3] (fun xv ev wr => ∃ x n : Nat, xv = .float .f64 x ∧ ev = .float .f64 (floatOfInt .f64 (n : Int)) ∧ Hid (x + n * 4503599627370496 = b ∧ (n = 0 ∨ 4604930618986332160 ≤ x)) ∧ wr = w) (fun xv _ _ => bitsV xv)
  case atStart => exact ⟨b, 0, rfl, by first | rfl | (simp; decide +kernel), Lib.hid ⟨by omega, .inl rfl⟩, rfl⟩
  case round =>
    obtain ⟨x, n, rfl, rfl, hst, hw0⟩ := hrel
    obtain rfl : w = wr := hw0.symm
    have hb1 := H1.out
    have hb2 := H2.out
    obtain ⟨hs1, hs2⟩ := hst.out
    have hxs : x < 2047 * 2 ^ 52 := by omega
    have hge := ge_bits hxs (b := 4609434218613702656) (by decide)
    unfold geD at hge
    by_cases hc : 4609434218613702656 ≤ x
    · rw [decide_eq_true hc] at hge
      obtain ⟨y, hy⟩ : ∃ y, x = y + 2 ^ 52 := ⟨x - 2 ^ 52, by omega⟩
      have hq : ∀ w : World, (binOp .quo 31 (.float .f64 x) (.float .f64 4611686018427387904)).run Try.prog w = .ok (.float .f64 y) w := fun w => by
        have e := half_bits hy (by omega) hxs
        have k := run_exact .quo rfl 31 x 4611686018427387904 (by show isN .f64 (fdiv .f64 x 4611686018427387904) = false; rw [e]; exact num_small (by omega)) w
        simp only [fbin, e] at k
        exact k
      have hn300 : n < 300 := by omega
      have hup : ∀ w : World, (binOp .add 31 (.float .f64 (floatOfInt .f64 (n : Int))) (.float .f64 4607182418800017408)).run Try.prog w = .ok (.float .f64 (floatOfInt .f64 ((n : Int) + 1))) w := fun w => by
        have e := int_up n hn300
        have k := run_exact .add rfl 31 (floatOfInt .f64 (n : Int)) 4607182418800017408 (((int_bd n hn300).1.add (one_bd.mono (by omega)) (by omega)).num) w
        simp only [fbin, e] at k
        exact k
      have hnew : Hid (y + (n + 1) * 4503599627370496 = b ∧ (n + 1 = 0 ∨ 4604930618986332160 ≤ y)) := Lib.hid (by omega)
      have hlt : Hid (y < x) := Lib.hid (by omega)
      clear hb1 hb2 hs1 hs2 hxs hc hy
      go_wp2
      go_roundw
      case rel => exact ⟨y, n + 1, rfl, by first | rfl | simp, hnew, by first | trivial | rfl⟩
      case measure => exact hlt.out
    · rw [decide_eq_false hc] at hge
      have hst2 : Hid ((x : Int) + (n : Int) * 4503599627370496 = (b : Int) ∧ x < 4609434218613702656 ∧ (4604930618986332160 ≤ x ∨ (n : Int) ≤ 0) ∧ (n : Int) < 300 ∧ -300 < (n : Int)) := Lib.hid (by omega)
      clear hb1 hb2 hs1 hs2 hxs hc hst
      go_wp2
      go_loopw [0, 3] (fun xv ev wr => ∃ (x : Nat) (E : Int), xv = .float .f64 x ∧ ev = .float .f64 (floatOfInt .f64 E) ∧ Hid ((x : Int) + E * 4503599627370496 = (b : Int) ∧ x < 4609434218613702656 ∧ (4604930618986332160 ≤ x ∨ E ≤ 0) ∧ E < 300 ∧ -300 < E) ∧ wr = w) (fun xv _ _ => 9214364837600034816 - bitsV xv)
      case atStart => exact ⟨x, n, rfl, rfl, hst2, rfl⟩
      case round =>
        clear hge hst2
        obtain ⟨x, E, rfl, rfl, hst, hw0⟩ := hrel
        obtain rfl : w = wr := hw0.symm
        have hb1 := H1.out
        have hb2 := H2.out
        obtain ⟨hs1, hs2, hs3, hs4, hs5⟩ := hst.out
        have hxs : x < 2047 * 2 ^ 52 := by omega
        have hlt := lt_bits hxs (b := 4604930618986332160) (by decide)
        by_cases hc : x < 4604930618986332160
        · rw [decide_eq_true hc] at hlt
          obtain ⟨k, hk⟩ : ∃ k : Nat, E = -(k : Int) := ⟨(-E).toNat, by omega⟩
          subst hk
          have hx0 : 2 ^ 52 ≤ x := by omega
          obtain ⟨y, hy⟩ : ∃ y, y = x + 2 ^ 52 := ⟨_, rfl⟩
          have hq : ∀ w : World, (binOp .mul 31 (.float .f64 x) (.float .f64 4611686018427387904)).run Try.prog w = .ok (.float .f64 y) w := fun w => by
            have e := twice_bits hx0 (by omega : x < 2046 * 2 ^ 52)
            rw [← hy] at e
            have k := run_exact .mul rfl 31 x 4611686018427387904 (by show isN .f64 (fmul .f64 x 4611686018427387904) = false; rw [e]; exact num_small (by omega)) w
            simp only [fbin, e] at k
            exact k
          have hk300 : k < 300 := by omega
          have hdn : ∀ w : World, (binOp .sub 31 (.float .f64 (floatOfInt .f64 (-(k : Int)))) (.float .f64 4607182418800017408)).run Try.prog w = .ok (.float .f64 (floatOfInt .f64 (-(k : Int) - 1))) w := fun w => by
            have e := int_down k hk300
            have k := run_exact .sub rfl 31 (floatOfInt .f64 (-(k : Int))) 4607182418800017408 (((int_bd k hk300).2.sub (one_bd.mono (by omega)) (by omega)).num) w
            simp only [fbin, e] at k
            exact k
          have hnew : Hid ((y : Int) + (-(k : Int) - 1) * 4503599627370496 = (b : Int) ∧ y < 4609434218613702656 ∧ (4604930618986332160 ≤ y ∨ -(k : Int) - 1 ≤ 0) ∧ -(k : Int) - 1 < 300 ∧ -300 < -(k : Int) - 1) := Lib.hid (by omega)
          have hmeas : Hid (9214364837600034816 - y < 9214364837600034816 - x) := Lib.hid (by omega)
          clear hb1 hb2 hs1 hs2 hs3 hs4 hs5 hxs hc hy hx0 hst
          go_wp2
          go_roundw
          case rel => exact ⟨y, -(k : Int) - 1, rfl, by first | rfl | simp, hnew, by first | trivial | rfl⟩
          case measure => exact hmeas.out
        · rw [decide_eq_false hc] at hlt
          have hat : LogAt b x E := ⟨by omega, hs2, hs1⟩
          have HAT := Lib.hid hat
          have TO := Lib.hid (LogTold.of hat.lo hat.hi (hat.small hb1 hb2))
          have r1 := TO.out.sub
          have r2 := TO.out.add
          have r3 := TO.out.div
          have r4 := TO.out.u
          have r5 := TO.out.a
          have r6 := TO.out.b
          have r7 := TO.out.c
          have r8 := TO.out.v
          have R5 := Lib.hid TO.out.q
          have R6 := Lib.hid TO.out.m
          have R7 := Lib.hid TO.out.s
          have hV : Hid (logV x E = logV x E) := Lib.hid rfl
          generalize hgv : logV x E = v at r8
          have HGV := Lib.hid hgv
          clear hgv hV hb1 hb2 hs1 hs2 hs3 hs4 hs5 hxs hc hst hat TO
          generalize logB x = lb at *
          generalize logC E = lc at *
          generalize logA x = la at *
          generalize logU x = uu at *
          generalize logS x = ss at *
          generalize fsub .f64 x 4607182418800017408 = xm at *
          generalize fadd .f64 x 4607182418800017408 = xp at *
          generalize floatOfInt .f64 E = fe at *
          go_wp2
          go_loopw [6, 7] (fun pv i wr => ∃ j : Nat, j ≤ 13 ∧ i = .int .i64 (25 - 2 * (j : Int)) ∧ pv = .float .f64 (logQ uu j) ∧ wr = w) (fun _ i _ => (intOf i + 1).toNat)
          case atStart => exact ⟨0, by omega, rfl, rfl, rfl⟩
          case round =>
            obtain ⟨j, hj, rfl, rfl, hw0⟩ := hrel
            obtain rfl : w = wr := hw0.symm
            by_cases hj13 : j < 13
            · have k4 := int25 j hj13
              have hge : (1 : Int) ≤ 25 - 2 * (j : Int) := by omega
              have q5 := R5.out j hj13
              have q6 := R6.out j hj13
              have q7 := R7.out j hj13
              generalize hpn : logQ uu (j + 1) = pn at q7
              have HPN := Lib.hid hpn
              clear hpn
              generalize fdiv .f64 4607182418800017408 (floatOfInt .f64 (25 - 2 * (j : Int))) = dv at q5 q7
              generalize fmul .f64 uu (logQ uu j) = mv at q6 q7
              generalize logQ uu j = pj at q6 ⊢
              go_wp2
              go_roundw
              case rel => exact ⟨j + 1, by omega, by first | rfl | (simp; omega) | go_num, by rw [HPN.out], by first | trivial | rfl⟩
              case measure => simp [intOf]; omega
            · have hj8 : j = 13 := by omega
              subst hj8
              clear hj13 hj
              go_wp2
              go_ret
              exact ⟨x, E, HAT.out, ret_f HGV.out.symm, rfl⟩

set_option maxRecDepth 8000 in
set_option maxHeartbeats 2000000 in
theorem spec_log (b : Nat) (h1 : 3936146074321813504 ≤ b) (h2 : b < 5183643171103440896) (w : World) :
    Calls Try.prog 84 #[.float .f64 b] w fun e w' => ∃ x E, LogAt b x E ∧ e = .returned (.float .f64 (logV x E)) ∧ w = w' := by
  have H1 := Lib.hid h1
  have H2 := Lib.hid h2
  have hbs : b < 2047 * 2 ^ 52 := by omega
  have hself : (FloatKind.f64.format.order b b != some .eq) = false := by rw [order_self]; exact num_small hbs
  have hlt0 : (FloatKind.f64.format.order b 0 == some .lt) = false := by rw [lt_bits hbs (by decide)]; simp
  have heq0 : (FloatKind.f64.format.order b 0 == some .eq) = false := by
    rw [eql_zero64 (num_small hbs), (rung_small hbs).1, decide_eq_false_iff_not]; omega
  have hinf : (FloatKind.f64.format.order b 9218868437227405311 == some .gt) = false := by
    have k := lt_bits (a := 9218868437227405311) (by decide) hbs
    rw [gtr_num (num_small hbs) (num_small (by decide))]
    show decide (sval Ieee.double 9218868437227405311 < sval Ieee.double b) = false
    rw [val_small hbs, val_small (by decide), decide_eq_false_iff_not]
    intro h
    have := lt_of_magB_lt _ (binade_pos Ieee.double) (Int.ofNat_lt.1 h)
    omega
  have hISI : Hid (∀ w : World, Calls Try.prog 92 #[.float .f64 b, .int .i64 1] w fun e w' => e = .returned (.bool false) ∧ w = w') := Lib.hid (fun w => by
    clear hself hlt0 heq0 hbs h1 h2 H1 H2
    go_enter Try.func92, Try.ntmps92
    go_wp2
    go_ret
    exact ⟨rfl, rfl⟩)
  clear hbs hinf
  clear h1 h2
  go_enter Try.func84, Try.ntmps84
  go_wp2_with (first | (go_at_call 92; refine (hISI.out _).mono ?_; rintro e w' ⟨rfl, rfl⟩))
  go_loopw [0, 3] (fun xv ev wr => ∃ x n : Nat, xv = .float .f64 x ∧ ev = .int .i64 (n : Int) ∧ Hid (x + n * 4503599627370496 = b ∧ (n = 0 ∨ 4604930618986332160 ≤ x)) ∧ wr = w) (fun xv _ _ => bitsV xv)
  case atStart => exact ⟨b, 0, rfl, rfl, Lib.hid ⟨by omega, .inl rfl⟩, rfl⟩
  case round =>
    obtain ⟨x, n, rfl, rfl, hst, hw0⟩ := hrel
    obtain rfl : w = wr := hw0.symm
    have hb1 := H1.out
    have hb2 := H2.out
    obtain ⟨hs1, hs2⟩ := hst.out
    have hxs : x < 2047 * 2 ^ 52 := by omega
    have hge := ge_bits hxs (b := 4609434218613702656) (by decide)
    unfold geD at hge
    by_cases hc : 4609434218613702656 ≤ x
    · rw [decide_eq_true hc] at hge
      obtain ⟨y, hy⟩ : ∃ y, x = y + 2 ^ 52 := ⟨x - 2 ^ 52, by omega⟩
      have hq : ∀ w : World, (binOp .quo 31 (.float .f64 x) (.float .f64 4611686018427387904)).run Try.prog w = .ok (.float .f64 y) w := fun w => by
        have e := half_bits hy (by omega) hxs
        have k := run_exact .quo rfl 31 x 4611686018427387904 (by show isN .f64 (fdiv .f64 x 4611686018427387904) = false; rw [e]; exact num_small (by omega)) w
        simp only [fbin, e] at k
        exact k
      have hwr : IntKind.i64.wrap ((n : Int) + 1) = (n : Int) + 1 := wrap_mid (by omega) (by omega)
      have hnew : Hid (y + (n + 1) * 4503599627370496 = b ∧ (n + 1 = 0 ∨ 4604930618986332160 ≤ y)) := Lib.hid (by omega)
      have hlt : Hid (y < x) := Lib.hid (by omega)
      clear hb1 hb2 hs1 hs2 hxs hc hy
      go_wp2
      go_roundw
      case rel => exact ⟨y, n + 1, rfl, by first | rfl | simp | go_num, hnew, by first | trivial | rfl⟩
      case measure => exact hlt.out
    · rw [decide_eq_false hc] at hge
      have hst2 : Hid ((x : Int) + (n : Int) * 4503599627370496 = (b : Int) ∧ x < 4609434218613702656 ∧ (4604930618986332160 ≤ x ∨ (n : Int) ≤ 0) ∧ (n : Int) < 300 ∧ -300 < (n : Int)) := Lib.hid (by omega)
      clear hb1 hb2 hs1 hs2 hxs hc hst
      go_wp2
      go_loopw [0, 3] (fun xv ev wr => ∃ (x : Nat) (E : Int), xv = .float .f64 x ∧ ev = .int .i64 E ∧ Hid ((x : Int) + E * 4503599627370496 = (b : Int) ∧ x < 4609434218613702656 ∧ (4604930618986332160 ≤ x ∨ E ≤ 0) ∧ E < 300 ∧ -300 < E) ∧ wr = w) (fun xv _ _ => 9214364837600034816 - bitsV xv)
      case atStart => exact ⟨x, n, rfl, rfl, hst2, rfl⟩
      case round =>
        clear hge hst2
        obtain ⟨x, E, rfl, rfl, hst, hw0⟩ := hrel
        obtain rfl : w = wr := hw0.symm
        have hb1 := H1.out
        have hb2 := H2.out
        obtain ⟨hs1, hs2, hs3, hs4, hs5⟩ := hst.out
        have hxs : x < 2047 * 2 ^ 52 := by omega
        have hlt := lt_bits hxs (b := 4604930618986332160) (by decide)
        by_cases hc : x < 4604930618986332160
        · rw [decide_eq_true hc] at hlt
          obtain ⟨k, hk⟩ : ∃ k : Nat, E = -(k : Int) := ⟨(-E).toNat, by omega⟩
          subst hk
          have hx0 : 2 ^ 52 ≤ x := by omega
          obtain ⟨y, hy⟩ : ∃ y, y = x + 2 ^ 52 := ⟨_, rfl⟩
          have hq : ∀ w : World, (binOp .mul 31 (.float .f64 x) (.float .f64 4611686018427387904)).run Try.prog w = .ok (.float .f64 y) w := fun w => by
            have e := twice_bits hx0 (by omega : x < 2046 * 2 ^ 52)
            rw [← hy] at e
            have k := run_exact .mul rfl 31 x 4611686018427387904 (by show isN .f64 (fmul .f64 x 4611686018427387904) = false; rw [e]; exact num_small (by omega)) w
            simp only [fbin, e] at k
            exact k
          have hwr : IntKind.i64.wrap (-(k : Int) - 1) = -(k : Int) - 1 := wrap_mid (by omega) (by omega)
          have hnew : Hid ((y : Int) + (-(k : Int) - 1) * 4503599627370496 = (b : Int) ∧ y < 4609434218613702656 ∧ (4604930618986332160 ≤ y ∨ -(k : Int) - 1 ≤ 0) ∧ -(k : Int) - 1 < 300 ∧ -300 < -(k : Int) - 1) := Lib.hid (by omega)
          have hmeas : Hid (9214364837600034816 - y < 9214364837600034816 - x) := Lib.hid (by omega)
          clear hb1 hb2 hs1 hs2 hs3 hs4 hs5 hxs hc hy hx0 hst
          go_wp2
          go_roundw
          case rel => exact ⟨y, -(k : Int) - 1, rfl, rfl, hnew, by first | trivial | rfl⟩
          case measure => exact hmeas.out
        · rw [decide_eq_false hc] at hlt
          have hat : LogAt b x E := ⟨by omega, hs2, hs1⟩
          have HAT := Lib.hid hat
          have TO := Lib.hid (LogTold.of hat.lo hat.hi (hat.small hb1 hb2))
          have r1 := TO.out.sub
          have r2 := TO.out.add
          have r3 := TO.out.div
          have r4 := TO.out.u
          have r5 := TO.out.a
          have r6 := TO.out.b
          have r7 := TO.out.c
          have r8 := TO.out.v
          have R5 := Lib.hid TO.out.q
          have R6 := Lib.hid TO.out.m
          have R7 := Lib.hid TO.out.s
          have hV : Hid (logV x E = logV x E) := Lib.hid rfl
          generalize hgv : logV x E = v at r8
          have HGV := Lib.hid hgv
          clear hgv hV hb1 hb2 hs1 hs2 hs3 hs4 hs5 hxs hc hst hat TO
          generalize logB x = lb at *
          generalize logC E = lc at *
          generalize logA x = la at *
          generalize logU x = uu at *
          generalize logS x = ss at *
          generalize fsub .f64 x 4607182418800017408 = xm at *
          generalize fadd .f64 x 4607182418800017408 = xp at *
          go_wp2
          go_loopw [6, 7] (fun pv i wr => ∃ j : Nat, j ≤ 13 ∧ i = .int .i64 (25 - 2 * (j : Int)) ∧ pv = .float .f64 (logQ uu j) ∧ wr = w) (fun _ i _ => (intOf i + 1).toNat)
          case atStart => exact ⟨0, by omega, rfl, rfl, rfl⟩
          case round =>
            obtain ⟨j, hj, rfl, rfl, hw0⟩ := hrel
            obtain rfl : w = wr := hw0.symm
            by_cases hj13 : j < 13
            · have k4 := int25 j hj13
              have hge : (1 : Int) ≤ 25 - 2 * (j : Int) := by omega
              have q5 := R5.out j hj13
              have q6 := R6.out j hj13
              have q7 := R7.out j hj13
              generalize hpn : logQ uu (j + 1) = pn at q7
              have HPN := Lib.hid hpn
              clear hpn
              generalize fdiv .f64 4607182418800017408 (floatOfInt .f64 (25 - 2 * (j : Int))) = dv at q5 q7
              generalize fmul .f64 uu (logQ uu j) = mv at q6 q7
              generalize logQ uu j = pj at q6 ⊢
              go_wp2
              go_roundw
              case rel => exact ⟨j + 1, by omega, by first | rfl | (simp; omega) | go_num, by rw [HPN.out], by first | trivial | rfl⟩
              case measure => simp [intOf]; omega
            · have hj8 : j = 13 := by omega
              subst hj8
              clear hj13 hj
              go_wp2
              go_ret
              exact ⟨x, E, HAT.out, ret_f HGV.out.symm, rfl⟩

/-! ### Floors. -/
def floorV (v : Nat) : Nat := Ieee.double.write ((Ieee.double.read v).integral .down)
theorem down_cut (s : Bool) (n d : Nat) : Ieee.Toward.down.cut s n d ≤ Ieee.Toward.zero.cut s n d + 1 := by
  unfold Ieee.Toward.cut
  dsimp only
  have h : ∀ b : Bool, b.toNat ≤ 1 := by intro b; cases b <;> decide
  have := h (s && n % (1 <<< min d (n.log2 + 2)) != 0)
  simp only [Bool.toNat_false, Nat.add_zero]
  omega
theorem floor_read {v : Nat} (h : rung Ieee.double v < Ieee.double.infRung) : ∃ T, (Ieee.double.read v).integral .down = .number (sgn Ieee.double v) T 0 ∧ T ≤ whole v + 1 := by
  obtain ⟨m, e, h1, _⟩ := read_fin Ieee.double v h
  have h2 := integral_fin h
  rw [h1] at h2 ⊢
  unfold Ieee.Datum.integral at h2 ⊢
  dsimp only at h2 ⊢
  have h3 := (Ieee.Datum.number.injEq _ _ _ _ _ _).mp h2
  refine ⟨_, rfl, ?_⟩
  have h4 := h3.2.1
  rw [← h4]
  exact down_cut _ _ _
theorem whole_small {a x : Nat} (h : Bd a x) (ha : a ≤ 50) : whole x < 2 ^ 52 := by
  unfold whole
  refine (Nat.div_lt_iff_lt_mul (Nat.two_pow_pos _)).2 ?_
  have h1 := h.le
  have h2 : (2 : Nat) ^ (1074 + a) < 2 ^ 52 * 2 ^ 1074 := by
    rw [← Nat.pow_add]
    exact Nat.pow_lt_pow_right (by omega) (by omega)
  exact Nat.lt_of_le_of_lt h1 h2
theorem floor_int {v : Nat} (h : Bd 50 v) : ∃ n, floatToIntVal .f64 (floorV v) .i64 = some n := by
  have hM := Ieee.double.infRung_lt
  obtain ⟨T, h1, h2⟩ := floor_read h.fin
  have hw := whole_small h (Nat.le_refl _)
  have hT : T < 2 ^ 53 := by omega
  obtain ⟨c, c1, c2, c3, _⟩ := write_whole (sgn Ieee.double v) T hT
  have hr : rung Ieee.double (Ieee.double.word (sgn Ieee.double v) c) = c := rung_word _ _ _ (by omega)
  have e : floorV v = Ieee.double.word (sgn Ieee.double v) c := by unfold floorV; rw [h1, c3]
  rw [e]
  have hi := integral_fin (x := Ieee.double.word (sgn Ieee.double v) c) (by rw [hr]; exact c1)
  have hwh : whole (Ieee.double.word (sgn Ieee.double v) c) = T := by
    unfold whole
    rw [hr, c2, Nat.mul_div_cancel _ (Nat.two_pow_pos _)]
  rw [hwh] at hi
  refine ⟨Ieee.signed (sgn Ieee.double (Ieee.double.word (sgn Ieee.double v) c)) T 0, ?_⟩
  unfold floatToIntVal Ieee.Datum.toInt
  have e2 : (FloatKind.f64.decode (Ieee.double.word (sgn Ieee.double v) c)).integral .zero = .number (sgn Ieee.double (Ieee.double.word (sgn Ieee.double v) c)) T 0 := hi
  rw [e2]
  generalize sgn Ieee.double (Ieee.double.word (sgn Ieee.double v) c) = s
  show (if IntKind.i64.min ≤ Ieee.signed s T 0 ∧ Ieee.signed s T 0 ≤ IntKind.i64.max then some (Ieee.signed s T 0) else none) = some (Ieee.signed s T 0)
  have hmin : IntKind.i64.min = -9223372036854775808 := by decide
  have hmax : IntKind.i64.max = 9223372036854775807 := by decide
  rw [hmin, hmax, if_pos (by rw [signed0]; split <;> omega)]

theorem run_floor (x : Nat) (h : rung Ieee.double x < Ieee.double.infRung) (w : World) : (Extern.MathFloor.toIntegral "math.archFloor" .down #[.float .f64 x]).run Try.prog w = .ok (.float .f64 (floorV x)) w := by
  obtain ⟨m, e, h1, _⟩ := read_fin Ieee.double x h
  have e1 : Extern.MathFloor.toIntegral "math.archFloor" .down #[.float .f64 x] = (match FloatKind.f64.decode x with
    | .nan s t =>
      if FloatKind.f64.format.quiet t = t then pure (.float .f64 x) else do
      let kept ← choose (.extern "math.Floor,Ceil,Trunc,RoundToEven.signallingNaN kept" 2)
      pure (.float .f64 (if kept == 1 then x else FloatKind.f64.encode (.nan s (FloatKind.f64.format.quiet t))))
    | d => pure (.float .f64 (FloatKind.f64.encode (d.integral .down)))) := rfl
  have e2 : FloatKind.f64.decode x = .number (sgn Ieee.double x) m (Ieee.double.leastPlace + (e : Int)) := h1
  rw [e1, e2]
  unfold floorV
  rw [h1]
  rfl
theorem ext_floor (x : Nat) (h : rung Ieee.double x < Ieee.double.infRung) (w : World) : (callFunc 85 #[.float .f64 x]).run Try.prog w = .ok (.value (.float .f64 (floorV x))) w := by
  rw [run_callFunc_extern (e := Extern.MathFloor.toIntegral "math.archFloor" .down) Try.func85 (by kernel_rfl) (by kernel_rfl) (by kernel_rfl) (by kernel_rfl), run_floor x h]; rfl
set_option maxRecDepth 8000 in
theorem math_Floor (x : Nat) (h : rung Ieee.double x < Ieee.double.infRung) (w : World) :
    Calls Try.prog 53 #[.float .f64 x] w fun e w' => e = .returned (.float .f64 (floorV x)) ∧ w = w' := by
  have hx := ext_floor x h w
  obtain ⟨r, hr⟩ : ∃ r, r = floorV x := ⟨_, rfl⟩
  rw [← hr] at hx ⊢
  clear h hr
  go_enter Try.func53, Try.ntmps53
  go_wp2
  go_ret
  exact ⟨rfl, rfl⟩

/-! ### Positive numbers, widened. -/
theorem pos_wid {p : Nat} (hf : finB .f32 p = true) (hp : (FloatKind.f32.format.order p 0 == some .lt || FloatKind.f32.format.order p 0 == some .eq) = false) : 3936146074321813504 ≤ fwid p ∧ fwid p < 5183643171103440896 := by
  have hn := fin_num hf
  have hx : rung Ieee.single p < Ieee.single.infRung := by unfold finB at hf; exact of_decide_eq_true hf
  rw [lss_num hn (zero_num .f32), eql_num hn (zero_num .f32), zero_sval, ← Bool.decide_or, decide_eq_false_iff_not] at hp
  have hs : sgn Ieee.single p = false := by
    cases h : sgn Ieee.single p with
    | false => rfl
    | true =>
      exfalso
      apply hp
      have hv : sval FloatKind.f32.format p = -(mag Ieee.single (rung Ieee.single p) : Int) := by
        show sval Ieee.single p = _
        rw [sval_eq, h]; rfl
      omega
  have hv : sval FloatKind.f32.format p = (mag Ieee.single (rung Ieee.single p) : Int) := by
    show sval Ieee.single p = _
    rw [sval_eq, hs]; rfl
  rw [hv] at hp
  have hm : 1 ≤ mag Ieee.single (rung Ieee.single p) := by omega
  have hm2 : mag Ieee.single (rung Ieee.single p) < 2 ^ 277 := by
    have h1 := magB_lt _ (binade_pos Ieee.single) hx
    have h2 : mag Ieee.single Ieee.single.infRung = 2 ^ 277 := by
      have h := magB_comb (2 ^ 23) 254 (2 ^ 23) (Nat.two_pow_pos _) (by omega) (.inr (Nat.le_refl _))
      rw [show (2 : Nat) ^ 277 = 2 ^ 23 * 2 ^ 254 from (Nat.pow_add 2 23 254).symm ▸ rfl, ← h]
      exact congrArg (mag Ieee.single) (by decide)
    rw [← h2]; exact h1
  obtain ⟨c, c1, c2, c3⟩ := wid_fin hx
  rw [c2, hs]
  show 3936146074321813504 ≤ c ∧ c < 5183643171103440896
  have l1 : mag Ieee.double ((873 + 1) * 2 ^ 52) = 2 ^ 925 := mag_pow64 873
  have l2 : mag Ieee.double ((1150 + 1) * 2 ^ 52) = 2 ^ 1202 := mag_pow64 1150
  constructor
  · refine le_of_magB_le _ (binade_pos Ieee.double) (r := (873 + 1) * 2 ^ 52) ?_
    show mag Ieee.double ((873 + 1) * 2 ^ 52) ≤ mag Ieee.double c
    rw [l1, c3]
    exact Nat.le_mul_of_pos_left _ hm
  · refine lt_of_magB_lt _ (binade_pos Ieee.double) (s := (1150 + 1) * 2 ^ 52) ?_
    show mag Ieee.double c < mag Ieee.double ((1150 + 1) * 2 ^ 52)
    rw [l2, c3, show (2 : Nat) ^ 1202 = 2 ^ 277 * 2 ^ 925 from by rw [← Nat.pow_add]]
    exact (Nat.mul_lt_mul_right (Nat.two_pow_pos 925)).2 hm2

theorem tenV_bd {v : Nat} (h : Bd 43 v) : Bd 49 (fmul .f64 v 4631308968768463603) ∧ Bd 50 (tenV v) := by
  have c : Bd 6 4631308968768463603 := ⟨by decide +kernel, by decide +kernel⟩
  have h1 := h.mul c (by omega)
  exact ⟨h1, h1.add (half_bd.mono (by omega)) (by omega)⟩

/-- What TenthsOf answers for a number greater than 0. -/
def TenIs (p : Nat) (n : Int) : Prop := ∃ x E, LogAt (fwid p) x E ∧ floatToIntVal .f64 (floorV (tenV (logV x E))) .i64 = some n
theorem TenIs.same {p : Nat} {n m : Int} (h : TenIs p n) (g : TenIs p m) : n = m := by
  obtain ⟨x, E, h1, h2⟩ := h
  obtain ⟨x', E', g1, g2⟩ := g
  obtain ⟨rfl, rfl⟩ := h1.same g1
  rw [h2] at g2
  exact Option.some.inj g2

set_option maxHeartbeats 1000000 in
theorem impl_TenthsOf_yes (p : Nat) (hf : finB .f32 p = true) (hp : (FloatKind.f32.format.order p 0 == some .lt || FloatKind.f32.format.order p 0 == some .eq) = false) (w : World) :
    Calls Try.prog 21 #[.float .f32 p] w fun e w' => ∃ n k, TenIs p n ∧ e = .returned (.tuple #[.int .i64 n, .bool true]) ∧ w' = w.drewN k := by
  obtain ⟨b1, b2⟩ := pos_wid hf hp
  obtain ⟨lx, gx, cx⟩ := conv_widen_fin p hf w
  have HL := Lib.hid (impl_log (fwid p) b1 b2)
  have HB1 := Lib.hid b1
  have HB2 := Lib.hid b2
  have HF := Lib.hid hf
  clear b1 b2 lx hf
  go_enter Try.func21, Try.ntmps21
  go_wp2_with fail
  refine (impl_IsFinite p _).mono ?_
  rintro e w' ⟨n0, rfl, rfl⟩
  rw [HF.out]
  go_wp2_with (first | (go_at_call 54; go_in) | (go_at_call 87; refine (HL.out _).mono ?_; rintro e w1 ⟨x, E, hat, rfl, rfl⟩; have HAT := Lib.hid hat; have HTO := Lib.hid (LogTold.of hat.lo hat.hi (hat.small HB1.out HB2.out)); have r1 := fun w => run_exact .mul rfl 31 (logV x E) 4631308968768463603 (tenV_bd HTO.out.bd).1.num w; have r2 := fun w => run_exact .add rfl 31 (fmul .f64 (logV x E) 4631308968768463603) 4602678819172646912 (tenV_bd HTO.out.bd).2.num w; have HFL := Lib.hid (fun w => math_Floor (tenV (logV x E)) (tenV_bd HTO.out.bd).2.fin w); obtain ⟨n, hn⟩ := floor_int (tenV_bd HTO.out.bd).2; have r3 := fun w : World => run_convert_float_int (P := Try.prog) w 31 2 .f64 .i64 (floorV (tenV (logV x E))) n (by rw [Try.underlying31]; rfl) Try.underlying2 hn; have HN : Hid (TenIs p n) := Lib.hid ⟨x, E, hat, hn⟩; clear hat hn HTO; simp only [fbin] at r1 r2; have htv : fadd .f64 (fmul .f64 (logV x E) 4631308968768463603) 4602678819172646912 = tenV (logV x E) := rfl; rw [htv] at r2; clear htv; generalize floorV (tenV (logV x E)) = fv at *; generalize tenV (logV x E) = tv at *; generalize fmul .f64 (logV x E) 4631308968768463603 = mv at *; generalize logV x E = lv at *) | (go_at_call 53; refine (HFL.out _).mono ?_; rintro e w' ⟨rfl, rfl⟩))
  go_ret2
  exact ⟨_, _, HN.out, rfl, rfl⟩

set_option maxHeartbeats 1000000 in
theorem spec_l01Tenths (p : Nat) (hf : finB .f32 p = true) (hp : (FloatKind.f32.format.order p 0 == some .lt || FloatKind.f32.format.order p 0 == some .eq) = false) (w : World) :
    Calls Try.prog 52 #[.float .f32 p] w fun e w' => ∃ n k, TenIs p n ∧ e = .returned (.int .i64 n) ∧ w' = w.drewN k := by
  obtain ⟨b1, b2⟩ := pos_wid hf hp
  obtain ⟨lx, gx, cx⟩ := conv_widen_fin p hf w
  have HL := Lib.hid (spec_log (fwid p) b1 b2)
  have HB1 := Lib.hid b1
  have HB2 := Lib.hid b2
  clear b1 b2 lx hf hp
  go_enter Try.func52, Try.ntmps52
  go_wp2_with fail
  refine (HL.out _).mono ?_
  rintro e w1 ⟨x, E, hat, rfl, rfl⟩
  have HTO := Lib.hid (LogTold.of hat.lo hat.hi (hat.small HB1.out HB2.out))
  have r1 := fun w => run_exact .mul rfl 31 (logV x E) 4631308968768463603 (tenV_bd HTO.out.bd).1.num w
  have r2 := fun w => run_exact .add rfl 31 (fmul .f64 (logV x E) 4631308968768463603) 4602678819172646912 (tenV_bd HTO.out.bd).2.num w
  have HFL := Lib.hid (fun w => math_Floor (tenV (logV x E)) (tenV_bd HTO.out.bd).2.fin w)
  obtain ⟨n, hn⟩ := floor_int (tenV_bd HTO.out.bd).2
  have r3 := fun w : World => run_convert_float_int (P := Try.prog) w 31 2 .f64 .i64 (floorV (tenV (logV x E))) n (by rw [Try.underlying31]; rfl) Try.underlying2 hn
  have HN : Hid (TenIs p n) := Lib.hid ⟨x, E, hat, hn⟩
  clear hat hn HTO
  simp only [fbin] at r1 r2
  have htv : fadd .f64 (fmul .f64 (logV x E) 4631308968768463603) 4602678819172646912 = tenV (logV x E) := rfl
  rw [htv] at r2
  clear htv
  generalize floorV (tenV (logV x E)) = fv at *
  generalize tenV (logV x E) = tv at *
  generalize fmul .f64 (logV x E) 4631308968768463603 = mv at *
  generalize logV x E = lv at *
  go_wp2_with fail
  refine (HFL.out _).mono ?_
  rintro e w' ⟨rfl, rfl⟩
  go_wp2
  go_ret
  exact ⟨_, _, HN.out, rfl, rfl⟩

theorem impl_TenthsOf_no (p : Nat) (h : finB .f32 p = false ∨ finB .f32 p = true ∧ (FloatKind.f32.format.order p 0 == some .lt || FloatKind.f32.format.order p 0 == some .eq) = true) (w : World) :
    Calls Try.prog 21 #[.float .f32 p] w fun e w' => ∃ k, e = .returned (.tuple #[.int .i64 0, .bool false]) ∧ w' = w.drewN k := by
  rcases h with h | ⟨h, hp⟩
  · have HF := Lib.hid h
    clear h
    go_enter Try.func21, Try.ntmps21
    go_wp2_with fail
    refine (impl_IsFinite p _).mono ?_
    rintro e w' ⟨n0, rfl, rfl⟩
    rw [HF.out]
    go_wp2
    go_ret2
    exact ⟨_, rfl, rfl⟩
  · have HF := Lib.hid h
    clear h
    go_enter Try.func21, Try.ntmps21
    go_wp2_with fail
    refine (impl_IsFinite p _).mono ?_
    rintro e w' ⟨n0, rfl, rfl⟩
    rw [HF.out]
    go_wp2
    go_ret2
    exact ⟨_, rfl, rfl⟩
theorem spec_TenthsOf_no (p : Nat) (h : finB .f32 p = false ∨ finB .f32 p = true ∧ (FloatKind.f32.format.order p 0 == some .lt || FloatKind.f32.format.order p 0 == some .eq) = true) (w : World) :
    Calls Try.prog 20 #[.float .f32 p] w fun e w' => ∃ k, e = .returned (.tuple #[.int .i64 0, .bool false]) ∧ w' = w.drewN k := by
  rcases h with h | ⟨h, hp⟩
  · have HF := Lib.hid h
    clear h
    go_enter Try.func20, Try.ntmps20
    go_wp2_with fail
    refine (spec_l01Finite p _).mono ?_
    rintro e w' ⟨n0, rfl, rfl⟩
    rw [HF.out]
    go_wp2
    go_ret2
    exact ⟨_, rfl, rfl⟩
  · have HF := Lib.hid h
    clear h
    go_enter Try.func20, Try.ntmps20
    go_wp2_with fail
    refine (spec_l01Finite p _).mono ?_
    rintro e w' ⟨n0, rfl, rfl⟩
    rw [HF.out]
    go_wp2
    go_ret2
    exact ⟨_, rfl, rfl⟩
theorem spec_TenthsOf_yes (p : Nat) (hf : finB .f32 p = true) (hp : (FloatKind.f32.format.order p 0 == some .lt || FloatKind.f32.format.order p 0 == some .eq) = false) (w : World) :
    Calls Try.prog 20 #[.float .f32 p] w fun e w' => ∃ n k, TenIs p n ∧ e = .returned (.tuple #[.int .i64 n, .bool true]) ∧ w' = w.drewN k := by
  have HT := Lib.hid (spec_l01Tenths p hf hp)
  have HF := Lib.hid hf
  clear hf
  go_enter Try.func20, Try.ntmps20
  go_wp2_with fail
  refine (spec_l01Finite p _).mono ?_
  rintro e w' ⟨n0, rfl, rfl⟩
  rw [HF.out]
  go_wp2_with fail
  refine (HT.out _).mono ?_
  rintro e w1 ⟨n, k, hn, rfl, rfl⟩
  have HN := Lib.hid hn
  clear hn
  go_wp2
  go_ret2
  exact ⟨_, _, HN.out, rfl, rfl⟩

theorem walk_FnExactTenthsOf (p : Nat) (w : World) (_ : (Lit.float .f32 p).wf = true) :
    Calls Try.prog 5 #[.float .f32 p] w fun e w' => e = .returned (.bool true) ∧ Below w.heap.size w w' := by
  cases hf : finB .f32 p with
  | false =>
    have HS := Lib.hid (spec_TenthsOf_no p (.inl hf))
    have HI := Lib.hid (impl_TenthsOf_no p (.inl hf))
    clear hf
    go_enter Try.func5, Try.ntmps5
    go_wp2_with fail
    refine (HS.out _).mono ?_
    rintro e w1 ⟨k, rfl, rfl⟩
    go_wp2_with fail
    refine (HI.out _).mono ?_
    rintro e w2 ⟨k2, rfl, rfl⟩
    go_wp2
    go_ret
    exact ⟨rfl, by first | exact Below.refl _ _ | exact below_drewN (Below.refl _ _) _⟩
  | true =>
    cases hp : (FloatKind.f32.format.order p 0 == some .lt || FloatKind.f32.format.order p 0 == some .eq) with
    | true =>
      have HS := Lib.hid (spec_TenthsOf_no p (.inr ⟨hf, hp⟩))
      have HI := Lib.hid (impl_TenthsOf_no p (.inr ⟨hf, hp⟩))
      clear hf hp
      go_enter Try.func5, Try.ntmps5
      go_wp2_with fail
      refine (HS.out _).mono ?_
      rintro e w1 ⟨k, rfl, rfl⟩
      go_wp2_with fail
      refine (HI.out _).mono ?_
      rintro e w2 ⟨k2, rfl, rfl⟩
      go_wp2
      go_ret
      exact ⟨rfl, by first | exact Below.refl _ _ | exact below_drewN (Below.refl _ _) _⟩
    | false =>
      have HS := Lib.hid (spec_TenthsOf_yes p hf hp)
      have HI := Lib.hid (impl_TenthsOf_yes p hf hp)
      clear hf hp
      go_enter Try.func5, Try.ntmps5
      go_wp2_with fail
      refine (HS.out _).mono ?_
      rintro e w1 ⟨n1, k, hn1, rfl, rfl⟩
      have HN1 := Lib.hid hn1
      clear hn1
      go_wp2_with fail
      refine (HI.out _).mono ?_
      rintro e w2 ⟨n2, k2, hn2, rfl, rfl⟩
      obtain rfl := HN1.out.same hn2
      clear hn2
      have hne : (n1 != n1) = false := by simp
      go_wp2
      go_ret
      exact ⟨rfl, by first | exact Below.refl _ _ | exact below_drewN (Below.refl _ _) _⟩

end Go.Proofs.Ytcnamhmoocdccaa
