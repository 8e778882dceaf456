/- Circles: the law, walked. Under no condition. -/
import Derived.Test.YtcnamhmoocdccaaKr
import Derived.Test.YtcnamhmoocdccaaKs
import Derived.Test.YtcnamhmoocdccaaKn
import Derived.Test.YtcnamhmoocdccaaKo
import Derived.Test.YtcnamhmoocdccaaKp
import Derived.Test.YtcnamhmoocdccaaKq
namespace Go.Proofs.Ytcnamhmoocdccaa
open Go Go.RowKit
set_option linter.unusedVariables false
set_option linter.unusedSimpArgs false
set_option exponentiation.threshold 5000

theorem near_any (i j : Nat) (hi : 0 < i) (hj : 0 < j) (hi2 : i ≤ 200) (hj2 : j ≤ 200) : TenNear i j := by
  refine near_all (fun u hu => ?_) i j hi hj hi2 hj2
  by_cases h1 : u < 8
  · exact near_n u (by omega) h1
  by_cases h2 : u < 20
  · exact near_o u (by omega) h2
  by_cases h3 : u < 39
  · exact near_p u (by omega) h3
  exact near_q u (by omega) (by omega)
theorem tenths_calls (k : Nat) (n : Int) (h : TenK k n) (f : FitsK k) (w : World) : Calls Try.prog 21 #[.float .f32 (b32F k)] w fun e w' => ∃ j, e = .returned (.tuple #[.int .i64 n, .bool true]) ∧ w' = w.drewN j := by
  refine (impl_TenthsOf_yes (b32F k) f.fin f.pos w).mono ?_
  rintro e w' ⟨m, j, hm, rfl, rfl⟩
  rw [hm.same (h.is f)]
  exact ⟨_, rfl, rfl⟩
set_option maxRecDepth 100000 in
theorem up_ang : (fi32 (angNF 1065353216 0) && (Nat.ble (Nat.succ (angNF 1065353216 0)) 4294967296 && !sameB (angNF 1065353216 0) 0)) = true := by decide +kernel
theorem phasor_calls (n : Nat) (h : n < 511) (w : World) : Calls Try.prog 25 #[.float .f64 (dv ((n : Int) - 256))] w fun e w' => ∃ j, e = .returned (.complex .f32 (tA (n % 64)) (tB (n % 64))) ∧ w' = w.drewN j := by
  obtain ⟨h1, h2, h3, h4⟩ := ph_tab n h
  have ok := ph_ok (n % 64) (Nat.mod_lt _ (by omega))
  refine (impl_PhasorOf _ h4 w).mono ?_
  rintro e w' ⟨r1, r2, j, rfl, s1, s2, rfl⟩
  rw [h1] at s1
  rw [h2] at s2
  rw [s1.eq (fin_num ok.fa), s2.eq (fin_num ok.fb)]
  exact ⟨_, rfl, rfl⟩
/-- What the walk is told of a phasor's number. -/
theorem circ_quo (n : Nat) (h : n < 511) (w : World) : (binOp .quo 31 (.float .f64 (floatOfInt .f64 ((n : Int) - 256))) (.float .f64 4634204016564240384)).run Try.prog w = .ok (.float .f64 (dv ((n : Int) - 256))) w :=
  run_exact .quo rfl 31 (floatOfInt .f64 ((n : Int) - 256)) 4634204016564240384 (ph_tab n h).2.2.1 w

theorem eighth_quo (i : Nat) (h0 : 0 < i) (h : i ≤ 200) (w : World) : (binOp .quo 27 (.float .f32 (floatOfInt .f32 (i : Int))) (.float .f32 1090519040)).run Try.prog w = .ok (.float .f32 (b32F (i * 8))) w := by
  obtain ⟨f, v⟩ := eighth i h0 h
  have k := run_exact32 .quo rfl 27 (floatOfInt .f32 (i : Int)) 1090519040 (by show isN .f32 (fdiv .f32 _ _) = false; rw [v]; exact fin_num f.fin) w
  simp only [fbin] at k
  rw [v] at k
  exact k
theorem floor_small {v : Nat} (h : Bd 50 v) {n : Int} (hn : floatToIntVal .f64 (floorV v) .i64 = some n) : -9007199254740992 < n ∧ n < 9007199254740992 := by
  have hM := Ieee.double.infRung_lt
  obtain ⟨T, h1, h2⟩ := floor_read h.fin
  have hw := whole_small h (Nat.le_refl _)
  have hT : T < 2 ^ 53 := by omega
  obtain ⟨c, c1, c2, c3, _⟩ := write_whole (sgn Ieee.double v) T hT
  have hr : rung Ieee.double (Ieee.double.word (sgn Ieee.double v) c) = c := rung_word _ _ _ (by omega)
  have e : floorV v = Ieee.double.word (sgn Ieee.double v) c := by unfold floorV; rw [h1, c3]
  rw [e] at hn
  have hi := integral_fin (x := Ieee.double.word (sgn Ieee.double v) c) (by rw [hr]; exact c1)
  have hwh : whole (Ieee.double.word (sgn Ieee.double v) c) = T := by
    unfold whole
    rw [hr, c2, Nat.mul_div_cancel _ (Nat.two_pow_pos _)]
  rw [hwh] at hi
  unfold floatToIntVal Ieee.Datum.toInt at hn
  have e2 : (FloatKind.f64.decode (Ieee.double.word (sgn Ieee.double v) c)).integral .zero = .number (sgn Ieee.double (Ieee.double.word (sgn Ieee.double v) c)) T 0 := hi
  rw [e2] at hn
  generalize sgn Ieee.double (Ieee.double.word (sgn Ieee.double v) c) = s at hn
  replace hn : (if IntKind.i64.min ≤ Ieee.signed s T 0 ∧ Ieee.signed s T 0 ≤ IntKind.i64.max then some (Ieee.signed s T 0) else none) = some n := hn
  split at hn
  · have := Option.some.inj hn
    rw [signed0] at this
    cases s <;> simp at this <;> omega
  · cases hn
theorem TenIs.small {p : Nat} {n : Int} (h : TenIs p n) (hf : finB .f32 p = true) (hp : (FloatKind.f32.format.order p 0 == some .lt || FloatKind.f32.format.order p 0 == some .eq) = false) : -9007199254740992 < n ∧ n < 9007199254740992 := by
  obtain ⟨b1, b2⟩ := pos_wid hf hp
  obtain ⟨x, E, hat, hn⟩ := h
  exact floor_small (tenV_bd (LogTold.of hat.lo hat.hi (hat.small b1 b2)).bd).2 hn
theorem one_fits : FitsK 64 := by
  have h := one_ten
  simp only [Bool.and_eq_true, decide_eq_true_eq] at h
  exact fits_of h.2.2.1
theorem one_bits : b32F 64 = 1065353216 := by decide +kernel
theorem tenths_one (w : World) : Calls Try.prog 21 #[.float .f32 1065353216] w fun e w' => ∃ j, e = .returned (.tuple #[.int .i64 0, .bool true]) ∧ w' = w.drewN j := by
  have f := one_fits
  have f1 := f.fin
  have f2 := f.pos
  rw [one_bits] at f1 f2
  refine (impl_TenthsOf_yes 1065353216 f1 f2 w).mono ?_
  rintro e w' ⟨m, j, hm, rfl, rfl⟩
  rw [hm.same one_is]
  exact ⟨_, rfl, rfl⟩
theorem angle_up (w : World) : Calls Try.prog 37 #[.complex .f32 0 1065353216] w fun e w' => ∃ v j, e = .returned (.float .f32 v) ∧ v < 2 ^ 32 ∧ sameB v 0 = false ∧ w' = w.drewN j := by
  have h := up_ang
  simp only [Bool.and_eq_true, Bool.not_eq_true'] at h
  obtain ⟨h1, h2, h3⟩ := h
  have h2 := Nat.le_of_ble_eq_true h2
  rw [← angNF_eq] at h1 h2 h3
  refine (impl_AngleOf 0 1065353216 w (fin32 h1)).mono ?_
  rintro e w' ⟨n, rfl, rfl⟩
  exact ⟨_, _, rfl, by omega, h3, rfl⟩
theorem zero_bd1 : Bd 1 0 := bd_of (by decide +kernel)
theorem IRow.drewN {w : World} {a : Option Addr} {len cap : Nat} {xs : List Int} (h : IRow .u8 w a len cap xs) (n : Nat) : IRow .u8 (w.drewN n) a len cap xs := ⟨h.1.drewN n, h.2⟩

set_option maxHeartbeats 4000000 in
set_option maxRecDepth 100000 in
theorem walk_FnCircles (a : Option Addr) (len cap : Nat) (xs : List Int) (b : Option Addr) (len' cap' : Nat) (ys : List Int) (w : World) (hr : IRow .u8 w a len cap xs) (hr' : IRow .u8 w b len' cap' ys) :
    Calls Try.prog 10 #[.slice a len cap, .slice b len' cap'] w fun e w' => e = .returned (.bool true) ∧ Below w.heap.size w w' := by
  cases hL : (decide (1048576 < len) || decide (1048576 < len')) with
  | true =>
    clear hr hr'
    go_enter Try.func10, Try.ntmps10
    go_wp2_with fail
    refine (laws_b10Long _ _ _ _ _ _ _).mono ?_
    rw [hL]
    rintro e w' ⟨rfl, rfl⟩
    go_wp2
    go_ret
    exact ⟨rfl, Below.refl _ _⟩
  | false =>
    have HR := Lib.hid hr
    have HR' := Lib.hid hr'
    clear hr hr'
    go_enter Try.func10, Try.ntmps10
    go_wp2_with fail
    refine (laws_b10Long _ _ _ _ _ _ _).mono ?_
    rw [hL]
    rintro e w' ⟨rfl, rfl⟩
    clear hL
    go_wp2_with fail
    refine (laws_b10At a len cap xs 0 256 _ HR.out (by omega) (by omega) (by omega)).mono ?_
    rintro e w' ⟨⟨m1, hm1, rfl⟩, rfl⟩
    go_wp2_with fail
    refine (laws_b10At a len cap xs 1 256 _ HR.out (by omega) (by omega) (by omega)).mono ?_
    rintro e w' ⟨⟨m2, hm2, rfl⟩, rfl⟩
    have e1 : (((m1 + 128 : Nat) : Int)) - 256 = (m1 : Int) - 128 := by omega
    have e2 : (((m2 + 128 : Nat) : Int)) - 256 = (m2 : Int) - 128 := by omega
    have e3 : (((m1 + m2 : Nat) : Int)) - 256 = (m1 : Int) - 128 + ((m2 : Int) - 128) := by omega
    have i1 : (m1 + 128) % 64 = m1 % 64 := by omega
    have i2 : (m2 + 128) % 64 = m2 % 64 := by omega
    have i3 : (m1 + m2) % 64 = (m1 % 64 + m2 % 64) % 64 := by omega
    have d1 := fun w => circ_quo (m1 + 128) (by omega) w
    have d2 := fun w => circ_quo (m2 + 128) (by omega) w
    have d3 := fun w => circ_quo (m1 + m2) (by omega) w
    have p1 := fun w => phasor_calls (m1 + 128) (by omega) w
    have p2 := fun w => phasor_calls (m2 + 128) (by omega) w
    have p3 := fun w => phasor_calls (m1 + m2) (by omega) w
    rw [e1] at d1 p1
    rw [e2] at d2 p2
    rw [e3] at d3 p3
    rw [i1] at p1
    rw [i2] at p2
    rw [i3] at p3
    obtain ⟨k, ak⟩ := an_ok m1 hm1
    have o1 := ph_ok (m1 % 64) (by omega)
    have o2 := ph_ok (m2 % 64) (by omega)
    have o3 := ph_ok ((m1 % 64 + m2 % 64) % 64) (by omega)
    obtain ⟨n1, n2⟩ := pair_ok (m1 % 64) (m2 % 64) (by omega) (by omega)
    have P1 := Lib.hid p1
    have P2 := Lib.hid p2
    have P3 := Lib.hid p3
    have PA := Lib.hid (fun w => impl_AngleOf (tA (m1 % 64)) (tB (m1 % 64)) w ak.fg)
    have PP := Lib.hid (fun w => impl_PowerOf (tA (m1 % 64)) (tB (m1 % 64)) w o1.fa o1.fb o1.ba o1.bb o1.fp)
    have PM := Lib.hid (fun w => impl_MulComplex (tA (m1 % 64)) (tB (m1 % 64)) (tA (m2 % 64)) (tB (m2 % 64)) w o1.fa o1.fb o2.fa o2.fb o1.ba o1.bb o2.ba o2.bb n1.fr n2.fr)
    have PN := Lib.hid (fun w => laws_b10Near (mreV (tA (m1 % 64)) (tB (m1 % 64)) (tA (m2 % 64)) (tB (m2 % 64))) (mimV (tA (m1 % 64)) (tB (m1 % 64)) (tA (m2 % 64)) (tB (m2 % 64))) (tA ((m1 % 64 + m2 % 64) % 64)) (tB ((m1 % 64 + m2 % 64) % 64)) w n1.fr n2.fr o3.fa o3.fb n1.br n2.br o3.ba o3.bb n1.le n2.le)
    have G1 := Lib.hid (fun w => laws_b10Gap (fwid (powV (tA (m1 % 64)) (tB (m1 % 64)))) 4607182418800017408 w (gap_num (a := 1) o1.bp (one_bd.mono (by omega)) (by omega)))
    have G2 := Lib.hid (fun w => laws_b10Gap (tuV m1) (floatOfInt .f64 (k - 10000)) w ak.ng)
    obtain ⟨ga, ca⟩ := conv_wide (gA (m1 % 64)) ak.fg
    obtain ⟨gp, cp⟩ := conv_wide (powV (tA (m1 % 64)) (tB (m1 % 64))) o1.fp
    have q1 := fun w => run_exact .mul rfl 31 (fwid (gA (m1 % 64))) 4634204016564240384 ak.nh w
    have q2 := fun w => run_exact .sub rfl 31 (hA (m1 % 64)) (floatOfInt .f64 ((m1 : Int) - 128)) ak.nt w
    have q3 := fun w => run_exact .add rfl 31 (tuV m1) 4666723447345250304 ak.nw w
    have q4 := fun w : World => run_convert_float_int (P := Try.prog) w 31 2 .f64 .i64 (whV m1) k (by rw [Try.underlying31]; rfl) Try.underlying2 ak.ik
    simp only [fbin] at q1 q2 q3
    have z1 : fmul .f64 (fwid (gA (m1 % 64))) 4634204016564240384 = hA (m1 % 64) := rfl
    have z2 : fsub .f64 (hA (m1 % 64)) (floatOfInt .f64 ((m1 : Int) - 128)) = tuV m1 := rfl
    have z3 : fadd .f64 (tuV m1) 4666723447345250304 = whV m1 := rfl
    have z4 : angN (tB (m1 % 64)) (tA (m1 % 64)) = gA (m1 % 64) := rfl
    rw [z1] at q1
    rw [z2] at q2
    rw [z3] at q3
    rw [z4] at PA
    have gp1 := o1.gp
    have gp2 := ak.gp
    have md := ak.md
    have k1 := ak.lo
    have k2 := ak.hi
    have G3 := Lib.hid (fun w => laws_b10Gap (fwid (tA (m1 % 64))) 0 w (gap_num (a := 1) o1.ba zero_bd1 (by omega)))
    obtain ⟨gr, cr⟩ := conv_wide (tA (m1 % 64)) o1.fa
    have QU : Hid (Int.tmod ((m1 : Int) - 128) 16 = 0 → (FloatKind.f64.format.order (gapV (fwid (tA (m1 % 64))) 0) 0 == some .eq) = true ∨ (FloatKind.f64.format.order (gapV (fwid (tA (m1 % 64))) 0) 4607182418800017408 == some .eq) = true) := Lib.hid (fun h => qu_ok (m1 % 64) (by omega) (by have := Int.dvd_of_tmod_eq_zero h; omega))
    clear ak o1 o2 o3 n1 n2 p1 p2 p3 z1 z2 z3 z4 e1 e2 e3 i1 i2 i3
    generalize (m1 % 64 + m2 % 64) % 64 = u3 at *
    generalize m2 % 64 = u2 at *
    generalize m1 % 64 = u1 at *
    generalize dv ((m1 : Int) - 128) = D1 at *
    generalize dv ((m2 : Int) - 128) = D2 at *
    generalize dv ((m1 : Int) - 128 + ((m2 : Int) - 128)) = D3 at *
    generalize tuV m1 = TU at *
    generalize whV m1 = WH at *
    generalize gA u1 = GA at *
    generalize hA u1 = HA at *
    generalize fwid GA = WG at *
    generalize mreV (tA u1) (tB u1) (tA u2) (tB u2) = MR at *
    generalize mimV (tA u1) (tB u1) (tA u2) (tB u2) = MI at *
    generalize powV (tA u1) (tB u1) = PW at *
    generalize gapV (fwid PW) 4607182418800017408 = GP at *
    generalize gapV TU (floatOfInt .f64 (k - 10000)) = GT at *
    generalize gapV (fwid (tA u1)) 0 = GR at *
    generalize fwid PW = WP at *
    generalize fwid (tA u1) = WA at *
    generalize tA u1 = A1 at *
    generalize tB u1 = B1 at *
    generalize tA u2 = A2 at *
    generalize tB u2 = B2 at *
    generalize tA u3 = A3 at *
    generalize tB u3 = B3 at *
    go_wp2_with fail
    refine (P1.out _).mono ?_
    rintro e w' ⟨j1, rfl, rfl⟩
    go_wp2_with fail
    refine (P2.out _).mono ?_
    rintro e w' ⟨j2, rfl, rfl⟩
    go_wp2_with fail
    refine (P3.out _).mono ?_
    rintro e w' ⟨j3, rfl, rfl⟩
    go_wp2_with fail
    refine (PA.out _).mono ?_
    rintro e w' ⟨j4, rfl, rfl⟩
    go_wp2_with fail
    refine (PP.out _).mono ?_
    rintro e w' ⟨j5, rfl, rfl⟩
    go_wp2_with fail
    refine (G1.out _).mono ?_
    rintro e w' ⟨rfl, rfl⟩
    go_wp2_with fail
    refine (PM.out _).mono ?_
    rintro e w' ⟨j6, rfl, rfl⟩
    go_wp2_with fail
    refine (PN.out _).mono ?_
    rintro e w' ⟨j7, rfl, rfl⟩
    go_wp2_with fail
    refine (G2.out _).mono ?_
    rintro e w' ⟨rfl, rfl⟩
    by_cases h16 : Int.tmod ((m1 : Int) - 128) 16 = 0
    · have hq : (FloatKind.f64.format.order GR 0 == some .eq) = true ∨ ((FloatKind.f64.format.order GR 0 == some .eq) = false ∧ (FloatKind.f64.format.order GR 4607182418800017408 == some .eq) = true) := by
        cases h0 : (FloatKind.f64.format.order GR 0 == some .eq) with
        | true => exact .inl rfl
        | false =>
          rcases QU.out h16 with h1 | h1
          · rw [h1] at h0; cases h0
          · exact .inr ⟨rfl, h1⟩
      rcases hq with g0 | ⟨g0, g1⟩
      · have g0' : (FloatKind.f64.format.order GR 0 != some .eq) = false := by unfold bne; rw [g0]; rfl
        go_wp2_with fail
        refine (G3.out _).mono ?_
        rintro e w' ⟨rfl, rfl⟩
        clear g0
        go_wp2_with fail
        refine (laws_b10At b len' cap' ys 0 200 _ (HR'.out.drewN _) (by omega) (by omega) (by omega)).mono ?_
        rintro e w' ⟨⟨i, hi, rfl⟩, rfl⟩
        obtain ⟨f1, v1⟩ := eighth (i + 1) (by omega) (by omega)
        have x1 := fun w => eighth_quo (i + 1) (by omega) (by omega) w
        rw [show (((i + 1 : Nat)) : Int) = 1 + (i : Int) by omega] at x1
        go_wp2_with fail
        refine (laws_b10At b len' cap' ys 1 200 _ (HR'.out.drewN _) (by omega) (by omega) (by omega)).mono ?_
        rintro e w' ⟨⟨j, hj, rfl⟩, rfl⟩
        obtain ⟨f2, v2⟩ := eighth (j + 1) (by omega) (by omega)
        have x2 := fun w => eighth_quo (j + 1) (by omega) (by omega) w
        rw [show (((j + 1 : Nat)) : Int) = 1 + (j : Int) by omega] at x2
        obtain ⟨f3, v3⟩ := eighths (i + 1) (j + 1) (by omega) (by omega) (by omega) (by omega)
        have x3 := fun w => run_exact32 .mul rfl 27 (b32F ((i + 1) * 8)) (b32F ((j + 1) * 8)) (by show isN .f32 (fmul .f32 _ _) = false; rw [v3]; exact fin_num f3.fin) w
        simp only [fbin] at x3
        rw [v3] at x3
        obtain ⟨mm, nn, oo, t1, t2, t3, le1, le2⟩ := near_any (i + 1) (j + 1) (by omega) (by omega) (by omega) (by omega)
        have T1 := Lib.hid (fun w => tenths_calls _ mm t1 f1 w)
        have T2 := Lib.hid (fun w => tenths_calls _ nn t2 f2 w)
        have T3 := Lib.hid (fun w => tenths_calls _ oo t3 f3 w)
        have s1 := (t1.is f1).small f1.fin f1.pos
        have s2 := (t2.is f2).small f2.fin f2.pos
        have s3 := (t3.is f3).small f3.fin f3.pos
        have l1 := eq_true le1
        have l2 := eq_true le2
        clear f1 v1 f2 v2 f3 v3 t1 t2 t3
        generalize b32F ((i + 1) * 8) = X at *
        generalize b32F ((j + 1) * 8) = Y at *
        generalize b32F ((i + 1) * (j + 1)) = Z at *
        go_wp2_with fail
        refine (T1.out _).mono ?_
        rintro e w' ⟨j8, rfl, rfl⟩
        go_wp2_with fail
        refine (T2.out _).mono ?_
        rintro e w' ⟨j9, rfl, rfl⟩
        go_wp2_with fail
        refine (T3.out _).mono ?_
        rintro e w' ⟨j10, rfl, rfl⟩
        go_wp2_with fail
        refine (tenths_one _).mono ?_
        rintro e w' ⟨j11, rfl, rfl⟩
        go_wp2_with fail
        refine (angle_up _).mono ?_
        rintro e w' ⟨va, j12, rfl, hva, hsa, rfl⟩
        go_wp2_with fail
        refine (spec_SameNumber va 0 _ hva (by omega)).mono ?_
        rw [hsa]
        rintro e w' ⟨rfl, rfl⟩
        go_wp2
        go_ret
        exact ⟨rfl, below_drewN (Below.refl _ _) _⟩
      · have g0' : (FloatKind.f64.format.order GR 0 != some .eq) = true := by unfold bne; rw [g0]; rfl
        have g1' : (FloatKind.f64.format.order GR 4607182418800017408 != some .eq) = false := by unfold bne; rw [g1]; rfl
        clear g0 g1
        go_wp2_with fail
        refine (G3.out _).mono ?_
        rintro e w' ⟨rfl, rfl⟩
        go_wp2_with fail
        refine (G3.out _).mono ?_
        rintro e w' ⟨rfl, rfl⟩
        go_wp2_with fail
        refine (laws_b10At b len' cap' ys 0 200 _ (HR'.out.drewN _) (by omega) (by omega) (by omega)).mono ?_
        rintro e w' ⟨⟨i, hi, rfl⟩, rfl⟩
        obtain ⟨f1, v1⟩ := eighth (i + 1) (by omega) (by omega)
        have x1 := fun w => eighth_quo (i + 1) (by omega) (by omega) w
        rw [show (((i + 1 : Nat)) : Int) = 1 + (i : Int) by omega] at x1
        go_wp2_with fail
        refine (laws_b10At b len' cap' ys 1 200 _ (HR'.out.drewN _) (by omega) (by omega) (by omega)).mono ?_
        rintro e w' ⟨⟨j, hj, rfl⟩, rfl⟩
        obtain ⟨f2, v2⟩ := eighth (j + 1) (by omega) (by omega)
        have x2 := fun w => eighth_quo (j + 1) (by omega) (by omega) w
        rw [show (((j + 1 : Nat)) : Int) = 1 + (j : Int) by omega] at x2
        obtain ⟨f3, v3⟩ := eighths (i + 1) (j + 1) (by omega) (by omega) (by omega) (by omega)
        have x3 := fun w => run_exact32 .mul rfl 27 (b32F ((i + 1) * 8)) (b32F ((j + 1) * 8)) (by show isN .f32 (fmul .f32 _ _) = false; rw [v3]; exact fin_num f3.fin) w
        simp only [fbin] at x3
        rw [v3] at x3
        obtain ⟨mm, nn, oo, t1, t2, t3, le1, le2⟩ := near_any (i + 1) (j + 1) (by omega) (by omega) (by omega) (by omega)
        have T1 := Lib.hid (fun w => tenths_calls _ mm t1 f1 w)
        have T2 := Lib.hid (fun w => tenths_calls _ nn t2 f2 w)
        have T3 := Lib.hid (fun w => tenths_calls _ oo t3 f3 w)
        have s1 := (t1.is f1).small f1.fin f1.pos
        have s2 := (t2.is f2).small f2.fin f2.pos
        have s3 := (t3.is f3).small f3.fin f3.pos
        have l1 := eq_true le1
        have l2 := eq_true le2
        clear f1 v1 f2 v2 f3 v3 t1 t2 t3
        generalize b32F ((i + 1) * 8) = X at *
        generalize b32F ((j + 1) * 8) = Y at *
        generalize b32F ((i + 1) * (j + 1)) = Z at *
        go_wp2_with fail
        refine (T1.out _).mono ?_
        rintro e w' ⟨j8, rfl, rfl⟩
        go_wp2_with fail
        refine (T2.out _).mono ?_
        rintro e w' ⟨j9, rfl, rfl⟩
        go_wp2_with fail
        refine (T3.out _).mono ?_
        rintro e w' ⟨j10, rfl, rfl⟩
        go_wp2_with fail
        refine (tenths_one _).mono ?_
        rintro e w' ⟨j11, rfl, rfl⟩
        go_wp2_with fail
        refine (angle_up _).mono ?_
        rintro e w' ⟨va, j12, rfl, hva, hsa, rfl⟩
        go_wp2_with fail
        refine (spec_SameNumber va 0 _ hva (by omega)).mono ?_
        rw [hsa]
        rintro e w' ⟨rfl, rfl⟩
        go_wp2
        go_ret
        exact ⟨rfl, below_drewN (Below.refl _ _) _⟩
    · go_wp2_with fail
      refine (laws_b10At b len' cap' ys 0 200 _ (HR'.out.drewN _) (by omega) (by omega) (by omega)).mono ?_
      rintro e w' ⟨⟨i, hi, rfl⟩, rfl⟩
      obtain ⟨f1, v1⟩ := eighth (i + 1) (by omega) (by omega)
      have x1 := fun w => eighth_quo (i + 1) (by omega) (by omega) w
      rw [show (((i + 1 : Nat)) : Int) = 1 + (i : Int) by omega] at x1
      go_wp2_with fail
      refine (laws_b10At b len' cap' ys 1 200 _ (HR'.out.drewN _) (by omega) (by omega) (by omega)).mono ?_
      rintro e w' ⟨⟨j, hj, rfl⟩, rfl⟩
      obtain ⟨f2, v2⟩ := eighth (j + 1) (by omega) (by omega)
      have x2 := fun w => eighth_quo (j + 1) (by omega) (by omega) w
      rw [show (((j + 1 : Nat)) : Int) = 1 + (j : Int) by omega] at x2
      obtain ⟨f3, v3⟩ := eighths (i + 1) (j + 1) (by omega) (by omega) (by omega) (by omega)
      have x3 := fun w => run_exact32 .mul rfl 27 (b32F ((i + 1) * 8)) (b32F ((j + 1) * 8)) (by show isN .f32 (fmul .f32 _ _) = false; rw [v3]; exact fin_num f3.fin) w
      simp only [fbin] at x3
      rw [v3] at x3
      obtain ⟨mm, nn, oo, t1, t2, t3, le1, le2⟩ := near_any (i + 1) (j + 1) (by omega) (by omega) (by omega) (by omega)
      have T1 := Lib.hid (fun w => tenths_calls _ mm t1 f1 w)
      have T2 := Lib.hid (fun w => tenths_calls _ nn t2 f2 w)
      have T3 := Lib.hid (fun w => tenths_calls _ oo t3 f3 w)
      have s1 := (t1.is f1).small f1.fin f1.pos
      have s2 := (t2.is f2).small f2.fin f2.pos
      have s3 := (t3.is f3).small f3.fin f3.pos
      have l1 := eq_true le1
      have l2 := eq_true le2
      clear f1 v1 f2 v2 f3 v3 t1 t2 t3
      generalize b32F ((i + 1) * 8) = X at *
      generalize b32F ((j + 1) * 8) = Y at *
      generalize b32F ((i + 1) * (j + 1)) = Z at *
      go_wp2_with fail
      refine (T1.out _).mono ?_
      rintro e w' ⟨j8, rfl, rfl⟩
      go_wp2_with fail
      refine (T2.out _).mono ?_
      rintro e w' ⟨j9, rfl, rfl⟩
      go_wp2_with fail
      refine (T3.out _).mono ?_
      rintro e w' ⟨j10, rfl, rfl⟩
      go_wp2_with fail
      refine (tenths_one _).mono ?_
      rintro e w' ⟨j11, rfl, rfl⟩
      go_wp2_with fail
      refine (angle_up _).mono ?_
      rintro e w' ⟨va, j12, rfl, hva, hsa, rfl⟩
      go_wp2_with fail
      refine (spec_SameNumber va 0 _ hva (by omega)).mono ?_
      rw [hsa]
      rintro e w' ⟨rfl, rfl⟩
      go_wp2
      go_ret
      exact ⟨rfl, below_drewN (Below.refl _ _) _⟩
end Go.Proofs.Ytcnamhmoocdccaa
