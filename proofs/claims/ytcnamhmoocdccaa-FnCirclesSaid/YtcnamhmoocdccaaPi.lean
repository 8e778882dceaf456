/- PhasorOf: the reference's, the program's, and the law walked. Under no condition. -/
import Derived.Test.YtcnamhmoocdccaaPh
import Derived.Laws.Cover3
namespace Go.Proofs.Ytcnamhmoocdccaa
open Go Go.RowKit
set_option linter.unusedVariables false
set_option linter.unusedSimpArgs false
set_option exponentiation.threshold 5000

def phRe (k c s : Nat) : Nat := if k = 1 then fsub .f64 0 s else if k = 2 then fsub .f64 0 c else if k = 3 then s else c
def phIm (k c s : Nat) : Nat := if k = 1 then c else if k = 2 then fsub .f64 0 s else if k = 3 then fsub .f64 0 c else s
def cosV (g : Nat) : Nat := sineV (behV (fsub .f64 4598175219545276416 g))
def sinV (g : Nat) : Nat := sineV (behV g)
noncomputable def phA (x : Nat) : Nat :=
  if finB .f64 x then (if decide (2 ^ 1126 ≤ mag Ieee.double (rung Ieee.double x)) then 1065353216 else fconv .f64 (phRe (phK (behV x)) (cosV (phF (behV x) (phK (behV x)))) (sinV (phF (behV x) (phK (behV x))))) .f32) else nanb .f32
noncomputable def phB (x : Nat) : Nat :=
  if finB .f64 x then (if decide (2 ^ 1126 ≤ mag Ieee.double (rung Ieee.double x)) then 0 else fconv .f64 (phIm (phK (behV x)) (cosV (phF (behV x) (phK (behV x)))) (sinV (phF (behV x) (phK (behV x))))) .f32) else nanb .f32
def PhOut (x : Nat) (w : World) (e : Ending) (w' : World) : Prop := ∃ r1 r2 n, e = .returned (.complex .f32 r1 r2) ∧ Same .f32 r1 (phA x) ∧ Same .f32 r2 (phB x) ∧ w' = w.drewN n

theorem quarter_bd : Bd 0 4598175219545276416 := ⟨by decide +kernel, by decide +kernel⟩
/-- What the walks are told of what is left, g. -/
structure PhTold (g : Nat) : Prop where
  sub : ∀ w : World, (binOp .sub 31 (.float .f64 4598175219545276416) (.float .f64 g)).run Try.prog w = .ok (.float .f64 (fsub .f64 4598175219545276416 g)) w
  qfin : rung Ieee.double (fsub .f64 4598175219545276416 g) < Ieee.double.infRung
  qwhole : whole (fsub .f64 4598175219545276416 g) < 2 ^ 53
  qge : geD (fsub .f64 4598175219545276416 g) 4841369599423283200 = false
  qle : leD (fsub .f64 4598175219545276416 g) 14064741636278059008 = false
  gfin : rung Ieee.double g < Ieee.double.infRung
  gwhole : whole g < 2 ^ 53
  gge : geD g 4841369599423283200 = false
  gle : leD g 14064741636278059008 = false
  cb : Bd 118 (cosV g)
  sb : Bd 118 (sinV g)
  s0 : ∀ w : World, (binOp .sub 31 (.float .f64 0) (.float .f64 (sinV g))).run Try.prog w = .ok (.float .f64 (fsub .f64 0 (sinV g))) w
  c0 : ∀ w : World, (binOp .sub 31 (.float .f64 0) (.float .f64 (cosV g))).run Try.prog w = .ok (.float .f64 (fsub .f64 0 (cosV g))) w
  nc : fover .f64 (cosV g) .f32 = false
  ns : fover .f64 (sinV g) .f32 = false
  nc0 : fover .f64 (fsub .f64 0 (cosV g)) .f32 = false
  ns0 : fover .f64 (fsub .f64 0 (sinV g)) .f32 = false
theorem PhTold.of {g : Nat} (h : Bd 0 g) : PhTold g := by
  have hq := quarter_bd.sub h (by omega)
  have hb := behV_bd hq.fin (bd_whole hq (by omega))
  have hg := behV_bd h.fin (bd_whole h (by omega))
  have c := sineV_bd hb
  have s := sineV_bd hg
  have z : Bd 118 0 := zero_bd.mono (by omega)
  exact ⟨fun w => run_exact .sub rfl 31 _ _ hq.num w, hq.fin, bd_whole hq (by omega), (bd_near hq (by omega)).1, (bd_near hq (by omega)).2, h.fin, bd_whole h (by omega), (bd_near h (by omega)).1, (bd_near h (by omega)).2, c, s,
    fun w => run_exact .sub rfl 31 _ _ (z.sub s (by omega)).num w, fun w => run_exact .sub rfl 31 _ _ (z.sub c (by omega)).num w,
    c.narrow2 (by omega), s.narrow2 (by omega), (z.sub c (by omega)).narrow2 (by omega), (z.sub s (by omega)).narrow2 (by omega)⟩

set_option maxRecDepth 8000 in
set_option maxHeartbeats 1000000 in
theorem impl_near (x : Nat) (hx : x < 2 ^ 64) (h : rung Ieee.double x < Ieee.double.infRung) (hfar : ¬ 2 ^ 1126 ≤ mag Ieee.double (rung Ieee.double x)) (w : World) : Calls Try.prog 25 #[.float .f64 x] w (PhOut x w) := by
  have hfin : finB .f64 x = true := decide_eq_true h
  have hw := near_whole hfar
  have HA : phA x = fconv .f64 (phRe (phK (behV x)) (cosV (phF (behV x) (phK (behV x)))) (sinV (phF (behV x) (phK (behV x))))) .f32 := by unfold phA; rw [hfin, decide_eq_false hfar]; rfl
  have HB : phB x = fconv .f64 (phIm (phK (behV x)) (cosV (phF (behV x) (phK (behV x)))) (sinV (phF (behV x) (phK (behV x))))) .f32 := by unfold phB; rw [hfin, decide_eq_false hfar]; rfl
  have HU := Lib.hid (behV_up h hw)
  have HFIN := Lib.hid (impl_finite x · hx)
  have HFV := Lib.hid hfin
  have ha := far_abs (fin_num hfin)
  have HAB := Lib.hid (fun w => math_Abs x w hx)
  obtain ⟨a, haa⟩ : ∃ a, a = x % 2 ^ 63 := ⟨_, rfl⟩
  rw [← haa, decide_eq_false hfar] at ha
  have HAA := Lib.hid haa
  unfold geD at ha
  have HBE := Lib.hid (impl_behind x h hw)
  clear haa hfin hfar
  clear h hw
  generalize behV x = f at *
  go_enter Try.func25, Try.ntmps25
  go_wp2_with (first | (go_at_call 58; refine (HFIN.out _).mono ?_; rintro e w' ⟨rfl, rfl⟩; rw [HFV.out]) | (go_at_call 49; refine (HAB.out _).mono ?_; rintro e w' ⟨rfl, rfl⟩; rw [← HAA.out]) | (go_at_call 59; refine (HBE.out _).mono ?_; rintro e w' ⟨rfl, rfl⟩))
  go_loopw [4, 5] (fun fv qv wr => ∃ k : Nat, k ≤ 4 ∧ qv = .int .i64 k ∧ fv = .float .f64 (phF f k) ∧ Hid (∀ i, i < k → geD (phF f i) 4598175219545276416 = true) ∧ wr = w) (fun _ qv _ => 4 - (intOf qv).toNat)
  case atStart => exact ⟨0, by omega, rfl, rfl, Lib.hid (fun i hi => absurd hi (Nat.not_lt_zero _)), rfl⟩
  case round =>
    obtain ⟨k, hk, rfl, rfl, hall, rfl⟩ := hrel
    have hup := phF_up HU.out k hk hall.out
    cases hg : geD (phF f k) 4598175219545276416 with
    | true =>
      have hk4 : k < 4 := by
        refine Nat.not_le.1 fun h4 => ?_
        have : k = 4 := by omega
        subst this
        rw [Up.none hup] at hg
        cases hg
      have hr : ∀ w : World, (binOp .sub 31 (.float .f64 (phF f k)) (.float .f64 4598175219545276416)).run Try.prog w = .ok (.float .f64 (phF f (k + 1))) w := fun w => run_exact .sub rfl 31 _ _ (((hup.bd (by omega)).sub quarter_bd (by omega)).num) w
      have hall2 : Hid (∀ i, i < k + 1 → geD (phF f i) 4598175219545276416 = true) := Lib.hid (fun i hi => by
        by_cases e : i = k
        · subst e; exact hg
        · exact hall.out i (by omega))
      unfold geD at hg
      generalize hnx : phF f (k + 1) = nx at hr
      have HNX := Lib.hid hnx
      clear hup hall hnx
      generalize phF f k = fk at hr hg ⊢
      go_wp2
      go_roundw
      case rel => exact ⟨k + 1, by omega, by first | rfl | go_num, by rw [HNX.out], hall2, by first | trivial | rfl⟩
      case measure => simp [intOf]; omega
    | false =>
      have hK := phK_is hk hall.out hg
      have TT := Lib.hid (PhTold.of (hup.bd (by omega)))
      have HS1 : Hid (∀ w : World, Calls Try.prog 50 #[.float .f64 (fsub .f64 4598175219545276416 (phF f k))] w fun e w' => e = .returned (.float .f64 (cosV (phF f k))) ∧ w = w') := Lib.hid (fun w => impl_sine (fsub .f64 4598175219545276416 (phF f k)) TT.out.qfin TT.out.qwhole w)
      have HS2 : Hid (∀ w : World, Calls Try.prog 50 #[.float .f64 (phF f k)] w fun e w' => e = .returned (.float .f64 (sinV (phF f k))) ∧ w = w') := Lib.hid (fun w => impl_sine (phF f k) TT.out.gfin TT.out.gwhole w)
      rw [hK] at HA HB
      obtain ⟨fc, gc, kc, dc⟩ := conv_narrow _ TT.out.nc
      obtain ⟨fs, gs, ks, ds⟩ := conv_narrow _ TT.out.ns
      obtain ⟨fc0, gc0, kc0, dc0⟩ := conv_narrow _ TT.out.nc0
      obtain ⟨fs0, gs0, ks0, ds0⟩ := conv_narrow _ TT.out.ns0
      have D_c := Lib.hid dc
      have D_s := Lib.hid ds
      have D_c0 := Lib.hid dc0
      have D_s0 := Lib.hid ds0
      have rq := TT.out.sub
      have rs := TT.out.s0
      have rc := TT.out.c0
      unfold geD at hg
      clear dc ds dc0 ds0 TT hup hall hK HU
      have hk5 : k = 0 ∨ k = 1 ∨ k = 2 ∨ k = 3 ∨ k = 4 := by omega
      have e1 : phRe 0 (cosV (phF f k)) (sinV (phF f k)) = cosV (phF f k) ∧ phIm 0 (cosV (phF f k)) (sinV (phF f k)) = sinV (phF f k) ∧ phRe 1 (cosV (phF f k)) (sinV (phF f k)) = fsub .f64 0 (sinV (phF f k)) ∧ phIm 1 (cosV (phF f k)) (sinV (phF f k)) = cosV (phF f k) ∧
          phRe 2 (cosV (phF f k)) (sinV (phF f k)) = fsub .f64 0 (cosV (phF f k)) ∧ phIm 2 (cosV (phF f k)) (sinV (phF f k)) = fsub .f64 0 (sinV (phF f k)) ∧ phRe 3 (cosV (phF f k)) (sinV (phF f k)) = sinV (phF f k) ∧ phIm 3 (cosV (phF f k)) (sinV (phF f k)) = fsub .f64 0 (cosV (phF f k)) ∧
          phRe 4 (cosV (phF f k)) (sinV (phF f k)) = cosV (phF f k) ∧ phIm 4 (cosV (phF f k)) (sinV (phF f k)) = sinV (phF f k) := ⟨rfl, rfl, rfl, rfl, rfl, rfl, rfl, rfl, rfl, rfl⟩
      have HE := Lib.hid e1
      clear e1
      have HAA1 := Lib.hid HA
      have HBB1 := Lib.hid HB
      clear HA HB
      generalize fsub .f64 0 (cosV (phF f k)) = c0 at *
      generalize fsub .f64 0 (sinV (phF f k)) = s0 at *
      generalize cosV (phF f k) = c at *
      generalize sinV (phF f k) = s at *
      generalize fsub .f64 4598175219545276416 (phF f k) = qg at *
      generalize phF f k = g at *
      rcases hk5 with rfl | rfl | rfl | rfl | rfl
      · go_wp2_with fail
        refine (HS1.out _).mono ?_
        rintro e w' ⟨rfl, rfl⟩
        go_wp2_with fail
        refine (HS2.out _).mono ?_
        rintro e w' ⟨rfl, rfl⟩
        go_wp2
        go_ret
        exact ⟨_, _, _, rfl, by rw [HAA1.out, HE.out.1]; exact (D_c.out _).1, by rw [HBB1.out, HE.out.2.1]; exact (D_s.out _).1, rfl⟩
      · go_wp2_with fail
        refine (HS1.out _).mono ?_
        rintro e w' ⟨rfl, rfl⟩
        go_wp2_with fail
        refine (HS2.out _).mono ?_
        rintro e w' ⟨rfl, rfl⟩
        go_wp2
        go_ret
        exact ⟨_, _, _, rfl, by rw [HAA1.out, HE.out.2.2.1]; exact (D_s0.out _).1, by rw [HBB1.out, HE.out.2.2.2.1]; exact (D_c.out _).1, rfl⟩
      · go_wp2_with fail
        refine (HS1.out _).mono ?_
        rintro e w' ⟨rfl, rfl⟩
        go_wp2_with fail
        refine (HS2.out _).mono ?_
        rintro e w' ⟨rfl, rfl⟩
        go_wp2
        go_ret
        exact ⟨_, _, _, rfl, by rw [HAA1.out, HE.out.2.2.2.2.1]; exact (D_c0.out _).1, by rw [HBB1.out, HE.out.2.2.2.2.2.1]; exact (D_s0.out _).1, rfl⟩
      · go_wp2_with fail
        refine (HS1.out _).mono ?_
        rintro e w' ⟨rfl, rfl⟩
        go_wp2_with fail
        refine (HS2.out _).mono ?_
        rintro e w' ⟨rfl, rfl⟩
        go_wp2
        go_ret
        exact ⟨_, _, _, rfl, by rw [HAA1.out, HE.out.2.2.2.2.2.2.1]; exact (D_s.out _).1, by rw [HBB1.out, HE.out.2.2.2.2.2.2.2.1]; exact (D_c0.out _).1, rfl⟩
      · go_wp2_with fail
        refine (HS1.out _).mono ?_
        rintro e w' ⟨rfl, rfl⟩
        go_wp2_with fail
        refine (HS2.out _).mono ?_
        rintro e w' ⟨rfl, rfl⟩
        go_wp2
        go_ret
        exact ⟨_, _, _, rfl, by rw [HAA1.out, HE.out.2.2.2.2.2.2.2.2.1]; exact (D_c.out _).1, by rw [HBB1.out, HE.out.2.2.2.2.2.2.2.2.2]; exact (D_s.out _).1, rfl⟩

set_option maxRecDepth 8000 in
set_option maxHeartbeats 1000000 in
theorem spec_near (x : Nat) (hx : x < 2 ^ 64) (h : rung Ieee.double x < Ieee.double.infRung) (hfar : ¬ 2 ^ 1126 ≤ mag Ieee.double (rung Ieee.double x)) (w : World) : Calls Try.prog 57 #[.float .f64 x] w (PhOut x w) := by
  have hfin : finB .f64 x = true := decide_eq_true h
  have hw := near_whole hfar
  have HA : phA x = fconv .f64 (phRe (phK (behV x)) (cosV (phF (behV x) (phK (behV x)))) (sinV (phF (behV x) (phK (behV x))))) .f32 := by unfold phA; rw [hfin, decide_eq_false hfar]; rfl
  have HB : phB x = fconv .f64 (phIm (phK (behV x)) (cosV (phF (behV x) (phK (behV x)))) (sinV (phF (behV x) (phK (behV x))))) .f32 := by unfold phB; rw [hfin, decide_eq_false hfar]; rfl
  have HU := Lib.hid (behV_up h hw)
  obtain ⟨hge, hle⟩ : geD x 4841369599423283200 = false ∧ leD x 14064741636278059008 = false := by
    have k := far_both (fin_num hfin)
    rw [decide_eq_false hfar] at k
    simpa using k
  unfold geD at hge
  unfold leD at hle
  have h00 : (FloatKind.f64.format.order 0 0 != some .eq) = false := by decide +kernel
  have r0 : ∀ w : World, (binOp .sub 31 (.float .f64 x) (.float .f64 x)).run Try.prog w = .ok (.float .f64 0) w := fun w => by
    have e : fsub .f64 x x = 0 := fsub_self .f64 x (decide_eq_true h)
    have k := run_exact .sub rfl 31 x x (by show isN .f64 (fsub .f64 x x) = false; rw [e]; exact zero_num .f64) w
    simp only [fbin, e] at k
    exact k
  obtain ⟨nn, hn⟩ : ∃ nn, nn = Ieee.signed (sgn Ieee.double x) (whole x) 0 := ⟨_, rfl⟩
  have ht : tn x = floatOfInt .f64 nn := by rw [hn]; rfl
  have hcv : ∀ w : World, (convert 31 2 (.float .f64 x)).run Try.prog w = .ok (.int .i64 nn) w := fun w => by
    refine run_convert_float_int _ 31 2 .f64 .i64 x nn (by rw [Try.underlying31]; rfl) Try.underlying2 ?_
    unfold floatToIntVal Ieee.Datum.toInt
    have e : (FloatKind.f64.decode x).integral .zero = .number (sgn Ieee.double x) (whole x) 0 := integral_fin h
    rw [e]
    show (if IntKind.i64.min ≤ Ieee.signed (sgn Ieee.double x) (whole x) 0 ∧ Ieee.signed (sgn Ieee.double x) (whole x) 0 ≤ IntKind.i64.max then some (Ieee.signed (sgn Ieee.double x) (whole x) 0) else none) = some nn
    have hmin : IntKind.i64.min = -9223372036854775808 := by decide
    have hmax : IntKind.i64.max = 9223372036854775807 := by decide
    rw [hmin, hmax, if_pos (by rw [signed0]; split <;> omega), ← hn]
  have b0 := left_bd h hw
  have s2 := fun w => run_exact .sub rfl 31 x (tn x) b0.num w
  have s3 := fun w => run_exact .add rfl 31 (fsub .f64 x (tn x)) 4607182418800017408 (b0.add one_bd (by omega)).num w
  simp only [fbin] at s2 s3
  have EB : behV x = if (FloatKind.f64.format.order (fsub .f64 x (tn x)) 0 == some .lt) then fadd .f64 (fsub .f64 x (tn x)) 4607182418800017408 else fsub .f64 x (tn x) := rfl
  rw [ht] at s2 s3 EB
  clear b0 ht hn hfin hfar
  clear h hw
  generalize behV x = f at *
  generalize fsub .f64 x (floatOfInt .f64 nn) = f0 at *
  generalize fadd .f64 f0 4607182418800017408 = f1 at *
  obtain ⟨b, hb⟩ : ∃ b, (FloatKind.f64.format.order f0 0 == some .lt) = b := ⟨_, rfl⟩
  rw [hb] at EB
  cases b with
  | false =>
    simp only [if_true, if_false, Bool.false_eq_true] at EB
    subst EB
    go_enter Try.func57, Try.ntmps57
    go_wp2
    go_loopw [3, 4] (fun fv qv wr => ∃ k : Nat, k ≤ 4 ∧ qv = .int .i64 k ∧ fv = .float .f64 (phF f k) ∧ Hid (∀ i, i < k → geD (phF f i) 4598175219545276416 = true) ∧ wr = w) (fun _ qv _ => 4 - (intOf qv).toNat)
    case atStart => exact ⟨0, by omega, rfl, rfl, Lib.hid (fun i hi => absurd hi (Nat.not_lt_zero _)), rfl⟩
    case round =>
      obtain ⟨k, hk, rfl, rfl, hall, rfl⟩ := hrel
      have hup := phF_up HU.out k hk hall.out
      cases hg : geD (phF f k) 4598175219545276416 with
      | true =>
        have hk4 : k < 4 := by
          refine Nat.not_le.1 fun h4 => ?_
          have : k = 4 := by omega
          subst this
          rw [Up.none hup] at hg
          cases hg
        have hr : ∀ w : World, (binOp .sub 31 (.float .f64 (phF f k)) (.float .f64 4598175219545276416)).run Try.prog w = .ok (.float .f64 (phF f (k + 1))) w := fun w => run_exact .sub rfl 31 _ _ (((hup.bd (by omega)).sub quarter_bd (by omega)).num) w
        have hall2 : Hid (∀ i, i < k + 1 → geD (phF f i) 4598175219545276416 = true) := Lib.hid (fun i hi => by
          by_cases e : i = k
          · subst e; exact hg
          · exact hall.out i (by omega))
        unfold geD at hg
        generalize hnx : phF f (k + 1) = nx at hr
        have HNX := Lib.hid hnx
        clear hup hall hnx
        generalize phF f k = fk at hr hg ⊢
        go_wp2
        go_roundw
        case rel => exact ⟨k + 1, by omega, by first | rfl | go_num, by rw [HNX.out], hall2, by first | trivial | rfl⟩
        case measure => simp [intOf]; omega
      | false =>
        have hK := phK_is hk hall.out hg
        have TT := Lib.hid (PhTold.of (hup.bd (by omega)))
        have HS1 : Hid (∀ w : World, Calls Try.prog 81 #[.float .f64 (fsub .f64 4598175219545276416 (phF f k))] w fun e w' => e = .returned (.float .f64 (cosV (phF f k))) ∧ w = w') := Lib.hid (fun w => spec_l01SineWide (fsub .f64 4598175219545276416 (phF f k)) TT.out.qfin TT.out.qwhole TT.out.qge TT.out.qle w)
        have HS2 : Hid (∀ w : World, Calls Try.prog 81 #[.float .f64 (phF f k)] w fun e w' => e = .returned (.float .f64 (sinV (phF f k))) ∧ w = w') := Lib.hid (fun w => spec_l01SineWide (phF f k) TT.out.gfin TT.out.gwhole TT.out.gge TT.out.gle w)
        rw [hK] at HA HB
        obtain ⟨fc, gc, kc, dc⟩ := conv_narrow _ TT.out.nc
        obtain ⟨fs, gs, ks, ds⟩ := conv_narrow _ TT.out.ns
        obtain ⟨fc0, gc0, kc0, dc0⟩ := conv_narrow _ TT.out.nc0
        obtain ⟨fs0, gs0, ks0, ds0⟩ := conv_narrow _ TT.out.ns0
        have D_c := Lib.hid dc
        have D_s := Lib.hid ds
        have D_c0 := Lib.hid dc0
        have D_s0 := Lib.hid ds0
        have rq := TT.out.sub
        have rs := TT.out.s0
        have rc := TT.out.c0
        unfold geD at hg
        clear dc ds dc0 ds0 TT hup hall hK HU
        have hk5 : k = 0 ∨ k = 1 ∨ k = 2 ∨ k = 3 ∨ k = 4 := by omega
        have e1 : phRe 0 (cosV (phF f k)) (sinV (phF f k)) = cosV (phF f k) ∧ phIm 0 (cosV (phF f k)) (sinV (phF f k)) = sinV (phF f k) ∧ phRe 1 (cosV (phF f k)) (sinV (phF f k)) = fsub .f64 0 (sinV (phF f k)) ∧ phIm 1 (cosV (phF f k)) (sinV (phF f k)) = cosV (phF f k) ∧
            phRe 2 (cosV (phF f k)) (sinV (phF f k)) = fsub .f64 0 (cosV (phF f k)) ∧ phIm 2 (cosV (phF f k)) (sinV (phF f k)) = fsub .f64 0 (sinV (phF f k)) ∧ phRe 3 (cosV (phF f k)) (sinV (phF f k)) = sinV (phF f k) ∧ phIm 3 (cosV (phF f k)) (sinV (phF f k)) = fsub .f64 0 (cosV (phF f k)) ∧
            phRe 4 (cosV (phF f k)) (sinV (phF f k)) = cosV (phF f k) ∧ phIm 4 (cosV (phF f k)) (sinV (phF f k)) = sinV (phF f k) := ⟨rfl, rfl, rfl, rfl, rfl, rfl, rfl, rfl, rfl, rfl⟩
        have HE := Lib.hid e1
        clear e1
        have HAA1 := Lib.hid HA
        have HBB1 := Lib.hid HB
        clear HA HB
        generalize fsub .f64 0 (cosV (phF f k)) = c0 at *
        generalize fsub .f64 0 (sinV (phF f k)) = s0 at *
        generalize cosV (phF f k) = c at *
        generalize sinV (phF f k) = s at *
        generalize fsub .f64 4598175219545276416 (phF f k) = qg at *
        generalize phF f k = g at *
        rcases hk5 with rfl | rfl | rfl | rfl | rfl
        · go_wp2_with fail
          refine (HS1.out _).mono ?_
          rintro e w' ⟨rfl, rfl⟩
          go_wp2_with fail
          refine (HS2.out _).mono ?_
          rintro e w' ⟨rfl, rfl⟩
          go_wp2_with (first | (go_at_call 80; go_in))
          go_ret
          exact ⟨_, _, _, rfl, by rw [HAA1.out, HE.out.1]; exact (D_c.out _).1, by rw [HBB1.out, HE.out.2.1]; exact (D_s.out _).1, rfl⟩
        · go_wp2_with fail
          refine (HS1.out _).mono ?_
          rintro e w' ⟨rfl, rfl⟩
          go_wp2_with fail
          refine (HS2.out _).mono ?_
          rintro e w' ⟨rfl, rfl⟩
          go_wp2_with (first | (go_at_call 80; go_in))
          go_ret
          exact ⟨_, _, _, rfl, by rw [HAA1.out, HE.out.2.2.1]; exact (D_s0.out _).1, by rw [HBB1.out, HE.out.2.2.2.1]; exact (D_c.out _).1, rfl⟩
        · go_wp2_with fail
          refine (HS1.out _).mono ?_
          rintro e w' ⟨rfl, rfl⟩
          go_wp2_with fail
          refine (HS2.out _).mono ?_
          rintro e w' ⟨rfl, rfl⟩
          go_wp2_with (first | (go_at_call 80; go_in))
          go_ret
          exact ⟨_, _, _, rfl, by rw [HAA1.out, HE.out.2.2.2.2.1]; exact (D_c0.out _).1, by rw [HBB1.out, HE.out.2.2.2.2.2.1]; exact (D_s0.out _).1, rfl⟩
        · go_wp2_with fail
          refine (HS1.out _).mono ?_
          rintro e w' ⟨rfl, rfl⟩
          go_wp2_with fail
          refine (HS2.out _).mono ?_
          rintro e w' ⟨rfl, rfl⟩
          go_wp2_with (first | (go_at_call 80; go_in))
          go_ret
          exact ⟨_, _, _, rfl, by rw [HAA1.out, HE.out.2.2.2.2.2.2.1]; exact (D_s.out _).1, by rw [HBB1.out, HE.out.2.2.2.2.2.2.2.1]; exact (D_c0.out _).1, rfl⟩
        · go_wp2_with fail
          refine (HS1.out _).mono ?_
          rintro e w' ⟨rfl, rfl⟩
          go_wp2_with fail
          refine (HS2.out _).mono ?_
          rintro e w' ⟨rfl, rfl⟩
          go_wp2_with (first | (go_at_call 80; go_in))
          go_ret
          exact ⟨_, _, _, rfl, by rw [HAA1.out, HE.out.2.2.2.2.2.2.2.2.1]; exact (D_c.out _).1, by rw [HBB1.out, HE.out.2.2.2.2.2.2.2.2.2]; exact (D_s.out _).1, rfl⟩
  | true =>
    simp only [if_true, if_false, Bool.false_eq_true] at EB
    subst EB
    go_enter Try.func57, Try.ntmps57
    go_wp2
    go_loopw [3, 4] (fun fv qv wr => ∃ k : Nat, k ≤ 4 ∧ qv = .int .i64 k ∧ fv = .float .f64 (phF f k) ∧ Hid (∀ i, i < k → geD (phF f i) 4598175219545276416 = true) ∧ wr = w) (fun _ qv _ => 4 - (intOf qv).toNat)
    case atStart => exact ⟨0, by omega, rfl, rfl, Lib.hid (fun i hi => absurd hi (Nat.not_lt_zero _)), rfl⟩
    case round =>
      obtain ⟨k, hk, rfl, rfl, hall, rfl⟩ := hrel
      have hup := phF_up HU.out k hk hall.out
      cases hg : geD (phF f k) 4598175219545276416 with
      | true =>
        have hk4 : k < 4 := by
          refine Nat.not_le.1 fun h4 => ?_
          have : k = 4 := by omega
          subst this
          rw [Up.none hup] at hg
          cases hg
        have hr : ∀ w : World, (binOp .sub 31 (.float .f64 (phF f k)) (.float .f64 4598175219545276416)).run Try.prog w = .ok (.float .f64 (phF f (k + 1))) w := fun w => run_exact .sub rfl 31 _ _ (((hup.bd (by omega)).sub quarter_bd (by omega)).num) w
        have hall2 : Hid (∀ i, i < k + 1 → geD (phF f i) 4598175219545276416 = true) := Lib.hid (fun i hi => by
          by_cases e : i = k
          · subst e; exact hg
          · exact hall.out i (by omega))
        unfold geD at hg
        generalize hnx : phF f (k + 1) = nx at hr
        have HNX := Lib.hid hnx
        clear hup hall hnx
        generalize phF f k = fk at hr hg ⊢
        go_wp2
        go_roundw
        case rel => exact ⟨k + 1, by omega, by first | rfl | go_num, by rw [HNX.out], hall2, by first | trivial | rfl⟩
        case measure => simp [intOf]; omega
      | false =>
        have hK := phK_is hk hall.out hg
        have TT := Lib.hid (PhTold.of (hup.bd (by omega)))
        have HS1 : Hid (∀ w : World, Calls Try.prog 81 #[.float .f64 (fsub .f64 4598175219545276416 (phF f k))] w fun e w' => e = .returned (.float .f64 (cosV (phF f k))) ∧ w = w') := Lib.hid (fun w => spec_l01SineWide (fsub .f64 4598175219545276416 (phF f k)) TT.out.qfin TT.out.qwhole TT.out.qge TT.out.qle w)
        have HS2 : Hid (∀ w : World, Calls Try.prog 81 #[.float .f64 (phF f k)] w fun e w' => e = .returned (.float .f64 (sinV (phF f k))) ∧ w = w') := Lib.hid (fun w => spec_l01SineWide (phF f k) TT.out.gfin TT.out.gwhole TT.out.gge TT.out.gle w)
        rw [hK] at HA HB
        obtain ⟨fc, gc, kc, dc⟩ := conv_narrow _ TT.out.nc
        obtain ⟨fs, gs, ks, ds⟩ := conv_narrow _ TT.out.ns
        obtain ⟨fc0, gc0, kc0, dc0⟩ := conv_narrow _ TT.out.nc0
        obtain ⟨fs0, gs0, ks0, ds0⟩ := conv_narrow _ TT.out.ns0
        have D_c := Lib.hid dc
        have D_s := Lib.hid ds
        have D_c0 := Lib.hid dc0
        have D_s0 := Lib.hid ds0
        have rq := TT.out.sub
        have rs := TT.out.s0
        have rc := TT.out.c0
        unfold geD at hg
        clear dc ds dc0 ds0 TT hup hall hK HU
        have hk5 : k = 0 ∨ k = 1 ∨ k = 2 ∨ k = 3 ∨ k = 4 := by omega
        have e1 : phRe 0 (cosV (phF f k)) (sinV (phF f k)) = cosV (phF f k) ∧ phIm 0 (cosV (phF f k)) (sinV (phF f k)) = sinV (phF f k) ∧ phRe 1 (cosV (phF f k)) (sinV (phF f k)) = fsub .f64 0 (sinV (phF f k)) ∧ phIm 1 (cosV (phF f k)) (sinV (phF f k)) = cosV (phF f k) ∧
            phRe 2 (cosV (phF f k)) (sinV (phF f k)) = fsub .f64 0 (cosV (phF f k)) ∧ phIm 2 (cosV (phF f k)) (sinV (phF f k)) = fsub .f64 0 (sinV (phF f k)) ∧ phRe 3 (cosV (phF f k)) (sinV (phF f k)) = sinV (phF f k) ∧ phIm 3 (cosV (phF f k)) (sinV (phF f k)) = fsub .f64 0 (cosV (phF f k)) ∧
            phRe 4 (cosV (phF f k)) (sinV (phF f k)) = cosV (phF f k) ∧ phIm 4 (cosV (phF f k)) (sinV (phF f k)) = sinV (phF f k) := ⟨rfl, rfl, rfl, rfl, rfl, rfl, rfl, rfl, rfl, rfl⟩
        have HE := Lib.hid e1
        clear e1
        have HAA1 := Lib.hid HA
        have HBB1 := Lib.hid HB
        clear HA HB
        generalize fsub .f64 0 (cosV (phF f k)) = c0 at *
        generalize fsub .f64 0 (sinV (phF f k)) = s0 at *
        generalize cosV (phF f k) = c at *
        generalize sinV (phF f k) = s at *
        generalize fsub .f64 4598175219545276416 (phF f k) = qg at *
        generalize phF f k = g at *
        rcases hk5 with rfl | rfl | rfl | rfl | rfl
        · go_wp2_with fail
          refine (HS1.out _).mono ?_
          rintro e w' ⟨rfl, rfl⟩
          go_wp2_with fail
          refine (HS2.out _).mono ?_
          rintro e w' ⟨rfl, rfl⟩
          go_wp2_with (first | (go_at_call 80; go_in))
          go_ret
          exact ⟨_, _, _, rfl, by rw [HAA1.out, HE.out.1]; exact (D_c.out _).1, by rw [HBB1.out, HE.out.2.1]; exact (D_s.out _).1, rfl⟩
        · go_wp2_with fail
          refine (HS1.out _).mono ?_
          rintro e w' ⟨rfl, rfl⟩
          go_wp2_with fail
          refine (HS2.out _).mono ?_
          rintro e w' ⟨rfl, rfl⟩
          go_wp2_with (first | (go_at_call 80; go_in))
          go_ret
          exact ⟨_, _, _, rfl, by rw [HAA1.out, HE.out.2.2.1]; exact (D_s0.out _).1, by rw [HBB1.out, HE.out.2.2.2.1]; exact (D_c.out _).1, rfl⟩
        · go_wp2_with fail
          refine (HS1.out _).mono ?_
          rintro e w' ⟨rfl, rfl⟩
          go_wp2_with fail
          refine (HS2.out _).mono ?_
          rintro e w' ⟨rfl, rfl⟩
          go_wp2_with (first | (go_at_call 80; go_in))
          go_ret
          exact ⟨_, _, _, rfl, by rw [HAA1.out, HE.out.2.2.2.2.1]; exact (D_c0.out _).1, by rw [HBB1.out, HE.out.2.2.2.2.2.1]; exact (D_s0.out _).1, rfl⟩
        · go_wp2_with fail
          refine (HS1.out _).mono ?_
          rintro e w' ⟨rfl, rfl⟩
          go_wp2_with fail
          refine (HS2.out _).mono ?_
          rintro e w' ⟨rfl, rfl⟩
          go_wp2_with (first | (go_at_call 80; go_in))
          go_ret
          exact ⟨_, _, _, rfl, by rw [HAA1.out, HE.out.2.2.2.2.2.2.1]; exact (D_s.out _).1, by rw [HBB1.out, HE.out.2.2.2.2.2.2.2.1]; exact (D_c0.out _).1, rfl⟩
        · go_wp2_with fail
          refine (HS1.out _).mono ?_
          rintro e w' ⟨rfl, rfl⟩
          go_wp2_with fail
          refine (HS2.out _).mono ?_
          rintro e w' ⟨rfl, rfl⟩
          go_wp2_with (first | (go_at_call 80; go_in))
          go_ret
          exact ⟨_, _, _, rfl, by rw [HAA1.out, HE.out.2.2.2.2.2.2.2.2.1]; exact (D_c.out _).1, by rw [HBB1.out, HE.out.2.2.2.2.2.2.2.2.2]; exact (D_s.out _).1, rfl⟩

theorem spec_from (w : World) : Calls Try.prog 90 #[.int .i64 2143289344] w fun e w' => e = .returned (.float .f32 2143289344) ∧ w = w' := by
  go_enter Try.func90, Try.ntmps90
  go_wp2
  go_ret
  exact ⟨rfl, rfl⟩
theorem nan32 : isN .f32 2143289344 = true := by decide +kernel

theorem impl_PhasorOf (x : Nat) (hx : x < 2 ^ 64) (w : World) : Calls Try.prog 25 #[.float .f64 x] w (PhOut x w) := by
  cases hf : finB .f64 x with
  | false =>
    have EA : Hid (phA x = nanb .f32) := Lib.hid (by unfold phA; rw [hf]; rfl)
    have EB : Hid (phB x = nanb .f32) := Lib.hid (by unfold phB; rw [hf]; rfl)
    obtain ⟨f0, g0, hC0, hD0⟩ := conv_narrow 9221120237041090561 (narrow_nan nan_c)
    have hnan : isN .f32 (fconv .f64 9221120237041090561 .f32) = true := by decide +kernel
    have HD0 : Hid (∀ w, Same .f32 (f0 w) (nanb .f32)) := Lib.hid (fun w => Same.of_nan ((hD0 w).1.isN.trans hnan) (isN_nanb .f32))
    have HFIN := Lib.hid (fun w => impl_finite x w hx)
    have HFV := Lib.hid hf
    clear hf hD0 hnan hx
    go_enter Try.func25, Try.ntmps25
    go_wp2_with fail
    refine (HFIN.out _).mono ?_
    rintro e w' ⟨rfl, rfl⟩
    rw [HFV.out]
    go_wp2_with (first | (go_at_call 48; refine (math_NaN _).mono ?_; rintro e w' ⟨rfl, rfl⟩))
    go_ret
    exact ⟨_, _, _, rfl, by rw [EA.out]; exact HD0.out _, by rw [EB.out]; exact HD0.out _, rfl⟩
  | true =>
    have h : rung Ieee.double x < Ieee.double.infRung := by unfold finB at hf; exact of_decide_eq_true hf
    by_cases hfar : 2 ^ 1126 ≤ mag Ieee.double (rung Ieee.double x)
    · have EA : Hid (phA x = 1065353216) := Lib.hid (by unfold phA; rw [hf, decide_eq_true hfar]; rfl)
      have EB : Hid (phB x = 0) := Lib.hid (by unfold phB; rw [hf, decide_eq_true hfar]; rfl)
      have HFIN := Lib.hid (fun w => impl_finite x w hx)
      have HFV := Lib.hid hf
      have ha := far_abs (fin_num hf)
      have HAB := Lib.hid (fun w => math_Abs x w hx)
      obtain ⟨a, haa⟩ : ∃ a, a = x % 2 ^ 63 := ⟨_, rfl⟩
      rw [← haa, decide_eq_true hfar] at ha
      have HAA := Lib.hid haa
      unfold geD at ha
      clear hf h haa hfar hx
      go_enter Try.func25, Try.ntmps25
      go_wp2_with fail
      refine (HFIN.out _).mono ?_
      rintro e w' ⟨rfl, rfl⟩
      rw [HFV.out]
      go_wp2_with fail
      refine (HAB.out _).mono ?_
      rintro e w' ⟨rfl, rfl⟩
      rw [← HAA.out]
      go_wp2
      go_ret
      exact ⟨_, _, 0, rfl, by rw [EA.out]; exact Same.refl _ _, by rw [EB.out]; exact Same.refl _ _, by simp [World.drewN_zero]⟩
    · exact impl_near x hx h hfar w

theorem spec_l01Phasor (x : Nat) (hx : x < 2 ^ 64) (w : World) : Calls Try.prog 57 #[.float .f64 x] w (PhOut x w) := by
  cases hf : finB .f64 x with
  | false =>
    have EA : Hid (phA x = nanb .f32) := Lib.hid (by unfold phA; rw [hf]; rfl)
    have EB : Hid (phB x = nanb .f32) := Lib.hid (by unfold phB; rw [hf]; rfl)
    have hS := fun a b w => run_afv Try.prog .sub rfl 31 .f64 a b w
    have FY : ∀ w, (FloatKind.f64.format.order (afv .sub .f64 x x w) 0 != some .eq) = true := fun w => by rw [sub_self_cmp' ⟨cn_afv .sub rfl .f64 _ _ _⟩, hf]; rfl
    clear hf hx
    go_enter Try.func57, Try.ntmps57
    go_wp2_with (first | (go_at_call 90; refine (spec_from _).mono ?_; rintro e w' ⟨rfl, rfl⟩))
    go_ret
    exact ⟨_, _, _, rfl, by rw [EA.out]; exact Same.of_nan nan32 (isN_nanb .f32), by rw [EB.out]; exact Same.of_nan nan32 (isN_nanb .f32), rfl⟩
  | true =>
    have h : rung Ieee.double x < Ieee.double.infRung := by unfold finB at hf; exact of_decide_eq_true hf
    by_cases hfar : 2 ^ 1126 ≤ mag Ieee.double (rung Ieee.double x)
    · have EA : Hid (phA x = 1065353216) := Lib.hid (by unfold phA; rw [hf, decide_eq_true hfar]; rfl)
      have EB : Hid (phB x = 0) := Lib.hid (by unfold phB; rw [hf, decide_eq_true hfar]; rfl)
      have hS := fun a b w => run_afv Try.prog .sub rfl 31 .f64 a b w
      have FY : ∀ w, (FloatKind.f64.format.order (afv .sub .f64 x x w) 0 != some .eq) = false := fun w => by rw [sub_self_cmp' ⟨cn_afv .sub rfl .f64 _ _ _⟩, hf]; rfl
      have hb := far_both (fin_num hf)
      rw [decide_eq_true hfar] at hb
      cases hg : geD x 4841369599423283200 with
      | true =>
        unfold geD at hg
        clear hf h hfar hx hb
        go_enter Try.func57, Try.ntmps57
        go_wp2
        go_ret
        exact ⟨_, _, _, rfl, by rw [EA.out]; exact Same.refl _ _, by rw [EB.out]; exact Same.refl _ _, rfl⟩
      | false =>
        have hl : leD x 14064741636278059008 = true := by simpa [hg] using hb
        unfold geD at hg
        unfold leD at hl
        clear hf h hfar hx hb
        go_enter Try.func57, Try.ntmps57
        go_wp2
        go_ret
        exact ⟨_, _, _, rfl, by rw [EA.out]; exact Same.refl _ _, by rw [EB.out]; exact Same.refl _ _, rfl⟩
    · exact spec_near x hx h hfar w

/-! ### The law. -/
theorem run_ftf (x : Nat) (w : World) : ∃ r n, (Conv.floatToFloat .f32 x .f64).run Try.prog w = .ok (.float .f64 r) (w.drewN n) ∧ Same .f64 r (fwid x) := by
  obtain ⟨r, n, h1, h2, _⟩ := run_fconv (P := Try.prog) 27 31 .f32 .f64 (by decide) x w (by rw [Try.underlying27]; rfl) Try.underlying31
  refine ⟨r, n, ?_, h2 (fover_wid x)⟩
  rw [← h1]
  simp [convert, run_underlying Try.underlying27, run_underlying Try.underlying31]
theorem run_cplx (a b : Nat) (w : World) : ∃ r1 r2 n, (convert 40 43 (.complex .f32 a b)).run Try.prog w = .ok (.complex .f64 r1 r2) (w.drewN n) ∧ Same .f64 r1 (fwid a) ∧ Same .f64 r2 (fwid b) := by
  obtain ⟨r1, n1, h1, s1⟩ := run_ftf a w
  obtain ⟨r2, n2, h2, s2⟩ := run_ftf b (w.drewN n1)
  refine ⟨r1, r2, n1 + n2, ?_, s1, s2⟩
  have e0 : (convert 40 43 (.complex .f32 a b)).run Try.prog w = (Conv.complexToComplex .f32 a b .f64).run Try.prog w := by
    simp [convert, run_underlying Try.underlying40, run_underlying Try.underlying43]
  rw [e0]
  unfold Conv.complexToComplex
  simp [h1, h2]
theorem conv_cplx (a b : Nat) : ∃ (f1 f2 g : World → Nat), (∀ w, (convert 40 43 (.complex .f32 a b)).run Try.prog w = .ok (.complex .f64 (f1 w) (f2 w)) (w.drewN (g w))) ∧ ∀ w, Same .f64 (f1 w) (fwid a) ∧ Same .f64 (f2 w) (fwid b) := by
  have hh : ∀ w, ∃ p : Nat × Nat × Nat, (convert 40 43 (.complex .f32 a b)).run Try.prog w = .ok (.complex .f64 p.1 p.2.1) (w.drewN p.2.2) ∧ Same .f64 p.1 (fwid a) ∧ Same .f64 p.2.1 (fwid b) := by
    intro w
    obtain ⟨r1, r2, n, h1, h2, h3⟩ := run_cplx a b w
    exact ⟨(r1, r2, n), h1, h2, h3⟩
  obtain ⟨f, hf⟩ := Classical.skolem.1 hh
  exact ⟨fun w => (f w).1, fun w => (f w).2.1, fun w => (f w).2.2, fun w => (hf w).1, fun w => (hf w).2⟩
theorem same_complex (a b c d : Nat) (w : World) (h1 : Same .f64 a c) (h2 : Same .f64 b d) :
    Calls Try.prog 26 #[.complex .f64 a b, .complex .f64 c d] w fun e w' => ∃ n, e = .returned (.bool true) ∧ w' = w.drewN n := by
  have H1 := Lib.hid h1
  have H2 := Lib.hid h2
  clear h1 h2
  go_enter Try.func26, Try.ntmps26
  go_wp2_with fail
  refine (sameFloat_true _ _ _ H1.out).mono ?_
  rintro e w' ⟨n, rfl, rfl⟩
  go_wp2_with fail
  refine (sameFloat_true _ _ _ H2.out).mono ?_
  rintro e w' ⟨n2, rfl, rfl⟩
  go_wp2
  go_ret
  exact ⟨_, rfl, rfl⟩

theorem walk_FnExactPhasorOf (x : Nat) (w : World) (wf : (Lit.float .f64 x).wf = true) :
    Calls Try.prog 7 #[.float .f64 x] w fun e w' => e = .returned (.bool true) ∧ Below w.heap.size w w' := by
  have hx : x < 2 ^ 64 := by simpa [Lit.wf] using wf
  have HX := Lib.hid hx
  clear wf hx
  go_enter Try.func7, Try.ntmps7
  go_wp2_with (first | (go_at_call 24; go_in) | (go_at_call 57; refine (spec_l01Phasor x HX.out _).mono ?_; rintro e w1 ⟨a1, b1, n1, rfl, sa1, sb1, rfl⟩; have SA1 := Lib.hid sa1; have SB1 := Lib.hid sb1; clear sa1 sb1))
  refine (impl_PhasorOf x HX.out _).mono ?_
  rintro e w2 ⟨a2, b2, n2, rfl, sa2, sb2, rfl⟩
  obtain ⟨f1, f2, g1, k1, d1⟩ := conv_cplx a2 b2
  obtain ⟨f3, f4, g2, k2, d2⟩ := conv_cplx a1 b1
  have e1 : fwid a2 = fwid a1 := (sa2.trans SA1.out.symm).conv .f64
  have e2 : fwid b2 = fwid b1 := (sb2.trans SB1.out.symm).conv .f64
  have S1 := Lib.hid (fun u v => show Same .f64 (f1 u) (f3 v) from (d1 u).1.trans (e1 ▸ (d2 v).1.symm))
  have S2 := Lib.hid (fun u v => show Same .f64 (f2 u) (f4 v) from (d1 u).2.trans (e2 ▸ (d2 v).2.symm))
  clear d1 d2 e1 e2 sa2 sb2
  go_wp2_with fail
  refine (same_complex _ _ _ _ _ (S1.out _ _) (S2.out _ _)).mono ?_
  rintro e w3 ⟨n3, rfl, rfl⟩
  go_wp2
  go_ret
  exact ⟨rfl, by first | exact Below.refl _ _ | exact below_drewN (Below.refl _ _) _⟩

end Go.Proofs.Ytcnamhmoocdccaa
