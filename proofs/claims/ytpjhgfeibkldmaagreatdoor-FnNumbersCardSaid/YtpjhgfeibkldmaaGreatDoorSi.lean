/- Sines of turns: the numbers, both walks, and the law. Under no condition. -/
import Derived.Test.YtpjhgfeibkldmaaGreatDoorTr
import Derived.Test.YtpjhgfeibkldmaaGreatDoorAo
namespace Go.Proofs.YtpjhgfeibkldmaaGreatDoor
open Go Go.RowKit
set_option linter.unusedVariables false
set_option linter.unusedSimpArgs false
set_option exponentiation.threshold 5000

theorem narrow_far {b n : Nat} (h : Lim .f64 n b) (hn : n ≤ 2 ^ 1200) : fover .f64 b .f32 = false := by
  have l1 : Ieee.single.leastPlace = -149 := by decide
  have l2 : Ieee.double.leastPlace = -1074 := by decide
  obtain ⟨m, e, h1, h2, _, _⟩ := read_fin Ieee.double b h.fin
  unfold fover
  rw [show FloatKind.f64.format.read b = _ from h1]
  have hc : (253 * 2 ^ 23 : Nat) < Ieee.single.infRung := by decide
  have hm : mag Ieee.single (253 * 2 ^ 23) = 2 ^ 23 * 2 ^ 252 := by decide
  have hL := write_lim .f32 (sgn Ieee.double b) m (Ieee.double.leastPlace + e) (253 * 2 ^ 23) hc (by
    show m * 2 ^ (Ieee.double.leastPlace + (e : Int) - Ieee.single.leastPlace).toNat ≤ mag Ieee.single (253 * 2 ^ 23) * 2 ^ (Ieee.single.leastPlace - (Ieee.double.leastPlace + (e : Int))).toNat
    rw [hm, l1, l2, ← Nat.pow_add]
    have hle : m * 2 ^ e ≤ 2 ^ 1200 := by rw [h2]; exact Nat.le_trans h.le hn
    by_cases he : 925 ≤ e
    · rw [show (-1074 + (e : Int) - -149).toNat = e - 925 by omega, show (-149 - (-1074 + (e : Int))).toNat = 0 by omega, Nat.pow_zero, Nat.mul_one]
      refine Nat.le_of_mul_le_mul_right ?_ (Nat.two_pow_pos 925)
      rw [Nat.mul_assoc, ← Nat.pow_add, ← Nat.pow_add, Nat.sub_add_cancel he]
      exact hle
    · rw [show (-1074 + (e : Int) - -149).toNat = 0 by omega, show (-149 - (-1074 + (e : Int))).toNat = 925 - e by omega, Nat.pow_zero, Nat.mul_one]
      refine Nat.le_of_mul_le_mul_right ?_ (Nat.two_pow_pos e)
      rw [← Nat.pow_add, ← Nat.pow_add, show 23 + 252 + (925 - e) + e = 1200 by omega]
      exact hle)
  have hf := hL.fin
  obtain ⟨m', e', h3, _⟩ := read_fin Ieee.single _ hf
  show (Ieee.single.read (Ieee.single.write (.number (sgn Ieee.double b) m (Ieee.double.leastPlace + e)))).isInfinity = false
  rw [show Ieee.single.read (Ieee.single.write (.number (sgn Ieee.double b) m (Ieee.double.leastPlace + e))) = _ from h3]
  rfl


theorem Bd.narrow2 {a x : Nat} (h : Bd a x) (g : a ≤ 126) : fover .f64 x .f32 = false := narrow_far (h.mono g) (Nat.le_refl _)

theorem tn_num {x : Nat} (hw : whole x < 2 ^ 53) : isN .f64 (tn x) = false := by
  have hM := Ieee.double.infRung_lt
  obtain ⟨d, d1, d2, d3, d4⟩ := write_whole (sgn Ieee.double x && decide (whole x ≠ 0)) (whole x) hw
  rw [tn_write, d3, isN_eq]
  show decide (Ieee.double.infRung < rung Ieee.double (Ieee.double.word (sgn Ieee.double x && decide (whole x ≠ 0)) d)) = false
  rw [rung_word _ _ _ (by omega), decide_eq_false_iff_not]
  omega
/-- An operation whose result is a number draws nothing. -/
theorem run_exact (op : BinOp) (hop : isArith op = true) (t : TypeId) (x y : Nat) (h : isN .f64 (fbin op .f64 x y) = false) (w : World) : (binOp op t (.float .f64 x) (.float .f64 y)).run Tryz.prog w = .ok (.float .f64 (fbin op .f64 x y)) w := by
  rw [run_afv Tryz.prog op hop t .f64 x y w]
  have e := fbin_eq op hop .f64 x y
  unfold afv afn
  cases hb : floatBits op .f64 x y with
  | some r => rw [hb] at e; rw [e]; simp [World.drewN_zero]
  | none =>
    exfalso
    rw [hb] at e
    rw [e] at h
    have : isN .f64 (nanb .f64) = true := isN_nanb .f64
    simp [this] at h

def geD (a b : Nat) : Bool := (FloatKind.f64.format.order a b == some .gt || FloatKind.f64.format.order a b == some .eq)
def leD (a b : Nat) : Bool := (FloatKind.f64.format.order a b == some .lt || FloatKind.f64.format.order a b == some .eq)

def behV (x : Nat) : Nat := if ltZ (fsub .f64 x (tn x)) then fadd .f64 (fsub .f64 x (tn x)) 4607182418800017408 else fsub .f64 x (tn x)
def sinE (f : Nat) : Nat := if geD f 4602678819172646912 then fsub .f64 f 4602678819172646912 else f
def sinF (f : Nat) : Nat := if gtD (sinE f) 4598175219545276416 then fsub .f64 4602678819172646912 (sinE f) else sinE f
def sinZ (f : Nat) : Nat := fmul .f64 (sinF f) 4618760256179416344
def sinU (f : Nat) : Nat := fmul .f64 (sinZ f) (sinZ f)
def sinK (j : Nat) : Int := 2 * (8 - (j : Int)) * (2 * (8 - (j : Int)) + 1)
def sinP (u : Nat) : Nat → Nat
  | 0 => 4607182418800017408
  | j + 1 => fsub .f64 4607182418800017408 (fdiv .f64 (fmul .f64 u (sinP u j)) (floatOfInt .f64 (sinK j)))
def sinO (f : Nat) : Nat := fmul .f64 (sinZ f) (sinP (sinU f) 8)
def sineV (f : Nat) : Nat := if geD f 4602678819172646912 then Op.negFloat .f64 (sinO f) else sinO f

theorem half_bd : Bd 0 4602678819172646912 := ⟨by decide +kernel, by decide +kernel⟩
theorem full_bd : Bd 3 4618760256179416344 := ⟨by decide +kernel, by decide +kernel⟩
theorem behV_bd {x : Nat} (h : rung Ieee.double x < Ieee.double.infRung) (hw : whole x < 2 ^ 53) : Bd 1 (behV x) := by
  have h0 := left_bd h hw
  unfold behV
  split
  · exact h0.add one_bd (by omega)
  · exact h0.mono (by omega)
theorem sinE_bd {f : Nat} (h : Bd 1 f) : Bd 2 (sinE f) := by
  unfold sinE
  split
  · exact h.sub (half_bd.mono (by omega)) (by omega)
  · exact h.mono (by omega)
theorem sinF_bd {f : Nat} (h : Bd 1 f) : Bd 3 (sinF f) := by
  unfold sinF
  split
  · exact (half_bd.mono (by omega)).sub (sinE_bd h) (by omega)
  · exact (sinE_bd h).mono (by omega)
theorem sinZ_bd {f : Nat} (h : Bd 1 f) : Bd 6 (sinZ f) := (sinF_bd h).mul full_bd (by omega)
theorem sinU_bd {f : Nat} (h : Bd 1 f) : Bd 12 (sinU f) := (sinZ_bd h).mul (sinZ_bd h) (by omega)
theorem sinK_bd : ∀ j : Nat, j < 8 → rung FloatKind.f64.format (floatOfInt .f64 (sinK j)) < FloatKind.f64.format.infRung ∧ 2 ^ 1074 ≤ mag FloatKind.f64.format (rung FloatKind.f64.format (floatOfInt .f64 (sinK j))) := by decide +kernel
theorem sinK_wrap : ∀ j : Nat, j < 8 → IntKind.i64.wrap (2 * (8 - (j : Int))) = 2 * (8 - (j : Int)) ∧ IntKind.i64.wrap (2 * (8 - (j : Int)) + 1) = 2 * (8 - (j : Int)) + 1 ∧ IntKind.i64.wrap (2 * (8 - (j : Int)) * (2 * (8 - (j : Int)) + 1)) = sinK j ∧ IntKind.i64.wrap (8 - (j : Int) - 1) = 8 - ((j + 1 : Nat) : Int) := by decide +kernel
theorem sinP_step {u : Nat} (hu : Bd 12 u) {j : Nat} (hj : j < 8) (h : Bd (14 * j) (sinP u j)) : Bd (12 + 14 * j) (fmul .f64 u (sinP u j)) ∧ Bd (12 + 14 * j + 1) (fdiv .f64 (fmul .f64 u (sinP u j)) (floatOfInt .f64 (sinK j))) ∧ Bd (14 * (j + 1)) (sinP u (j + 1)) := by
  obtain ⟨c1, c2⟩ := sinK_bd j hj
  have h1 := hu.mul h (by omega)
  have h2 := h1.div c1 c2 (by omega)
  have h3 := (one_bd.mono (show 0 ≤ 12 + 14 * j + 1 by omega)).sub h2 (by omega)
  exact ⟨h1, h2, h3.mono (by omega)⟩
theorem sinP_bd {u : Nat} (hu : Bd 12 u) : ∀ j, j ≤ 8 → Bd (14 * j) (sinP u j) := by
  intro j
  induction j with
  | zero => intro _; exact one_bd
  | succ j ih => intro hj; exact (sinP_step hu (by omega) (ih (by omega))).2.2
theorem sinO_bd {f : Nat} (h : Bd 1 f) : Bd 118 (sinO f) := ((sinZ_bd h).mul (sinP_bd (sinU_bd h) 8 (Nat.le_refl _)) (by omega)).mono (by omega)
theorem sineV_bd {f : Nat} (h : Bd 1 f) : Bd 118 (sineV f) := by
  unfold sineV
  split
  · exact (sinO_bd h).neg
  · exact sinO_bd h

/-! ### The walks. -/
theorem run_trunc (x : Nat) (h : rung Ieee.double x < Ieee.double.infRung) (w : World) : (Extern.MathFloor.toIntegral "math.archTrunc" .zero #[.float .f64 x]).run Tryz.prog w = .ok (.float .f64 (Ieee.double.write (.number (sgn Ieee.double x) (whole x) 0))) w := by
  obtain ⟨m, e, h1, _⟩ := read_fin Ieee.double x h
  have h2 := integral_fin h
  have e1 : Extern.MathFloor.toIntegral "math.archTrunc" .zero #[.float .f64 x] = (match FloatKind.f64.decode x with
    | .nan s t =>
      if FloatKind.f64.format.quiet t = t then pure (.float .f64 x) else do
      let kept ← choose (.extern "math.Floor,Ceil,Trunc,RoundToEven.signallingNaN kept" 2)
      pure (.float .f64 (if kept == 1 then x else FloatKind.f64.encode (.nan s (FloatKind.f64.format.quiet t))))
    | d => pure (.float .f64 (FloatKind.f64.encode (d.integral .zero)))) := rfl
  have e2 : FloatKind.f64.decode x = .number (sgn Ieee.double x) m (Ieee.double.leastPlace + (e : Int)) := h1
  rw [e1, e2]
  rw [h1] at h2
  show Sem.run Tryz.prog (pure (Value.float .f64 (Ieee.double.write (Ieee.Datum.integral .zero (.number (sgn Ieee.double x) m (Ieee.double.leastPlace + (e : Int))))))) w = _
  rw [h2]
  rfl
theorem ext_trunc (x : Nat) (h : rung Ieee.double x < Ieee.double.infRung) (w : World) : (callFunc 117 #[.float .f64 x]).run Tryz.prog w = .ok (.value (.float .f64 (Ieee.double.write (.number (sgn Ieee.double x) (whole x) 0)))) w := by
  rw [run_callFunc_extern (e := Extern.MathFloor.toIntegral "math.archTrunc" .zero) Tryz.func117 (by kernel_rfl) (by kernel_rfl) (by kernel_rfl) (by kernel_rfl), run_trunc x h]; rfl
set_option maxRecDepth 8000 in
theorem math_Trunc (x : Nat) (h : rung Ieee.double x < Ieee.double.infRung) (w : World) :
    Calls Tryz.prog 98 #[.float .f64 x] w fun e w' => e = .returned (.float .f64 (Ieee.double.write (.number (sgn Ieee.double x) (whole x) 0))) ∧ w = w' := by
  have hx := ext_trunc x h w
  obtain ⟨r, hr⟩ : ∃ r, r = Ieee.double.write (.number (sgn Ieee.double x) (whole x) 0) := ⟨_, rfl⟩
  rw [← hr] at hx ⊢
  clear h hr
  go_enter Tryz.func98, Tryz.ntmps98
  go_wp2
  go_ret
  exact ⟨rfl, rfl⟩

theorem impl_behind (x : Nat) (h : rung Ieee.double x < Ieee.double.infRung) (hw : whole x < 2 ^ 53) (w : World) :
    Calls Tryz.prog 85 #[.float .f64 x] w fun e w' => e = .returned (.float .f64 (behV x)) ∧ w = w' := by
  have HT := Lib.hid (math_Trunc x h)
  have b0 := left_bd h hw
  have r1 : ∀ w, (binOp .add 46 (.float .f64 (Ieee.double.write (.number (sgn Ieee.double x) (whole x) 0))) (.float .f64 0)).run Tryz.prog w = .ok (.float .f64 (tn x)) w := fun w => by
    have e := trunc_zero h hw
    have hn : isN .f64 (tn x) = false := tn_num hw
    rw [run_exact .add rfl 46 _ _ (by show isN .f64 (fadd .f64 _ 0) = false; rw [e]; exact hn)]
    show Result.ok (Value.float .f64 (fadd .f64 _ 0)) w = _
    rw [e]
  have r2 := fun w => run_exact .sub rfl 46 x (tn x) b0.num w
  have r3 := fun w => run_exact .add rfl 46 (fsub .f64 x (tn x)) 4607182418800017408 (b0.add one_bd (by omega)).num w
  have E : Hid (behV x = if (FloatKind.f64.format.order (fsub .f64 x (tn x)) 0 == some .lt) then fadd .f64 (fsub .f64 x (tn x)) 4607182418800017408 else fsub .f64 x (tn x)) := Lib.hid rfl
  simp only [fbin] at r2 r3
  generalize behV x = v at E ⊢
  generalize Ieee.double.write (.number (sgn Ieee.double x) (whole x) 0) = tr at *
  generalize tn x = t at *
  generalize fsub .f64 x t = f0 at *
  generalize fadd .f64 f0 4607182418800017408 = f1 at *
  clear b0 h hw
  obtain ⟨b, hb⟩ : ∃ b, (FloatKind.f64.format.order f0 0 == some .lt) = b := ⟨_, rfl⟩
  rw [hb] at E
  cases b with
  | true =>
    go_enter Tryz.func85, Tryz.ntmps85
    go_wp2_with (first | (refine (HT.out _).mono ?_; rintro e w' ⟨rfl, rfl⟩))
    go_ret
    exact ⟨ret_f E.out.symm, rfl⟩
  | false =>
    go_enter Tryz.func85, Tryz.ntmps85
    go_wp2_with (first | (refine (HT.out _).mono ?_; rintro e w' ⟨rfl, rfl⟩))
    go_ret
    exact ⟨ret_f E.out.symm, rfl⟩

/-- What the walks of a sine are told of f. -/
structure SinTold (f : Nat) : Prop where
  sub : ∀ w : World, (binOp .sub 46 (.float .f64 f) (.float .f64 4602678819172646912)).run Tryz.prog w = .ok (.float .f64 (fsub .f64 f 4602678819172646912)) w
  turn : ∀ w : World, (binOp .sub 46 (.float .f64 4602678819172646912) (.float .f64 (sinE f))).run Tryz.prog w = .ok (.float .f64 (fsub .f64 4602678819172646912 (sinE f))) w
  z : ∀ w : World, (binOp .mul 46 (.float .f64 (sinF f)) (.float .f64 4618760256179416344)).run Tryz.prog w = .ok (.float .f64 (sinZ f)) w
  u : ∀ w : World, (binOp .mul 46 (.float .f64 (sinZ f)) (.float .f64 (sinZ f))).run Tryz.prog w = .ok (.float .f64 (sinU f)) w
  m : ∀ j, j < 8 → ∀ w : World, (binOp .mul 46 (.float .f64 (sinU f)) (.float .f64 (sinP (sinU f) j))).run Tryz.prog w = .ok (.float .f64 (fmul .f64 (sinU f) (sinP (sinU f) j))) w
  q : ∀ j, j < 8 → ∀ w : World, (binOp .quo 46 (.float .f64 (fmul .f64 (sinU f) (sinP (sinU f) j))) (.float .f64 (floatOfInt .f64 (sinK j)))).run Tryz.prog w = .ok (.float .f64 (fdiv .f64 (fmul .f64 (sinU f) (sinP (sinU f) j)) (floatOfInt .f64 (sinK j)))) w
  s : ∀ j, j < 8 → ∀ w : World, (binOp .sub 46 (.float .f64 4607182418800017408) (.float .f64 (fdiv .f64 (fmul .f64 (sinU f) (sinP (sinU f) j)) (floatOfInt .f64 (sinK j))))).run Tryz.prog w = .ok (.float .f64 (sinP (sinU f) (j + 1))) w
  o : ∀ w : World, (binOp .mul 46 (.float .f64 (sinZ f)) (.float .f64 (sinP (sinU f) 8))).run Tryz.prog w = .ok (.float .f64 (sinO f)) w
theorem SinTold.of {f : Nat} (h : Bd 1 f) : SinTold f := by
  have hu := sinU_bd h
  have hp := sinP_bd hu
  exact ⟨fun w => run_exact .sub rfl 46 _ _ (h.sub (half_bd.mono (by omega)) (by omega)).num w,
    fun w => run_exact .sub rfl 46 _ _ ((half_bd.mono (by omega)).sub (sinE_bd h) (by omega)).num w,
    fun w => run_exact .mul rfl 46 _ _ (sinZ_bd h).num w,
    fun w => run_exact .mul rfl 46 _ _ (sinU_bd h).num w,
    fun j hj w => run_exact .mul rfl 46 _ _ (sinP_step hu hj (hp j (by omega))).1.num w,
    fun j hj w => run_exact .quo rfl 46 _ _ (sinP_step hu hj (hp j (by omega))).2.1.num w,
    fun j hj w => run_exact .sub rfl 46 _ _ (sinP_step hu hj (hp j (by omega))).2.2.num w,
    fun w => run_exact .mul rfl 46 _ _ (sinO_bd h).num w⟩

set_option maxRecDepth 8000 in
set_option maxHeartbeats 2000000 in
theorem impl_sine (x : Nat) (h : rung Ieee.double x < Ieee.double.infRung) (hw : whole x < 2 ^ 53) (w : World) :
    Calls Tryz.prog 68 #[.float .f64 x] w fun e w' => e = .returned (.float .f64 (sineV (behV x))) ∧ w = w' := by
  have HB := Lib.hid (impl_behind x h hw)
  have TO := Lib.hid (SinTold.of (behV_bd h hw))
  generalize behV x = F at *
  clear h hw
  have hun := unary_neg64
  have r1 := TO.out.sub
  have r2 := TO.out.turn
  have r3 := TO.out.z
  have r4 := TO.out.u
  have r8 := TO.out.o
  have R5 := Lib.hid TO.out.m
  have R6 := Lib.hid TO.out.q
  have R7 := Lib.hid TO.out.s
  have EV : sineV F = if geD F 4602678819172646912 then Op.negFloat .f64 (sinO F) else sinO F := rfl
  have EF : sinF F = if gtD (sinE F) 4598175219545276416 then fsub .f64 4602678819172646912 (sinE F) else sinE F := rfl
  have EE : sinE F = if geD F 4602678819172646912 then fsub .f64 F 4602678819172646912 else F := rfl
  obtain ⟨g1, hg1⟩ : ∃ b, (FloatKind.f64.format.order F 4602678819172646912 == some .gt || FloatKind.f64.format.order F 4602678819172646912 == some .eq) = b := ⟨_, rfl⟩
  obtain ⟨g2, hg2⟩ : ∃ b, (FloatKind.f64.format.order (sinE F) 4598175219545276416 == some .gt) = b := ⟨_, rfl⟩
  have hq1 : geD F 4602678819172646912 = g1 := hg1
  have hq2 : gtD (sinE F) 4598175219545276416 = g2 := hg2
  rw [hq1] at EE EV
  rw [hq2] at EF
  clear hq1 hq2 TO
  generalize sineV F = v at *
  generalize sinO F = oo at *
  generalize sinU F = uu at *
  generalize sinZ F = zz at *
  generalize sinF F = sf at *
  generalize sinE F = se at *
  generalize fsub .f64 F 4602678819172646912 = fs at *
  generalize fsub .f64 4602678819172646912 se = ft at *
  cases g1 with
  | false =>
    simp only [if_true, if_false, Bool.false_eq_true] at EE EV
    subst EE
    cases g2 with
    | false =>
      simp only [if_true, if_false, Bool.false_eq_true] at EF
      subst EF
      go_enter Tryz.func68, Tryz.ntmps68
      go_wp2_with (first | (go_at_call 85; refine (HB.out _).mono ?_; rintro e w' ⟨rfl, rfl⟩))
      go_loopw [7, 8] (fun pv i wr => ∃ j : Nat, j ≤ 8 ∧ i = .int .i64 (8 - (j : Int)) ∧ pv = .float .f64 (sinP uu j) ∧ wr = w) (fun _ i _ => (intOf i).toNat)
      case atStart => exact ⟨0, by omega, rfl, rfl, rfl⟩
      case round =>
        obtain ⟨j, hj, rfl, rfl, rfl⟩ := hrel
        by_cases hlt : j < 8
        · obtain ⟨k1, k2, k3, k4⟩ := sinK_wrap j hlt
          have hge : (1 : Int) ≤ 8 - (j : Int) := by omega
          have r5 := R5.out j hlt
          have r6 := R6.out j hlt
          have r7 := R7.out j hlt
          have HP : Hid (sinP uu (j + 1) = sinP uu (j + 1)) := Lib.hid rfl
          generalize hpn : sinP uu (j + 1) = pn at r7
          have HPN := Lib.hid hpn
          clear hpn HP
          generalize fdiv .f64 (fmul .f64 uu (sinP uu j)) (floatOfInt .f64 (sinK j)) = dv at r6 r7
          generalize fmul .f64 uu (sinP uu j) = mv at r5 r6
          generalize sinP uu j = pj at r5 ⊢
          generalize sinK j = kj at k3 r6
          generalize hfk : floatOfInt .f64 kj = fk at r6
          go_wp2
          go_roundw
          case rel => exact ⟨j + 1, by omega, by first | rfl | (simp; omega) | go_num, by rw [HPN.out], by first | trivial | rfl⟩
          case measure => simp [intOf]; omega
        · have hj8 : j = 8 := by omega
          subst hj8
          clear hlt hj
          go_wp2
          go_ret
          exact ⟨ret_f EV.symm, rfl⟩
    | true =>
      simp only [if_true, if_false, Bool.false_eq_true] at EF
      subst EF
      go_enter Tryz.func68, Tryz.ntmps68
      go_wp2_with (first | (go_at_call 85; refine (HB.out _).mono ?_; rintro e w' ⟨rfl, rfl⟩))
      go_loopw [7, 8] (fun pv i wr => ∃ j : Nat, j ≤ 8 ∧ i = .int .i64 (8 - (j : Int)) ∧ pv = .float .f64 (sinP uu j) ∧ wr = w) (fun _ i _ => (intOf i).toNat)
      case atStart => exact ⟨0, by omega, rfl, rfl, rfl⟩
      case round =>
        obtain ⟨j, hj, rfl, rfl, rfl⟩ := hrel
        by_cases hlt : j < 8
        · obtain ⟨k1, k2, k3, k4⟩ := sinK_wrap j hlt
          have hge : (1 : Int) ≤ 8 - (j : Int) := by omega
          have r5 := R5.out j hlt
          have r6 := R6.out j hlt
          have r7 := R7.out j hlt
          have HP : Hid (sinP uu (j + 1) = sinP uu (j + 1)) := Lib.hid rfl
          generalize hpn : sinP uu (j + 1) = pn at r7
          have HPN := Lib.hid hpn
          clear hpn HP
          generalize fdiv .f64 (fmul .f64 uu (sinP uu j)) (floatOfInt .f64 (sinK j)) = dv at r6 r7
          generalize fmul .f64 uu (sinP uu j) = mv at r5 r6
          generalize sinP uu j = pj at r5 ⊢
          generalize sinK j = kj at k3 r6
          generalize hfk : floatOfInt .f64 kj = fk at r6
          go_wp2
          go_roundw
          case rel => exact ⟨j + 1, by omega, by first | rfl | (simp; omega) | go_num, by rw [HPN.out], by first | trivial | rfl⟩
          case measure => simp [intOf]; omega
        · have hj8 : j = 8 := by omega
          subst hj8
          clear hlt hj
          go_wp2
          go_ret
          exact ⟨ret_f EV.symm, rfl⟩
  | true =>
    simp only [if_true, if_false, Bool.false_eq_true] at EE EV
    subst EE
    cases g2 with
    | false =>
      simp only [if_true, if_false, Bool.false_eq_true] at EF
      subst EF
      go_enter Tryz.func68, Tryz.ntmps68
      go_wp2_with (first | (go_at_call 85; refine (HB.out _).mono ?_; rintro e w' ⟨rfl, rfl⟩))
      go_loopw [7, 8] (fun pv i wr => ∃ j : Nat, j ≤ 8 ∧ i = .int .i64 (8 - (j : Int)) ∧ pv = .float .f64 (sinP uu j) ∧ wr = w) (fun _ i _ => (intOf i).toNat)
      case atStart => exact ⟨0, by omega, rfl, rfl, rfl⟩
      case round =>
        obtain ⟨j, hj, rfl, rfl, rfl⟩ := hrel
        by_cases hlt : j < 8
        · obtain ⟨k1, k2, k3, k4⟩ := sinK_wrap j hlt
          have hge : (1 : Int) ≤ 8 - (j : Int) := by omega
          have r5 := R5.out j hlt
          have r6 := R6.out j hlt
          have r7 := R7.out j hlt
          have HP : Hid (sinP uu (j + 1) = sinP uu (j + 1)) := Lib.hid rfl
          generalize hpn : sinP uu (j + 1) = pn at r7
          have HPN := Lib.hid hpn
          clear hpn HP
          generalize fdiv .f64 (fmul .f64 uu (sinP uu j)) (floatOfInt .f64 (sinK j)) = dv at r6 r7
          generalize fmul .f64 uu (sinP uu j) = mv at r5 r6
          generalize sinP uu j = pj at r5 ⊢
          generalize sinK j = kj at k3 r6
          generalize hfk : floatOfInt .f64 kj = fk at r6
          go_wp2
          go_roundw
          case rel => exact ⟨j + 1, by omega, by first | rfl | (simp; omega) | go_num, by rw [HPN.out], by first | trivial | rfl⟩
          case measure => simp [intOf]; omega
        · have hj8 : j = 8 := by omega
          subst hj8
          clear hlt hj
          go_wp2
          go_ret
          exact ⟨ret_f EV.symm, rfl⟩
    | true =>
      simp only [if_true, if_false, Bool.false_eq_true] at EF
      subst EF
      go_enter Tryz.func68, Tryz.ntmps68
      go_wp2_with (first | (go_at_call 85; refine (HB.out _).mono ?_; rintro e w' ⟨rfl, rfl⟩))
      go_loopw [7, 8] (fun pv i wr => ∃ j : Nat, j ≤ 8 ∧ i = .int .i64 (8 - (j : Int)) ∧ pv = .float .f64 (sinP uu j) ∧ wr = w) (fun _ i _ => (intOf i).toNat)
      case atStart => exact ⟨0, by omega, rfl, rfl, rfl⟩
      case round =>
        obtain ⟨j, hj, rfl, rfl, rfl⟩ := hrel
        by_cases hlt : j < 8
        · obtain ⟨k1, k2, k3, k4⟩ := sinK_wrap j hlt
          have hge : (1 : Int) ≤ 8 - (j : Int) := by omega
          have r5 := R5.out j hlt
          have r6 := R6.out j hlt
          have r7 := R7.out j hlt
          have HP : Hid (sinP uu (j + 1) = sinP uu (j + 1)) := Lib.hid rfl
          generalize hpn : sinP uu (j + 1) = pn at r7
          have HPN := Lib.hid hpn
          clear hpn HP
          generalize fdiv .f64 (fmul .f64 uu (sinP uu j)) (floatOfInt .f64 (sinK j)) = dv at r6 r7
          generalize fmul .f64 uu (sinP uu j) = mv at r5 r6
          generalize sinP uu j = pj at r5 ⊢
          generalize sinK j = kj at k3 r6
          generalize hfk : floatOfInt .f64 kj = fk at r6
          go_wp2
          go_roundw
          case rel => exact ⟨j + 1, by omega, by first | rfl | (simp; omega) | go_num, by rw [HPN.out], by first | trivial | rfl⟩
          case measure => simp [intOf]; omega
        · have hj8 : j = 8 := by omega
          subst hj8
          clear hlt hj
          go_wp2
          go_ret
          exact ⟨ret_f EV.symm, rfl⟩

end Go.Proofs.YtpjhgfeibkldmaaGreatDoor

