/- Discs: the reference's DiscField. Under no condition. -/
import Derived.Test.YtcnamhmoocdccaaDa
namespace Go.Proofs.Ytcnamhmoocdccaa
open Go Go.RowKit
set_option linter.unusedVariables false
set_option linter.unusedSimpArgs false

def leB (a b : Nat) : Bool := (FloatKind.f32.format.order a b == some .lt || FloatKind.f32.format.order a b == some .eq)
def discC (u v rad : Nat) : Bool := leB (fadd .f32 (fmul .f32 u u) (fmul .f32 v v)) (fmul .f32 rad rad)
def discAt (X Y : Nat) (r : Bool) (x y rad i j : Nat) : Nat :=
  if discC (gapV (fsub .f32 (floatOfInt .f32 i) x) X r) (gapV (fsub .f32 (floatOfInt .f32 j) y) Y r) rad then 1065353216 else 0
def discV (X Y : Nat) (r : Bool) (x y rad k : Nat) : Nat := discAt X Y r x y rad (k % X) (k / X)
theorem disc_cond {u v rad u' v' p q s l : Nat} (hu : Same .f32 u u') (hv : Same .f32 v v') (hp : Same .f32 p (fmul .f32 u u)) (hq : Same .f32 q (fmul .f32 v v)) (hs : Same .f32 s (fadd .f32 p q)) (hl : Same .f32 l (fmul .f32 rad rad)) :
    leB s l = discC u' v' rad := by
  unfold leB discC
  have h1 : Same .f32 s (fadd .f32 (fmul .f32 u' u') (fmul .f32 v' v')) := hs.trans (Same.of_eq (by rw [hp.add hq, hu.mul hu, hv.mul hv]))
  rw [h1.order hl]
  rfl
theorem div_parts (X k : Nat) (hX : 1 ≤ X) : ∃ q m : Nat, (k : Int).tdiv (X : Int) = (q : Int) ∧ (k : Int).tmod (X : Int) = (m : Int) ∧ q = k / X ∧ m = k % X ∧ q ≤ k ∧ m ≤ k :=
  ⟨k / X, k % X, by rw [Int.tdiv_eq_ediv_of_nonneg (by omega), Int.natCast_ediv], by rw [Int.tmod_eq_emod_of_nonneg (by omega), Int.natCast_emod], rfl, rfl, Nat.div_le_self _ _, Nat.mod_le _ _⟩
def discB (X Y : Int) (x y rad : Nat) : Bool := sizeB X Y && finB .f32 x && finB .f32 y && finB .f32 rad
theorem wrap_small' {n : Int} (h1 : 0 ≤ n) (h2 : n ≤ 1048576) : IntKind.i64.wrap n = n := by
  simp [IntKind.wrap, IntKind.bits, IntKind.signed]; omega

set_option maxRecDepth 4000 in
set_option maxHeartbeats 2000000 in
theorem spec_DiscField_yes (X Y : Nat) (r : Bool) (x y rad : Nat) (w : World) (hv : discB X Y x y rad = true) :
    Calls Try.prog 27 #[.int .i64 X, .int .i64 Y, .bool r, .float .f32 x, .float .f32 y, .float .f32 rad] w (FieldOut X Y r true (X * Y) (discV X Y r x y rad) w) := by
  obtain ⟨⟨⟨hsz, hfx⟩, hfy⟩, hfr⟩ : ((sizeB X Y = true ∧ finB .f32 x = true) ∧ finB .f32 y = true) ∧ finB .f32 rad = true := by simpa [discB] using hv
  obtain ⟨⟨hx1, hx2⟩, hy1, hy2⟩ := size_bounds hsz
  have hmul : ((X * Y : Nat) : Int) = (X : Int) * (Y : Int) := by simp
  have hle : X * Y ≤ 16 * 16 := Nat.mul_le_mul (by omega) (by omega)
  have HS := Lib.hid hsz
  have HX := Lib.hid hfx
  have HY := Lib.hid hfy
  have HR := Lib.hid hfr
  have hX16 : X ≤ 16 := by omega
  have hY16 : Y ≤ 16 := by omega
  have hX1 : 1 ≤ X := by omega
  generalize hN : X * Y = N at *
  clear hN hsz hfx hfy hfr hv hy1 hy2 hx1 hx2
  have K := keep_own w (.cells #[.int .i64 0, .int .i64 0, .bool false, .slice none 0 0] 46)
  go_enter Try.func27, Try.ntmps27
  go_wp2_with fail
  refine (spec_l02Size_is HS.out _).mono ?_
  rintro e w1 ⟨rfl, rfl⟩
  go_wp2_with fail
  refine (spec_l01Finite _ _).mono ?_
  rintro e w1 ⟨n1, rfl, rfl⟩
  rw [HX.out]
  go_wp2_with fail
  refine (spec_l01Finite _ _).mono ?_
  rintro e w1 ⟨n2, rfl, rfl⟩
  rw [HY.out]
  go_wp2_with fail
  refine (spec_l01Finite _ _).mono ?_
  rintro e w1 ⟨n3, rfl, rfl⟩
  rw [HR.out]
  go_wp2_with fail
  refine (spec_l02New X Y r _).mono ?_
  rintro e w2 ⟨v0, rfl, k2, h2⟩
  have hB := Going.begin (W := w) X Y r (discV X Y r x y rad) rfl (keep_trans (keep_drewN (Below.refl _ _) _) k2) h2
  obtain ⟨a0, cap0, rfl, _⟩ := h2.value
  have hsz : w.heap.size < w2.heap.size := Nat.lt_of_lt_of_le (by simp) k2.size
  clear k2 h2
  obtain ⟨l, nl, hL, HL⟩ := afv_ex .mul rfl 27 .f32 rad rad (w2.alloc (.cells #[.int .i64 X, .int .i64 Y, .bool r, .slice a0 0 cap0] 46))
  have hB2 : Hid (Going w none w.heap.size w2.heap.size X Y r (discV X Y r x y rad) 0 ((w2.alloc (.cells #[.int .i64 X, .int .i64 Y, .bool r, .slice a0 0 cap0] 46)).drewN nl)) := Lib.hid (by
    obtain ⟨v, vs, C, h1, h2⟩ := hB
    exact ⟨v, vs, C.later (grown_of_below (keep_drewN (Below.refl _ _) nl)) (fun k e => by cases e), h1, h2⟩)
  have HLL := Lib.hid HL
  clear hB HL
  go_wp2
  clear hL
  go_loopw [16] (fun i wr => ∃ k : Nat, k ≤ N ∧ i = .int .i64 k ∧ Going w none w.heap.size w2.heap.size X Y r (discV X Y r x y rad) k wr) (fun i _ => N - (intOf i).toNat)
  case atStart => exact ⟨0, Nat.zero_le _, rfl, hB2.out⟩
  case round =>
    obtain ⟨k, hk, rfl, hgo⟩ := hrel
    by_cases hlt : k < N
    · obtain ⟨v, vs, hC, hn, hv⟩ := hgo
      obtain ⟨q, m, hq, hm, eq, em, hqb, hmb⟩ := div_parts X k hX1
      have hY0 : ((X : Int) == 0) = false := by simp; omega
      have hY3 : ¬ (X : Int) = 0 := by omega
      have hY4 : ¬ X = 0 := by omega
      have hw1 : IntKind.i64.wrap (q : Int) = (q : Int) := wrap_small' (by omega) (by omega)
      have hw2 : IntKind.i64.wrap (m : Int) = (m : Int) := wrap_small' (by omega) (by omega)
      have DV : Hid (discV X Y r x y rad k = discAt X Y r x y rad m q) := Lib.hid (by unfold discV; rw [← eq, ← em])
      have VV := Lib.hid hv
      have NN := Lib.hid hn
      have CC := Lib.hid hC
      have small : Hid (vs.length ≤ 1048576) := Lib.hid (by omega)
      clear hC hn hv eq em
      go_wp2_with fail
      refine (spec_l02Gap (floatOfInt .f32 m) x X r _ hX16).mono ?_
      rintro e w' ⟨u, na, rfl, hu, rfl⟩
      have HU := Lib.hid hu
      have CA := Lib.hid (CC.out.later (grown_of_below (keep_drewN (Below.refl _ _) na)) (fun k e => by cases e))
      clear hu CC
      generalize wr.drewN na = wa at CA ⊢
      go_wp2_with fail
      refine (spec_l02Gap (floatOfInt .f32 q) y Y r _ hY16).mono ?_
      rintro e w' ⟨vv, nb, rfl, hvv, rfl⟩
      have HVV := Lib.hid hvv
      have CB := Lib.hid (CA.out.later (grown_of_below (keep_drewN (Below.refl _ _) nb)) (fun k e => by cases e))
      clear hvv CA
      generalize wa.drewN nb = wb at CB ⊢
      obtain ⟨p, np, hP, HP⟩ := afv_ex .mul rfl 27 .f32 u u wb
      have CP := Lib.hid (CB.out.later (grown_of_below (keep_drewN (Below.refl _ _) np)) (fun k e => by cases e))
      generalize wb.drewN np = wp at hP CP
      obtain ⟨t, nt, hT, HT⟩ := afv_ex .mul rfl 27 .f32 vv vv wp
      have CT := Lib.hid (CP.out.later (grown_of_below (keep_drewN (Below.refl _ _) nt)) (fun k e => by cases e))
      generalize wp.drewN nt = wt at hT CT
      obtain ⟨sm, ns, hS, HSM⟩ := afv_ex .add rfl 27 .f32 p t wt
      have CS := Lib.hid (CT.out.later (grown_of_below (keep_drewN (Below.refl _ _) ns)) (fun k e => by cases e))
      generalize wt.drewN ns = ws at hS CS
      have hcond : leB sm l = discC (gapV (fsub .f32 (floatOfInt .f32 m) x) X r) (gapV (fsub .f32 (floatOfInt .f32 q) y) Y r) rad := disc_cond HU.out HVV.out HP HT HSM HLL.out
      have c3 : ws.cell? ⟨w2.heap.size, 3, none⟩ = some v := CS.out.cell
      clear CB CP CT HU HVV HP HT HSM
      cases hc : leB sm l with
      | true =>
        have EL : Hid (1065353216 = discV X Y r x y rad k) := Lib.hid (by rw [DV.out]; unfold discAt; rw [← hcond, hc]; rfl)
        have C3 := Lib.hid (CS.out.alloc (.cells #[.float .f32 1065353216] 27))
        have O3 := Lib.hid (Own.alloc ws 27 #[.float .f32 1065353216])
        have c6 := C3.out.cell
        unfold leB at hc
        clear hcond
        go_wp2_with (at_builtin; refine list_push (by rfl) (.tmp 80) (.tmp 82) (by rfl) C3.out 1065353216 ws.heap.size 1 (by rfl) (by rfl) O3.out small.out ?_; intro g cap w3 g3 o3 c5 f5 C4)
        have C5 := Lib.hid C4
        clear C4 c3 c6 c5 f5 C3 O3 o3 hP hT hS
        go_wp2
        go_roundw
        case rel => exact ⟨k + 1, by omega, by go_num, ⟨_, _, C5.out, by simp [NN.out], same_snoc NN.out VV.out (Same.of_eq EL.out)⟩⟩
        case measure => simp [intOf]; omega
      | false =>
        have EL : Hid (0 = discV X Y r x y rad k) := Lib.hid (by rw [DV.out]; unfold discAt; rw [← hcond, hc]; rfl)
        have C3 := Lib.hid (CS.out.alloc (.cells #[.float .f32 0] 27))
        have O3 := Lib.hid (Own.alloc ws 27 #[.float .f32 0])
        have c6 := C3.out.cell
        unfold leB at hc
        clear hcond
        go_wp2_with (at_builtin; refine list_push (by rfl) (.tmp 80) (.tmp 82) (by rfl) C3.out 0 ws.heap.size 1 (by rfl) (by rfl) O3.out small.out ?_; intro g cap w3 g3 o3 c5 f5 C4)
        have C5 := Lib.hid C4
        clear C4 c3 c6 c5 f5 C3 O3 o3 hP hT hS
        go_wp2
        go_roundw
        case rel => exact ⟨k + 1, by omega, by go_num, ⟨_, _, C5.out, by simp [NN.out], same_snoc NN.out VV.out (Same.of_eq EL.out)⟩⟩
        case measure => simp [intOf]; omega
    · have hk2 : k = N := by omega
      subst hk2
      obtain ⟨a1, ln, cp, v1, e, c0, c1, c2, c3, d0, d1, d2, d3, f0, f1, f2, f3, hfin⟩ := hgo.result (fun k e => by cases e)
      have HF := Lib.hid hfin
      clear hfin hgo
      subst e
      go_wp2
      obtain ⟨⟨v2, vs2, e2, g2, h2, hn2, hv2⟩, g1, _⟩ := HF.out _ rfl
      simp only [Ending.returned.injEq, Value.agg.injEq, Array.mk.injEq, List.cons.injEq, and_true, true_and] at e2
      subst e2
      refine bodyPost_ret (v := .tuple #[.agg #[.int .i64 X, .int .i64 Y, .bool r, .slice a1 ln cp], .bool true]) ?_ rfl
        (FieldOut.yes (below_of_grown g1) h2 hn2 hv2)
      simp [results, Try.results27, go_sem, *]

set_option maxHeartbeats 1000000 in
theorem spec_DiscField_no (X Y : Int) (r : Bool) (x y rad : Nat) (V : Nat → Nat) (w : World) (hv : discB X Y x y rad = false) :
    Calls Try.prog 27 #[.int .i64 X, .int .i64 Y, .bool r, .float .f32 x, .float .f32 y, .float .f32 rad] w (FieldOut 0 0 false false 0 V w) := by
  have K := keep_own w (.cells #[.int .i64 0, .int .i64 0, .bool false, .slice none 0 0] 46)
  cases hs : sizeB X Y with
  | false =>
    have HS := Lib.hid hs
    clear hs hv
    go_enter Try.func27, Try.ntmps27
    go_wp2_with fail
    refine (spec_l02Size_is HS.out _).mono ?_
    rintro e w1 ⟨rfl, rfl⟩
    go_wp2
    refine bodyPost_ret (v := .tuple #[.agg #[.int .i64 0, .int .i64 0, .bool false, .slice none 0 0], .bool false]) (by simp [results, Try.results27, go_sem, *]) rfl (FieldOut.no _ _ _ K)
  | true =>
    have HS := Lib.hid hs
    cases hx : finB .f32 x with
    | false =>
      have HX := Lib.hid hx
      clear hs hv hx
      go_enter Try.func27, Try.ntmps27
      go_wp2_with fail
      refine (spec_l02Size_is HS.out _).mono ?_
      rintro e w1 ⟨rfl, rfl⟩
      go_wp2_with fail
      refine (spec_l01Finite _ _).mono ?_
      rintro e w1 ⟨n1, rfl, rfl⟩
      rw [HX.out]
      go_wp2
      refine bodyPost_ret (v := .tuple #[.agg #[.int .i64 0, .int .i64 0, .bool false, .slice none 0 0], .bool false]) (by simp [results, Try.results27, go_sem, *]) rfl (FieldOut.no _ _ _ (below_res4 (keep_drewN K _) (Nat.le_refl _) _ _ _ _))
    | true =>
      have HX := Lib.hid hx
      cases hy : finB .f32 y with
      | false =>
        have HY := Lib.hid hy
        clear hs hv hx hy
        go_enter Try.func27, Try.ntmps27
        go_wp2_with fail
        refine (spec_l02Size_is HS.out _).mono ?_
        rintro e w1 ⟨rfl, rfl⟩
        go_wp2_with fail
        refine (spec_l01Finite _ _).mono ?_
        rintro e w1 ⟨n1, rfl, rfl⟩
        rw [HX.out]
        go_wp2_with fail
        refine (spec_l01Finite _ _).mono ?_
        rintro e w1 ⟨n2, rfl, rfl⟩
        rw [HY.out]
        go_wp2
        refine bodyPost_ret (v := .tuple #[.agg #[.int .i64 0, .int .i64 0, .bool false, .slice none 0 0], .bool false]) (by simp [results, Try.results27, go_sem, *]) rfl (FieldOut.no _ _ _ (below_res4 (keep_drewN K _) (Nat.le_refl _) _ _ _ _))
      | true =>
        have HY := Lib.hid hy
        have HR : Hid (finB .f32 rad = false) := Lib.hid (by simpa [discB, hs, hx, hy] using hv)
        clear hs hv hx hy
        go_enter Try.func27, Try.ntmps27
        go_wp2_with fail
        refine (spec_l02Size_is HS.out _).mono ?_
        rintro e w1 ⟨rfl, rfl⟩
        go_wp2_with fail
        refine (spec_l01Finite _ _).mono ?_
        rintro e w1 ⟨n1, rfl, rfl⟩
        rw [HX.out]
        go_wp2_with fail
        refine (spec_l01Finite _ _).mono ?_
        rintro e w1 ⟨n2, rfl, rfl⟩
        rw [HY.out]
        go_wp2_with fail
        refine (spec_l01Finite _ _).mono ?_
        rintro e w1 ⟨n3, rfl, rfl⟩
        rw [HR.out]
        go_wp2
        refine bodyPost_ret (v := .tuple #[.agg #[.int .i64 0, .int .i64 0, .bool false, .slice none 0 0], .bool false]) (by simp [results, Try.results27, go_sem, *]) rfl (FieldOut.no _ _ _ (below_res4 (keep_drewN K _) (Nat.le_refl _) _ _ _ _))

end Go.Proofs.Ytcnamhmoocdccaa
