/- ReadComplex: the law. The library's tables and errors read as the program's text lays them. -/
import Derived.Test.YtmfaickanmdfnaaDoorJc
import Derived.Test.YtmfaickanmdfnaaDoorRn
namespace Go.Proofs.YtmfaickanmdfnaaDoor
open Go Go.RowKit Go.Proofs.YtmfaickanmdfnaaDoorW.PrintWords Go.Proofs.YtmfaickanmdfnaaDoorW.PrintLast Go.Proofs.YtmfaickanmdfnaaDoorW.PrintMore
set_option linter.unusedVariables false
set_option linter.unusedSimpArgs false

theorem COwn.of_R {w : World} {base : Nat} {ok : Nat → Prop} {v : Value} {l : List (Nat × Nat)} (h : Kd.R Kc 68 w base ok v l) : COwn w base v l := Kd.own_of_R h
theorem spec_ReadComplex (s : ByteArray) (hs : s.size ≤ 1048576) (w : World) :
    Calls Tryd.prog 30 #[.string s] w fun e w' => (∃ A c, e = .returned (.tuple #[.slice A (rcB s).1.length c, .bool (rcB s).2]) ∧ Holds w' A (rcB s).1.length (cvals (rcB s).1)) ∧ Below w.heap.size w w' := by
  have HI : Aside0 (∀ w : World, Calls Tryd.prog 53 #[.string s] w fun e w' => (∃ A c, e = .returned (.tuple #[.slice A (rcB s).1.length c, .bool (rcB s).2]) ∧ Holds w' A (rcB s).1.length (cvals (rcB s).1)) ∧ Below w.heap.size w w') := ⟨fun w => by
    refine (spec_l01CRead s hs w).mono ?_
    rintro e w' ⟨v, rfl, h1, h2⟩
    obtain ⟨A, c, rfl, h3⟩ := (COwn.of_R h1).value
    exact ⟨⟨A, c, rfl, h3⟩, h2⟩⟩
  rcases hR : rcB s with ⟨l, b⟩
  rw [hR] at HI
  clear hR
  go_enter Tryd.func30, Tryd.ntmps30
  go_wp2_with (go_at_call 53; refine (HI.out _).mono ?_; rintro e w1 ⟨⟨A1, c1, rfl, hr1⟩, hb1⟩; have HR1 := Aside0.mk hr1; have HB := Aside0.mk hb1; clear hr1 hb1)
  go_ret2
  exact ⟨⟨A1, c1, rfl, HR1.out⟩, HB.out⟩
theorem ownC_calls (s : ByteArray) (hs : s.size ≤ 1048576) (w : World) (hY : Lay w) (hT : Tz w) (hSh : w.ShapedOpen Tryd.prog) :
    Calls Tryd.prog 31 #[.string s] w fun e w' => (∃ A c, e = .returned (.tuple #[.slice A (rcB s).1.length c, .bool (rcB s).2]) ∧ COwn w' w.heap.size (.slice A (rcB s).1.length c) (rcB s).1) ∧ Below w.heap.size w w' := by
  refine (impl_ReadComplex s hs w hY hT hSh).mono ?_
  rintro e w' ⟨v, rfl, h1, h2⟩
  have h := COwn.of_R h1
  obtain ⟨A, c, rfl, h3⟩ := h.value
  exact ⟨⟨A, c, rfl, h⟩, h2⟩
theorem COwn.holds' {w : World} {base : Nat} {l : List (Nat × Nat)} {A : Option Addr} {c n : Nat} (h : COwn w base (.slice A n c) l) : n = l.length ∧ Holds w A l.length (cvals l) := by
  obtain ⟨a, cap, e, h3⟩ := h.value
  injection e with e1 e2 e3
  subst e1
  exact ⟨e2, h3⟩
theorem markC_calls (l : List (Nat × Nat)) (v : Value) (w0 w : World) (hB : Below w0.heap.size w0 w) (h : COwn w w0.heap.size v l) (hl : l.length ≤ 256) :
    Calls Tryd.prog 33 #[v, .int .i64 1] w fun e w' => e = .returned (.int .i64 (1 + (l.length : Int))) ∧ COwn w' w0.heap.size v (cmarks l.length) ∧ Below w0.heap.size w0 w' := by
  refine (laws_markComplex64S w0.heap.size v l w h hl).mono ?_
  rintro e w' ⟨he, hg, ho⟩
  exact ⟨he, ho, hB.grown hg hB.size (own_base h)⟩
theorem heldC_calls (n : Nat) (A : Option Addr) (m c base : Nat) (w : World) (h : COwn w base (.slice A m c) (cmarks n)) (hl : n ≤ 256) :
    Calls Tryd.prog 34 #[.slice A m c, .int .i64 1] w fun e w' => e = .returned (.int .i64 (1 + (n : Int))) ∧ w' = w := by
  obtain ⟨h1, h2⟩ := h.holds'
  rw [cmarks_length] at h1 h2
  subst h1
  exact laws_heldComplex64S A m c w h2 hl

theorem equalC_calls (l : List (Nat × Nat)) (a b : Option Addr) (c d : Nat) (w : World) (hs : Holds w a l.length (cvals l)) (hs2 : Holds w b l.length (cvals l)) (hl : l.length ≤ 256) :
    Calls Tryd.prog 32 #[.slice a l.length c, .slice b l.length d] w fun e w' => e = .returned (.bool true) ∧ Below w.heap.size w w' := by
  refine (laws_eqComplex64S a b l.length c d l w hs hs2 (by omega)).mono ?_
  rintro e w' ⟨n, rfl, rfl⟩
  exact ⟨rfl, pw_below_drewN (Below.refl _ _) n⟩

theorem core_FnExactReadComplex (s : ByteArray) (W : World) (w0 : s.size ≤ maxLen) (hY : Lay W) (hT : Tz W) (hS : W.ShapedOpen Tryd.prog) :
    Calls Tryd.prog 9 #[.string s] W fun e W' => e = .returned (.bool true) ∧ Below W.heap.size W W' := by
  by_cases hs : s.size ≤ 1048576
  · have h1 : decide ((s.size : Int) > 1048576) = false := decide_eq_false (by omega)
    have h2 : decide (1048576 < (s.size : Int)) = false := decide_eq_false (by omega)
    have HY := Aside0.mk hY
    have HT := Aside0.mk hT
    have HS := Aside0.mk hS
    have hl := rcB_len s
    have HI : Aside0 (∀ w : World, Lay w → Tz w → w.ShapedOpen Tryd.prog → Calls Tryd.prog 31 #[.string s] w fun e w' => (∃ A c, e = .returned (.tuple #[.slice A (rcB s).1.length c, .bool (rcB s).2]) ∧ COwn w' w.heap.size (.slice A (rcB s).1.length c) (rcB s).1) ∧ Below w.heap.size w w') := ⟨ownC_calls s hs⟩
    have HP : Aside0 (∀ w : World, Calls Tryd.prog 30 #[.string s] w fun e w' => (∃ A c, e = .returned (.tuple #[.slice A (rcB s).1.length c, .bool (rcB s).2]) ∧ Holds w' A (rcB s).1.length (cvals (rcB s).1)) ∧ Below w.heap.size w w') := ⟨spec_ReadComplex s hs⟩
    rcases hR : rcB s with ⟨l, b⟩
    rw [hR] at hl HI HP
    clear hR
    have HL : Aside0 (l.length ≤ 256) := ⟨hl⟩
    clear hY hT hS w0 hl
    obtain ⟨M, hM⟩ : ∃ M : Int, M = 1 + (l.length : Int) := ⟨_, rfl⟩
    have m1 : decide (M < 0) = false := decide_eq_false (by omega)
    have HM := Aside0.mk hM
    clear hM
    go_enter Tryd.func9, Tryd.ntmps9
    go_wp2_with (go_at_call 30; refine (HP.out _).mono ?_; rintro e w1 ⟨⟨A1, c1, rfl, hr1⟩, hb1⟩; have HR1 := Aside0.mk hr1; have HB0 := Aside0.mk hb1; clear hr1 hb1; refine Hid.out ?_)
    refine Lib.hid ?_
    clear HP
    go_wp2_with (go_at_call 31; refine (HI.out _ (HY.out.on HB0.out) (HT.out.on HB0.out) (shaped_on HS.out HB0.out)).mono ?_; rintro e w2 ⟨⟨A2, c2, rfl, hr2⟩, hb2⟩; have HR2 := Aside0.mk hr2; have HB := Aside0.mk hb2; clear hr2 hb2; refine Hid.out ?_)
    refine Lib.hid ?_
    go_wp2_with (go_at_call 32; refine (equalC_calls l _ _ _ _ _ HR2.out.holds'.2 (HR1.out.keep HB.out) HL.out).mono ?_; rintro e w3 ⟨rfl, hb3⟩; have n0 := Aside0.mk (below_step HB.out hb3); have n1 := Aside0.mk (HR2.out.keep hb3); clear HB HR2 hb3; have HB := n0; have HR2 := n1; clear n0 n1; refine Hid.out ?_)
    refine Lib.hid ?_
    go_wp2_with (go_at_call 33; refine (markC_calls l _ _ _ HB.out HR2.out HL.out).mono ?_; rintro e w4 ⟨he, hr4, hb4⟩; rw [← HM.out] at he; subst he; have n0 := Aside0.mk hb4; have n1 := Aside0.mk hr4; clear HB HR2 hb4 hr4; have HB := n0; have HR2 := n1; clear n0 n1; refine Hid.out ?_)
    refine Lib.hid ?_
    go_wp2_with (go_at_call 34; refine (heldC_calls l.length _ _ _ _ _ HR2.out HL.out).mono ?_; rintro e w5 ⟨he, rfl⟩; rw [← HM.out] at he; subst he; refine Hid.out ?_)
    refine Lib.hid ?_
    go_wp2_with (go_at_call 31; refine (HI.out _ (HY.out.on (below_step HB0.out HB.out)) (HT.out.on (below_step HB0.out HB.out)) (shaped_on HS.out (below_step HB0.out HB.out))).mono ?_; rintro e w6 ⟨⟨A3, c3, rfl, hr3⟩, hb6⟩; have HR3 := Aside0.mk hr3; have n0 := Aside0.mk (below_step HB.out hb6); have n1 := Aside0.mk (HR2.out.keep hb6); clear HB HR2 hr3 hb6; have HB := n0; have HR2 := n1; clear n0 n1; refine Hid.out ?_)
    refine Lib.hid ?_
    go_wp2_with (go_at_call 32; refine (equalC_calls l _ _ _ _ _ HR3.out.holds'.2 (HR1.out.keep HB.out) HL.out).mono ?_; rintro e w7 ⟨rfl, hb3⟩; have n0 := Aside0.mk (below_step HB.out hb3); have n1 := Aside0.mk (HR2.out.keep hb3); clear HB HR2 hb3; have HB := n0; have HR2 := n1; clear n0 n1; refine Hid.out ?_)
    refine Lib.hid ?_
    go_wp2_with (go_at_call 34; refine (heldC_calls l.length _ _ _ _ _ HR2.out HL.out).mono ?_; rintro e w8 ⟨he, rfl⟩; rw [← HM.out] at he; subst he; refine Hid.out ?_)
    refine Lib.hid ?_
    go_wp2
    go_ret
    exact ⟨rfl, below_step HB0.out HB.out⟩
  · have h1 : decide ((s.size : Int) > 1048576) = true := decide_eq_true (by omega)
    have h2 : decide (1048576 < (s.size : Int)) = true := decide_eq_true (by omega)
    go_enter Tryd.func9, Tryd.ntmps9
    go_wp2
    go_ret
    exact ⟨rfl, Below.refl _ _⟩
theorem walk_FnExactReadComplex (s : ByteArray) (W : World) (w0 : s.size ≤ maxLen) (hL : laidMet Tryd.prog Rows.fnExactReadComplexRow.laid W) (hS : W.ShapedOpen Tryd.prog) :
    Calls Tryd.prog 9 #[.string s] W fun e W' => e = .returned (.bool true) ∧ Below W.heap.size W W' :=
  core_FnExactReadComplex s W w0 ⟨Lib.tabBelow_of_tabIs (pow_of hL), (lay_errs2 hL.tail.tail.tail.tail).1, (lay_errs2 hL.tail.tail.tail.tail).2⟩ (tz_of hL) hS
end Go.Proofs.YtmfaickanmdfnaaDoor
