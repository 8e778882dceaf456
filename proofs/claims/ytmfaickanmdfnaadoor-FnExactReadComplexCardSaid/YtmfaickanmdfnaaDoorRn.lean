/- ReadList: the law. The tables and errors of the library read as the program's text lays them. -/
import Derived.Test.YtmfaickanmdfnaaDoorRm
namespace Go.Proofs.YtmfaickanmdfnaaDoor
open Go Go.RowKit Go.Proofs.YtmfaickanmdfnaaDoorW.PrintWords Go.Proofs.YtmfaickanmdfnaaDoorW.PrintLast Go.Proofs.YtmfaickanmdfnaaDoorW.PrintMore
attribute [local go_sem] max2_int min2_int max_two min_two max_three min_three max_four min_four
set_option linter.unusedVariables false
set_option linter.unusedSimpArgs false

theorem readList_calls (s : ByteArray) (hs : s.size ≤ 1048576) (w : World) :
    Calls Tryd.prog 22 #[.string s] w fun e w' => (∃ A c, e = .returned (.tuple #[.slice A (rlB s).1.length c, .bool (rlB s).2]) ∧ (rlB s).1.length ≤ c ∧ Kd.C (Kd.int .i64) w' A (rlB s).1.length (rlB s).1) ∧ Below w.heap.size w w' := by
  obtain ⟨k, hk⟩ := readList_told s hs
  refine (Pr.spec_ReadList.calls k s (rlB s).1 (rlB s).2 w hk).mono ?_
  rintro e w' ⟨v, rfl, h1, h2⟩
  obtain ⟨A, c, rfl, h3, h4⟩ := Kd.R_reads h1
  exact ⟨⟨A, c, rfl, h3, h4⟩, h2⟩
theorem same_calls (l : List Int) (A B : Option Addr) (c d : Nat) (w : World) (hr : Kd.C (Kd.int .i64) w A l.length l) (hc : l.length ≤ c) (hr2 : Kd.C (Kd.int .i64) w B l.length l) (hc2 : l.length ≤ d) (hl : l.length ≤ 1048576) :
    Calls Tryd.prog 15 #[.slice A l.length c, .slice B l.length d] w fun e w' => e = .returned (.bool true) ∧ Below w.heap.size w w' := by
  refine (Pr.laws_eqInt64S.calls _ A c l B d l true w hr hc hr2 hc2 (eq_told l hl)).mono ?_
  rintro e w' ⟨he, n, rfl⟩
  exact ⟨he, pw_below_drewN (Below.refl _ _) n⟩
theorem mark_calls (l : List Int) (v : Value) (w0 w : World) (hB : Below w0.heap.size w0 w) (h : Kd.R (Kd.int .i64) 2 w w0.heap.size (fun _ => True) v l) (hl : l.length ≤ 1048576) :
    Calls Tryd.prog 24 #[v, .int .i64 1] w fun e w' => e = .returned (.int .i64 ((l.length + 1 : Nat) : Int)) ∧ Kd.R (Kd.int .i64) 2 w' w0.heap.size (fun _ => True) v (marksI l.length) ∧ Below w0.heap.size w0 w' := by
  refine (Pr.laws_markInt64S.calls _ (fun _ => True) v l 1 _ _ w0 w hB h (mark_told l hl)).mono ?_
  rintro e w' ⟨he, h1, h2, _⟩
  exact ⟨he, Kd.R_mono h1 (fun _ _ => trivial), h2⟩
theorem held_calls (n : Nat) (v : Value) (base : Nat) (w : World) (h : Kd.R (Kd.int .i64) 2 w base (fun _ => True) v (marksI n)) (hl : n ≤ 1048576) :
    Calls Tryd.prog 25 #[v, .int .i64 1] w fun e w' => e = .returned (.int .i64 ((n + 1 : Nat) : Int)) ∧ Below w.heap.size w w' := by
  obtain ⟨A, c, rfl, h3, h4⟩ := Kd.R_reads h
  refine (Pr.laws_heldInt64S.calls _ A c (marksI n) 1 _ w h4 h3 (held_told n hl)).mono ?_
  rintro e w' ⟨he, m, rfl⟩
  exact ⟨he, pw_below_drewN (Below.refl _ _) m⟩
theorem own_calls (s : ByteArray) (hs : s.size ≤ 1048576) (w : World) (hY : Lay w) (hSh : w.ShapedOpen Tryd.prog) :
    Calls Tryd.prog 23 #[.string s] w fun e w' => (∃ A c, e = .returned (.tuple #[.slice A (rlB s).1.length c, .bool (rlB s).2]) ∧ (rlB s).1.length ≤ c ∧ Kd.R (Kd.int .i64) 2 w' w.heap.size (fun _ => True) (.slice A (rlB s).1.length c) (rlB s).1) ∧ Below w.heap.size w w' := by
  refine (impl_ReadList s hs w hY hSh).mono ?_
  rintro e w' ⟨v, rfl, h1, h2⟩
  obtain ⟨A, c, rfl, h3, h4⟩ := Kd.R_reads h1
  exact ⟨⟨A, c, rfl, h3, h1⟩, h2⟩
theorem R_C {w : World} {base : Nat} {ok : Nat → Prop} {l : List Int} {A : Option Addr} {c : Nat} (h : Kd.R (Kd.int .i64) 2 w base ok (.slice A l.length c) l) : Kd.C (Kd.int .i64) w A l.length l := (Kd.R_reads' h).2.2

theorem lay_errs2 {rest : List (String × DataW Unit)} {W : World} (h : laidMet Tryd.prog (("strconv.ErrRange", Rows.laid_strconv_ErrRange) :: ("strconv.ErrSyntax", Rows.laid_strconv_ErrSyntax) :: rest) W) :
    (∃ tp p, W.var? Tryd.prog "strconv.ErrRange" = some #[.iface tp p]) ∧ (∃ tp p, W.var? Tryd.prog "strconv.ErrSyntax" = some #[.iface tp p]) := by
  obtain ⟨a1, s1, h1, _⟩ := laid_sentinel h g_rng rng_type Tryd.underlying59 row_err Tryd.underlying135 Tryd.underlying137 rfl rfl Tryd.underlying9 (by kernel_rfl) (by kernel_rfl)
  obtain ⟨a2, s2, h2, _⟩ := laid_sentinel h.tail g_syn syn_type Tryd.underlying59 row_err Tryd.underlying135 Tryd.underlying137 rfl rfl Tryd.underlying9 (by kernel_rfl) (by kernel_rfl)
  exact ⟨⟨_, _, h1⟩, ⟨_, _, h2⟩⟩

theorem core_FnExactReadList (s : ByteArray) (W : World) (w0 : s.size ≤ maxLen) (hY : Lay W) (hS : W.ShapedOpen Tryd.prog) :
    Calls Tryd.prog 7 #[.string s] W fun e W' => e = .returned (.bool true) ∧ Below W.heap.size W W' := by
  by_cases hs : s.size ≤ 1048576
  · have h1 : decide ((s.size : Int) > 1048576) = false := decide_eq_false (by omega)
    have h2 : decide (1048576 < (s.size : Int)) = false := decide_eq_false (by omega)
    have HY := Aside0.mk hY
    have HS := Aside0.mk hS
    have hl := rlB_len s
    have HI : Aside0 (∀ w : World, Lay w → w.ShapedOpen Tryd.prog → Calls Tryd.prog 23 #[.string s] w fun e w' => (∃ A c, e = .returned (.tuple #[.slice A (rlB s).1.length c, .bool (rlB s).2]) ∧ (rlB s).1.length ≤ c ∧ Kd.R (Kd.int .i64) 2 w' w.heap.size (fun _ => True) (.slice A (rlB s).1.length c) (rlB s).1) ∧ Below w.heap.size w w') := ⟨own_calls s hs⟩
    have HP : Aside0 (∀ w : World, Calls Tryd.prog 22 #[.string s] w fun e w' => (∃ A c, e = .returned (.tuple #[.slice A (rlB s).1.length c, .bool (rlB s).2]) ∧ (rlB s).1.length ≤ c ∧ Kd.C (Kd.int .i64) w' A (rlB s).1.length (rlB s).1) ∧ Below w.heap.size w w') := ⟨readList_calls s hs⟩
    rcases hR : rlB s with ⟨l, b⟩
    rw [hR] at hl HI HP
    clear hR
    have HL : Aside0 (l.length ≤ 1048576) := ⟨by have : l.length ≤ 64 := hl; omega⟩
    clear hY hS w0 hl
    obtain ⟨M, hM⟩ : ∃ M : Int, M = ((l.length + 1 : Nat) : Int) := ⟨_, rfl⟩
    have m1 : decide (M < 0) = false := decide_eq_false (by omega)
    have HM := Aside0.mk hM
    clear hM
    go_enter Tryd.func7, Tryd.ntmps7
    go_wp2_with (go_at_call 22; refine (HP.out _).mono ?_; rintro e w1 ⟨⟨A1, c1, rfl, hc1, hr1⟩, hb1⟩; have HC1 := Aside0.mk hc1; have HR1 := Aside0.mk hr1; have HB0 := Aside0.mk hb1; clear hc1 hr1 hb1; refine Hid.out ?_)
    refine Lib.hid ?_
    clear HP
    go_wp2_with (go_at_call 23; refine (HI.out _ (HY.out.on HB0.out) (shaped_on HS.out HB0.out)).mono ?_; rintro e w2 ⟨⟨A2, c2, rfl, hc2, hr2⟩, hb2⟩; have HC2 := Aside0.mk hc2; have HR2 := Aside0.mk hr2; have HB := Aside0.mk hb2; clear hc2 hr2 hb2; refine Hid.out ?_)
    refine Lib.hid ?_
    go_wp2_with (go_at_call 15; refine (same_calls l _ _ _ _ _ (R_C HR2.out) HC2.out (Kd.C_below HR1.out HB.out) HC1.out HL.out).mono ?_; rintro e w3 ⟨rfl, hb3⟩; have n0 := Aside0.mk (below_step HB.out hb3); have n1 := Aside0.mk (Kd.R_below HR2.out hb3); clear HB HR2 hb3; have HB := n0; have HR2 := n1; clear n0 n1; refine Hid.out ?_)
    refine Lib.hid ?_
    go_wp2_with (go_at_call 24; refine (mark_calls l _ _ _ HB.out HR2.out HL.out).mono ?_; rintro e w4 ⟨he, hr4, hb4⟩; rw [← HM.out] at he; subst he; have n0 := Aside0.mk hb4; have n1 := Aside0.mk hr4; clear HB HR2 hb4 hr4; have HB := n0; have HR2 := n1; clear n0 n1; refine Hid.out ?_)
    refine Lib.hid ?_
    go_wp2_with (go_at_call 25; refine (held_calls l.length _ _ _ HR2.out HL.out).mono ?_; rintro e w5 ⟨he, hb5⟩; rw [← HM.out] at he; subst he; have n0 := Aside0.mk (below_step HB.out hb5); have n1 := Aside0.mk (Kd.R_below HR2.out hb5); clear HB HR2 hb5; have HB := n0; have HR2 := n1; clear n0 n1; refine Hid.out ?_)
    refine Lib.hid ?_
    go_wp2_with (go_at_call 23; refine (HI.out _ (HY.out.on (below_step HB0.out HB.out)) (shaped_on HS.out (below_step HB0.out HB.out))).mono ?_; rintro e w6 ⟨⟨A3, c3, rfl, hc3, hr3⟩, hb6⟩; have HC3 := Aside0.mk hc3; have HR3 := Aside0.mk hr3; have n0 := Aside0.mk (below_step HB.out hb6); have n1 := Aside0.mk (Kd.R_below HR2.out hb6); clear HB HR2 hc3 hr3 hb6; have HB := n0; have HR2 := n1; clear n0 n1; refine Hid.out ?_)
    refine Lib.hid ?_
    go_wp2_with (go_at_call 15; refine (same_calls l _ _ _ _ _ (R_C HR3.out) HC3.out (Kd.C_below HR1.out HB.out) HC1.out HL.out).mono ?_; rintro e w7 ⟨rfl, hb3⟩; have n0 := Aside0.mk (below_step HB.out hb3); have n1 := Aside0.mk (Kd.R_below HR2.out hb3); clear HB HR2 hb3; have HB := n0; have HR2 := n1; clear n0 n1; refine Hid.out ?_)
    refine Lib.hid ?_
    go_wp2_with (go_at_call 25; refine (held_calls l.length _ _ _ HR2.out HL.out).mono ?_; rintro e w8 ⟨he, hb5⟩; rw [← HM.out] at he; subst he; have n0 := Aside0.mk (below_step HB.out hb5); clear HB hb5; have HB := n0; clear n0; refine Hid.out ?_)
    refine Lib.hid ?_
    go_wp2
    go_ret
    exact ⟨rfl, below_step HB0.out HB.out⟩
  · have h1 : decide ((s.size : Int) > 1048576) = true := decide_eq_true (by omega)
    have h2 : decide (1048576 < (s.size : Int)) = true := decide_eq_true (by omega)
    go_enter Tryd.func7, Tryd.ntmps7
    go_wp2
    go_ret
    exact ⟨rfl, Below.refl _ _⟩
theorem walk_FnExactReadList (s : ByteArray) (W : World) (w0 : s.size ≤ maxLen) (hL : laidMet Tryd.prog Rows.fnExactReadListRow.laid W) (hS : W.ShapedOpen Tryd.prog) :
    Calls Tryd.prog 7 #[.string s] W fun e W' => e = .returned (.bool true) ∧ Below W.heap.size W W' :=
  core_FnExactReadList s W w0 ⟨Lib.tabBelow_of_tabIs (pow_of hL), (lay_errs2 hL.tail.tail.tail.tail).1, (lay_errs2 hL.tail.tail.tail.tail).2⟩ hS
end Go.Proofs.YtmfaickanmdfnaaDoor
