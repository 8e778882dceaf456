/- ListText: the law. The powers of ten read as the program's text lays them. -/
import Derived.Test.YtmfaickanmdfnaaDoorPn
namespace Go.Proofs.YtmfaickanmdfnaaDoor
open Go Go.RowKit Go.Proofs.YtmfaickanmdfnaaDoorW.PrintWords Go.Proofs.YtmfaickanmdfnaaDoorW.PrintLast Go.Proofs.YtmfaickanmdfnaaDoorW.PrintMore
attribute [local go_sem] max2_int min2_int max_two min_two max_three min_three max_four min_four
set_option linter.unusedVariables false
set_option linter.unusedSimpArgs false

theorem to_calls (l : List Int) (A : Option Addr) (c : Nat) (w : World) (hr : Kd.C (Kd.int .i64) w A l.length l) (hc : l.length ≤ c) (hl : l.length ≤ 1048576) :
    Calls Tryd.prog 13 #[.slice A l.length c] w fun e w' => (∃ A' c', e = .returned (.slice A' l.length c') ∧ l.length ≤ c' ∧ Kd.C (Kd.int .i64) w' A' l.length l) ∧ Below w.heap.size w w' := by
  refine (Pr.laws_toInt64S.calls _ A c l l w hr hc (to_told l hl)).mono ?_
  rintro e w' ⟨v, rfl, h1, h2⟩
  obtain ⟨A', c', rfl, h3, h4⟩ := Kd.R_reads h1
  exact ⟨⟨A', c', rfl, h3, h4⟩, h2⟩
theorem eq_calls (l : List Int) (A B : Option Addr) (c d : Nat) (w : World) (hr : Kd.C (Kd.int .i64) w A l.length l) (hc : l.length ≤ c) (hr2 : Kd.C (Kd.int .i64) w B l.length l) (hc2 : l.length ≤ d) (hl : l.length ≤ 1048576) :
    Calls Tryd.prog 15 #[.slice A l.length c, .slice B l.length d] w fun e w' => e = .returned (.bool true) ∧ Below w.heap.size w w' := by
  refine (Pr.laws_eqInt64S.calls _ A c l B d l true w hr hc hr2 hc2 (eq_told l hl)).mono ?_
  rintro e w' ⟨he, n, rfl⟩
  exact ⟨he, pw_below_drewN (Below.refl _ _) n⟩
theorem listText_calls (l : List Int) (A : Option Addr) (c : Nat) (w : World) (hr : Kd.C (Kd.int .i64) w A l.length l) (hc : l.length ≤ c) (hl : l.length ≤ 1048576) (hw : ∀ n ∈ l, -9223372036854775808 ≤ n ∧ n ≤ 9223372036854775807) :
    Calls Tryd.prog 12 #[.slice A l.length c] w fun e w' => e = .returned (.tuple #[.string (ltB l).1, .bool (ltB l).2]) ∧ Below w.heap.size w w' := by
  obtain ⟨k, hk⟩ := listText_told l hl hw
  exact Pr.spec_ListText.calls k A c l _ _ w hr hc hk

/-- An argument's slice, as a row that is read. -/
theorem row_C {w : World} {a : Option Addr} {len cap : Nat} {xs : List Int} (h : IRow .i64 w a len cap xs) : Kd.C (Kd.int .i64) w a xs.length xs := by
  obtain ⟨h1, rfl, h3, h4, h5⟩ := h
  refine Kd.C_of_reads (d := (0 : Int)) ⟨rfl, by unfold maxLen at h4; omega, fun hn => ?_⟩
  rcases h1.cells with h | ⟨b, o, rfl, hb, hc⟩
  · omega
  · exact ⟨_, rfl, fun j hj => by
      have h6 := hc j hj
      unfold Addr.add
      split
      · rename_i h0; subst h0; exact h6
      · exact h6⟩

theorem walk_FnExactListText (a : Option Addr) (len cap : Nat) (l : List Int) (W : World) (w0 : IRow .i64 W a len cap l) (hL : laidMet Tryd.prog Rows.fnExactListTextRow.laid W) (hS : W.ShapedOpen Tryd.prog) :
    Calls Tryd.prog 4 #[.slice a len cap] W fun e W' => e = .returned (.bool true) ∧ Below W.heap.size W W' := by
  have hC := row_C w0
  obtain ⟨_, rfl, hcap, hmax, hwf⟩ := w0
  have hw : ∀ n ∈ l, -9223372036854775808 ≤ n ∧ n ≤ 9223372036854775807 := fun n hn => by
    have := hwf n hn
    simpa [Lit.wf, IntKind.min, IntKind.max, IntKind.signed, IntKind.bits] using this
  have hT : Pow W.heap.size W := Lib.tabBelow_of_tabIs (pow_of hL)
  by_cases hl : l.length ≤ 1048576
  · have HR := Aside0.mk hC
    have HC := Aside0.mk hcap
    have HL := Aside0.mk hl
    have HW := Aside0.mk hw
    have HT := Aside0.mk hT
    have HB := Aside0.mk (Below.refl W.heap.size W)
    have h1 : decide ((l.length : Int) > 1048576) = false := decide_eq_false (by omega)
    have h2 : decide (1048576 < (l.length : Int)) = false := decide_eq_false (by omega)
    clear hC hcap hmax hwf hw hT hL hS
    go_enter Tryd.func4, Tryd.ntmps4
    go_wp2_with (go_at_call 13; refine (to_calls l _ _ _ HR.out HC.out HL.out).mono ?_; rintro e w1 ⟨⟨A1, c1, rfl, hc1, hr1⟩, hb1⟩; have HR1 := Aside0.mk hr1; have HC1 := Aside0.mk hc1; have HB1 := Aside0.mk hb1; clear hr1 hc1 hb1; refine Hid.out ?_)
    refine Lib.hid ?_
    have HB2 := Aside0.mk (below_step HB.out HB1.out)
    go_wp2_with (go_at_call 12; refine (listText_calls l _ _ _ HR1.out HC1.out HL.out HW.out).mono ?_; rintro e w2 ⟨rfl, hb2⟩; have HB3 := Aside0.mk (below_step HB2.out hb2); clear HB2 hb2; refine Hid.out ?_)
    refine Lib.hid ?_
    clear HR1 HC1 HB1 HB
    have HR2 := Aside0.mk (Kd.C_below HR.out HB3.out)
    go_wp2_with (go_at_call 13; refine (to_calls l _ _ _ HR2.out HC.out HL.out).mono ?_; rintro e w3 ⟨⟨A3, c3, rfl, hc3, hr3⟩, hb3⟩; have HR3 := Aside0.mk hr3; have HC3 := Aside0.mk hc3; have HB4 := Aside0.mk (below_step HB3.out hb3); clear hr3 hc3 hb3 HB3 HR2; refine Hid.out ?_)
    refine Lib.hid ?_
    go_wp2_with (go_at_call 14; refine (impl_ListText l _ _ _ HR3.out HL.out HW.out (Lib.tabBelow_of_tabIs (HT.out.on HB4.out).here)).mono ?_; rintro e w4 ⟨rfl, hb4⟩; have HB5 := Aside0.mk (below_step HB4.out hb4); have HR4 := Aside0.mk (Kd.C_below HR3.out hb4); clear hb4 HB4 HR3; refine Hid.out ?_)
    refine Lib.hid ?_
    have HR5 := Aside0.mk (Kd.C_below HR.out HB5.out)
    obtain ⟨T, b⟩ := ltB l
    go_wp2_with (go_at_call 13; refine (to_calls l _ _ _ HR5.out HC.out HL.out).mono ?_; rintro e w5 ⟨⟨A5, c5, rfl, hc5, hr5⟩, hb5⟩; have HR6 := Aside0.mk hr5; have HC6 := Aside0.mk hc5; have HB6 := Aside0.mk (below_step HB5.out hb5); have HR7 := Aside0.mk (Kd.C_below HR4.out hb5); clear hr5 hc5 hb5 HB5 HR5 HR4; refine Hid.out ?_)
    refine Lib.hid ?_
    go_wp2_with (go_at_call 15; refine (eq_calls l _ _ _ _ _ HR7.out HC3.out HR6.out HC6.out HL.out).mono ?_; rintro e w6 ⟨rfl, hb6⟩; have HB7 := Aside0.mk (below_step HB6.out hb6); clear hb6 HB6 HR6 HR7)
    go_ret
    exact ⟨rfl, HB7.out⟩
  · have h1 : decide ((l.length : Int) > 1048576) = true := decide_eq_true (by omega)
    have h2 : decide (1048576 < (l.length : Int)) = true := decide_eq_true (by omega)
    go_enter Tryd.func4, Tryd.ntmps4
    go_wp2
    go_ret
    exact ⟨rfl, Below.refl _ _⟩
end Go.Proofs.YtmfaickanmdfnaaDoor
