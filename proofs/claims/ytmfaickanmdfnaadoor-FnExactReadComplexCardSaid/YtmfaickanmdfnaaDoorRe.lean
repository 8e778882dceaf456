/- ReadDecimal: the program's side, by the library's contracts, and the law. The tables and errors of the library read as the program's text lays them. -/
import Derived.Test.YtmfaickanmdfnaaDoorRd
import Derived.Test.YtmfaickanmdfnaaDoorPm
import Derived.Lib.AtoiErrMem
import Derived.Lib.SmallJoins
import Derived.WalkSmall
import Derived.Stop.LaidErr
namespace Go.Proofs.YtmfaickanmdfnaaDoor
open Go Go.RowKit Go.Proofs.YtmfaickanmdfnaaDoorW.PrintWords Go.Proofs.YtmfaickanmdfnaaDoorW.PrintLast Go.Proofs.YtmfaickanmdfnaaDoorW.PrintMore
attribute [local go_sem] max2_int min2_int max_two min_two max_three min_three max_four min_four
set_option linter.unusedVariables false
set_option linter.unusedSimpArgs false

theorem g_rng : Tryd.prog.globalNamed "strconv.ErrRange" = some 3 := by kernel_rfl
theorem g_syn : Tryd.prog.globalNamed "strconv.ErrSyntax" = some 2 := by kernel_rfl
theorem rng_type : (Tryd.prog.globals[3]?).map (·.type) = some 59 := by kernel_rfl
theorem syn_type : (Tryd.prog.globals[2]?).map (·.type) = some 59 := by kernel_rfl
theorem star : "*" ++ "errors.errorString" = "*errors.errorString" := by decide
theorem row_err (u : TypeId) (h : Tryd.prog.typeName? 3 u = some "*errors.errorString") : u = 135 :=
  typeName_ptr_named (nm := "errors.errorString") (by rw [star]; kernel_rfl) (by kernel_rfl) (by decide) u (by rw [star]; exact h)

/-- What of the library's tables and errors a number's reading needs. -/
structure Lay (w : World) : Prop where
  pow : Pow w.heap.size w
  rng : ∃ tp p, w.var? Tryd.prog "strconv.ErrRange" = some #[.iface tp p]
  syn : ∃ tp p, w.var? Tryd.prog "strconv.ErrSyntax" = some #[.iface tp p]
theorem var_lt {w : World} {n : String} {g : Nat} {cs : Array Value} (hg : Tryd.prog.globalNamed n = some g) (h : w.var? Tryd.prog n = some cs) : g < w.heap.size := by
  unfold World.var? at h
  simp only [hg, Option.bind_some] at h
  rcases Nat.lt_or_ge g w.heap.size with h' | h'
  · exact h'
  · simp [Array.getElem?_eq_none h'] at h
theorem Lay.on {w w' : World} (h : Lay w) (hb : Below w.heap.size w w') : Lay w' := by
  obtain ⟨h1, ⟨tp, p, h2⟩, ⟨tq, q, h3⟩⟩ := h
  exact ⟨Lib.tabBelow_of_tabIs (h1.on hb).here, ⟨tp, p, var?_below hb g_rng (var_lt g_rng h2) h2⟩, ⟨tq, q, var?_below hb g_syn (var_lt g_syn h3) h3⟩⟩
theorem lay_errs {W : World} (h : laidMet Tryd.prog [("strconv.ErrRange", Rows.laid_strconv_ErrRange), ("strconv.ErrSyntax", Rows.laid_strconv_ErrSyntax)] W) :
    (∃ tp p, W.var? Tryd.prog "strconv.ErrRange" = some #[.iface tp p]) ∧ (∃ tp p, W.var? Tryd.prog "strconv.ErrSyntax" = some #[.iface tp p]) := by
  obtain ⟨a1, s1, h1, _⟩ := laid_sentinel h g_rng rng_type Tryd.underlying59 row_err Tryd.underlying135 Tryd.underlying137 rfl rfl Tryd.underlying9 (by kernel_rfl) (by kernel_rfl)
  obtain ⟨a2, s2, h2, _⟩ := laid_sentinel h.tail g_syn syn_type Tryd.underlying59 row_err Tryd.underlying135 Tryd.underlying137 rfl rfl Tryd.underlying9 (by kernel_rfl) (by kernel_rfl)
  exact ⟨⟨_, _, h1⟩, ⟨_, _, h2⟩⟩

theorem impl_ReadDecimal (s : ByteArray) (hs : s.size ≤ 1048576) (w : World) (hY : Lay w) :
    Calls Tryd.prog 21 #[.string s] w fun e w' => e = .returned (.tuple #[.int .i64 (rdB s).1, .bool (rdB s).2]) ∧ Below w.heap.size w w' := by
  obtain ⟨hT, ⟨tp, p, hv1⟩, ⟨tq, q, hv2⟩⟩ := hY
  unfold rdB
  cases h : Lib.parseIntB 64 s.data.toList with
  | ok v =>
    have hbd := Lib.parseIntB_bounds h
    obtain ⟨b1, b2⟩ : -9223372036854775808 ≤ v ∧ v ≤ 9223372036854775807 := by
      rw [show (2 : Nat) ^ (64 - 1) = 9223372036854775808 by decide] at hbd; omega
    have HT := Aside0.mk hT
    clear hT hv1 hv2 hbd
    dsimp only
    by_cases he : decT v = s
    · subst he
      have e0 : (if decT v = decT v ∧ smallB v = true then (v, true) else ((0 : Int), false)) = if smallB v = true then (v, true) else (0, false) := by simp
      rw [e0]; clear e0
      cases hb : smallB v with
      | true =>
        rw [if_pos rfl]
        go_enter Tryd.func21, Tryd.ntmps21
        go_wp2_with (go_at_call 46; refine (Tryd.strconv_ParseInt_10_at64_ok (decT v) (by omega) v h _).mono ?_; rintro e w1 ⟨rfl, hw1⟩; have HB : Aside0 (Below w.heap.size w w1) := ⟨by rcases hw1 with rfl | ⟨t, rfl⟩; exact Below.refl _ _; exact Lib.bytesWorld_below _ _ _⟩; clear hw1)
        go_wp2_with (first | (go_at_call 11; refine (impl_Decimal v b1 b2 _ _ (Nat.le_refl _) (Lib.tabBelow_of_tabIs (HT.out.on HB.out).here)).mono ?_; rintro e w5 ⟨rfl, hb5⟩; have n1 := Aside0.mk (below_step HB.out hb5); clear HB hb5; have HB := n1; clear n1) | (go_at_call 47; refine (impl_within_small _ _).mono ?_; rintro e w' ⟨rfl, rfl⟩; rw [hb]))
        go_ret2
        exact ⟨rfl, HB.out⟩
      | false =>
        rw [if_neg (by decide)]
        go_enter Tryd.func21, Tryd.ntmps21
        go_wp2_with (go_at_call 46; refine (Tryd.strconv_ParseInt_10_at64_ok (decT v) (by omega) v h _).mono ?_; rintro e w1 ⟨rfl, hw1⟩; have HB : Aside0 (Below w.heap.size w w1) := ⟨by rcases hw1 with rfl | ⟨t, rfl⟩; exact Below.refl _ _; exact Lib.bytesWorld_below _ _ _⟩; clear hw1)
        go_wp2_with (first | (go_at_call 11; refine (impl_Decimal v b1 b2 _ _ (Nat.le_refl _) (Lib.tabBelow_of_tabIs (HT.out.on HB.out).here)).mono ?_; rintro e w5 ⟨rfl, hb5⟩; have n1 := Aside0.mk (below_step HB.out hb5); clear HB hb5; have HB := n1; clear n1) | (go_at_call 47; refine (impl_within_small _ _).mono ?_; rintro e w' ⟨rfl, rfl⟩; rw [hb]))
        go_ret2
        exact ⟨rfl, HB.out⟩
    · have hne : (decT v).toList ≠ s.toList := fun e => he (by
        rw [Lib.toList_data, Lib.toList_data] at e
        exact WideShapes.bytes_inj e)
      rw [if_neg (fun h => he h.1)]
      have c1 : ((decT v).toList == s.toList) = false := beq_eq_false_iff_ne.2 hne
      have c2 : ((decT v).toList != s.toList) = true := bne_iff_ne.2 hne
      go_enter Tryd.func21, Tryd.ntmps21
      go_wp2_with (go_at_call 46; refine (Tryd.strconv_ParseInt_10_at64_ok s (by omega) v h _).mono ?_; rintro e w1 ⟨rfl, hw1⟩; have HB : Aside0 (Below w.heap.size w w1) := ⟨by rcases hw1 with rfl | ⟨t, rfl⟩; exact Below.refl _ _; exact Lib.bytesWorld_below _ _ _⟩; clear hw1)
      go_wp2_with (first | (go_at_call 11; refine (impl_Decimal v b1 b2 _ _ (Nat.le_refl _) (Lib.tabBelow_of_tabIs (HT.out.on HB.out).here)).mono ?_; rintro e w5 ⟨rfl, hb5⟩; have n1 := Aside0.mk (below_step HB.out hb5); clear HB hb5; have HB := n1; clear n1))
      go_ret2
      exact ⟨rfl, HB.out⟩
  | range =>
    dsimp only
    go_enter Tryd.func21, Tryd.ntmps21
    go_wp2_with (go_at_call 46; refine (Tryd.strconv_ParseInt_10_at64_range_var s (by omega) h tp p _ hv1).mono ?_; rintro e w1 ⟨N, rfl, _, _, hw1⟩; have HB := Aside0.mk hw1; clear hw1)
    go_wp2
    go_ret2
    exact ⟨rfl, HB.out⟩
  | _ =>
    dsimp only
    go_enter Tryd.func21, Tryd.ntmps21
    go_wp2_with (go_at_call 46; refine (Any.strconv_ParseInt_10_at64_syntax_var Tryd.laysC174 s (by omega) h tq q _ hv2).mono ?_; rintro e w1 ⟨N, rfl, _, _, hw1⟩; have HB := Aside0.mk hw1; clear hw1)
    go_wp2
    go_ret2
    exact ⟨rfl, HB.out⟩
theorem value_calls (s : ByteArray) (hs : s.size ≤ 1048576) (w : World) :
    Calls Tryd.prog 45 #[.string s] w fun e w' => e = .returned (.tuple #[.int .i64 (rdB s).1, .bool (rdB s).2]) ∧ Below w.heap.size w w' := by
  obtain ⟨k, hk⟩ := value_told s hs
  exact Pr.spec_l01Value.calls k s _ _ w hk
theorem spec_ReadDecimal (s : ByteArray) (hs : s.size ≤ 1048576) (w : World) :
    Calls Tryd.prog 20 #[.string s] w fun e w' => e = .returned (.tuple #[.int .i64 (rdB s).1, .bool (rdB s).2]) ∧ Below w.heap.size w w' := by
  obtain ⟨k, hk⟩ := value_told s hs
  exact Pr.spec_ReadDecimal.calls k s _ _ w (by unfold Pr.spec_ReadDecimal.f; rw [hk]; rfl)

theorem walk_FnExactReadDecimal (s : ByteArray) (W : World) (w0 : s.size ≤ maxLen) (hL : laidMet Tryd.prog Rows.fnExactReadDecimalRow.laid W) (hS : W.ShapedOpen Tryd.prog) :
    Calls Tryd.prog 6 #[.string s] W fun e W' => e = .returned (.bool true) ∧ Below W.heap.size W W' := by
  have hY : Lay W := ⟨Lib.tabBelow_of_tabIs (pow_of hL), (lay_errs hL.tail.tail.tail).1, (lay_errs hL.tail.tail.tail).2⟩
  by_cases hs : s.size ≤ 1048576
  · have h1 : decide ((s.size : Int) > 1048576) = false := decide_eq_false (by omega)
    have h2 : decide (1048576 < (s.size : Int)) = false := decide_eq_false (by omega)
    clear hL hS w0
    go_enter Tryd.func6, Tryd.ntmps6
    go_wp2_with (go_at_call 20; refine (spec_ReadDecimal s hs _).mono ?_; rintro e w1 ⟨rfl, hb1⟩; refine Hid.out ?_)
    refine Lib.hid ?_
    have hY2 := hY.on hb1
    have HB := Aside0.mk hb1
    clear hb1
    go_wp2_with (go_at_call 21; refine (impl_ReadDecimal s hs _ hY2).mono ?_; rintro e w2 ⟨rfl, hb2⟩; have HB2 := Aside0.mk (below_step HB.out hb2); clear HB hb2; refine Hid.out ?_)
    refine Lib.hid ?_
    obtain ⟨T, b⟩ := rdB s
    go_wp2
    go_ret
    exact ⟨rfl, HB2.out⟩
  · have h1 : decide ((s.size : Int) > 1048576) = true := decide_eq_true (by omega)
    have h2 : decide (1048576 < (s.size : Int)) = true := decide_eq_true (by omega)
    go_enter Tryd.func6, Tryd.ntmps6
    go_wp2
    go_ret
    exact ⟨rfl, Below.refl _ _⟩
end Go.Proofs.YtmfaickanmdfnaaDoor
