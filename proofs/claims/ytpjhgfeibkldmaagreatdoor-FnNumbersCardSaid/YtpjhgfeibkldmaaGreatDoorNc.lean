/- Numbers: the law, walked. The library's tables and errors read as the program's text lays them. -/
import Derived.Test.YtpjhgfeibkldmaaGreatDoorNb
import Derived.Test.YtpjhgfeibkldmaaGreatDoorZd
import Derived.Test.YtpjhgfeibkldmaaGreatDoorHt
import Derived.Test.YtpjhgfeibkldmaaGreatDoorRn
import Derived.Test.YtpjhgfeibkldmaaGreatDoorKb
import Derived.BigQuiet
namespace Go.Proofs.YtpjhgfeibkldmaaGreatDoor
open Go Go.RowKit Go.Proofs.YtpjhgfeibkldmaaGreatDoorW.PrintWords Go.Proofs.YtpjhgfeibkldmaaGreatDoorW.PrintLast Go.Proofs.YtpjhgfeibkldmaaGreatDoorW.PrintMore
set_option linter.unusedVariables false
set_option linter.unusedSimpArgs false

theorem irow_keep {W w : World} {a : Option Addr} {len cap : Nat} {xs : List Int} (h : IRow .u8 W a len cap xs) (hb : Below W.heap.size W w) : IRow .u8 w a len cap xs := ⟨h.1.keep hb, h.2⟩
theorem row_held' {w : World} {base : Nat} {l : List Nat} {A : Option Addr} {c n : Nat} (h : FOwn w base (.slice A n c) l) : n = l.length ∧ Holds w A l.length (fvals .f32 l) := by
  obtain ⟨a, cap, e, h3⟩ := h.value
  injection e with e1 e2 e3
  subst e1
  exact ⟨e2, h3⟩
theorem bits_calls (x : Nat) (w : World) (hx : x < 2 ^ 32) : Calls Tryz.prog 20 #[.int .i64 (bitsOf x)] w fun e w' => e = .returned (.tuple #[.float .f32 (canon x), .bool true]) ∧ w = w' := by
  have h := bitsOf_lt x hx
  have hb : inB (bitsOf x) 0 4294967295 = true := by unfold inB; exact decide_eq_true (by omega)
  refine (impl_FromBits (bitsOf x) w).mono ?_
  rw [hb]
  rintro e w' ⟨rfl, rfl⟩
  exact ⟨rfl, rfl⟩
theorem ntxt_small (xs : List Nat) (h : xs.length ≤ 256) : (ntxt xs).size ≤ 1048576 := by
  by_cases hne : xs = []
  · subst hne; decide
  · rw [ntxt_pre xs hne, ba_size]
    have := pre_len xs xs.length
    omega
theorem back_calls (us : List Nat) (hu : ∀ x ∈ us, x < 2 ^ 32) (hl : us.length ≤ 256) (w : World) (hY : Lay w) (hT : Tz w) (hSh : w.ShapedOpen Tryz.prog) :
    Calls Tryz.prog 32 #[.string (ntxt us)] w fun e w' => (∃ A c, e = .returned (.tuple #[.slice A us.length c, .bool true]) ∧ Holds w' A us.length (fvals .f32 (us.map canon))) ∧ Below w.heap.size w w' := by
  refine (impl_ReadNumbers (ntxt us) (ntxt_small us hl) w hY hT hSh).mono ?_
  rw [rn_back us hu hl]
  rintro e w' ⟨v, rfl, h1, h2⟩
  have h : FOwn w' w.heap.size v (us.map canon) := Kd.own_of_R h1
  obtain ⟨A, c, rfl, h3⟩ := h.value
  rw [List.length_map] at h3 ⊢
  exact ⟨⟨A, c, rfl, h3⟩, h2⟩
theorem num_same (a b : Nat) (w : World) (la : a < 2 ^ 32) (lb : b < 2 ^ 32) (r : Bool) (h : sameB a b = r) : Calls Tryz.prog 10 #[.float .f32 a, .float .f32 b] w fun e w' => e = .returned (.bool r) ∧ w = w' := by
  rw [← h]; exact spec_SameNumber a b w la lb

theorem num_same_q (a b : Nat) (w : World) (la : a < 2 ^ 32) (lb : b < 2 ^ 32) (r : Bool) (h : sameB a b = r) : Calls Tryz.prog 10 #[.float .f32 a, .float .f32 b] w fun e w' => e = .returned (.bool r) ∧ w' = w :=
  (num_same a b w la lb r h).mono fun e w' ⟨h1, h2⟩ => ⟨h1, h2.symm⟩
theorem one_one : (FloatKind.f32.format.order 1065353216 1065353216 == some .eq) = true := by decide +kernel
set_option maxHeartbeats 4000000 in
set_option maxRecDepth 100000 in
theorem core_FnNumbers (a : Option Addr) (len cap : Nat) (xs : List Int) (b : Option Addr) (len' cap' : Nat) (ys : List Int) (W : World) (hr : IRow .u8 W a len cap xs) (hr' : IRow .u8 W b len' cap' ys) (hY : Lay W) (hT : Tz W) (hS : W.ShapedOpen Tryz.prog) :
    Calls Tryz.prog 4 #[.slice a len cap, .slice b len' cap'] W fun e W' => e = .returned (.bool true) ∧ Below W.heap.size W W' := by
  cases hL : (decide (1048576 < len) || decide (1048576 < len')) with
  | true =>
    clear hr hr' hY hT hS
    go_enter Tryz.func4, Tryz.ntmps4
    go_wp2_with fail
    refine (laws_b10Long _ _ _ _ _ _ _).mono ?_
    rw [hL]
    rintro e w' ⟨rfl, rfl⟩
    go_wp2
    go_ret
    exact ⟨rfl, Below.refl _ _⟩
  | false =>
    have hl1 : len ≤ 1048576 := by simp at hL; omega
    have hl2 : len' ≤ 1048576 := by simp at hL; omega
    have HR := Lib.hid hr
    have HR' := Lib.hid hr'
    have HY := Lib.hid hY
    have HT := Lib.hid hT
    have HS := Lib.hid hS
    have HL1 := Lib.hid hl1
    have HL2 := Lib.hid hl2
    clear hr hr' hY hT hS hl1 hl2
    go_enter Tryz.func4, Tryz.ntmps4
    go_wp2_with fail
    refine (laws_b10Long _ _ _ _ _ _ _).mono ?_
    rw [hL]
    rintro e w' ⟨rfl, rfl⟩
    clear hL
    go_wp2_with fail
    refine (spec_B10Number a len cap xs _ HR.out HL1.out).mono ?_
    rintro e w1 ⟨⟨x, hx, rfl⟩, hb⟩
    have HX := Lib.hid hx
    have HB := Lib.hid hb
    clear hx hb
    go_wp2_with fail
    refine (spec_B10Number b len' cap' ys _ (irow_keep HR'.out HB.out) HL2.out).mono ?_
    rintro e w2 ⟨⟨y, hy, rfl⟩, hb⟩
    have HYY := Lib.hid hy
    have n0 := Lib.hid (keep_trans HB.out hb)
    clear HB hy hb
    have HB := n0
    clear n0
    go_wp2_with fail
    refine (impl_BitsOf x _ HX.out).mono ?_
    rintro e w' ⟨rfl, rfl⟩
    go_wp2_with fail
    refine (bits_calls x _ HX.out).mono ?_
    rintro e w' ⟨rfl, rfl⟩
    go_wp2_with fail
    refine (flush_calls x _ HX.out).mono ?_
    rintro e w' ⟨z, n1, rfl, hz, hz2, rfl⟩
    have HZ := Lib.hid (And.intro (flush_fine HX.out hz) hz2)
    clear hz hz2
    go_wp2_with fail
    refine (laws_b10At a len cap xs 0 12 _ (irow_keep HR.out (below_drewN HB.out _)) (by omega) (by omega) (by omega)).mono ?_
    rintro e w' ⟨⟨k, hk, rfl⟩, rfl⟩
    go_wp2_with fail
    refine (spec_B10Numbers b len' cap' ys _ k (irow_keep HR'.out (below_drewN HB.out _)) HL2.out (by omega)).mono ?_
    rintro e w4 ⟨⟨A, c, us, rfl, ho, hlen, hv⟩, hb⟩
    have n0 := Lib.hid (keep_trans (below_drewN HB.out _) hb)
    clear HB hb
    have HB := n0
    clear n0
    subst hlen
    have HU := Lib.hid (And.intro (row_held' ho).2 hv)
    clear ho hv
    go_wp2_with fail
    go_loopw [11, 41] (fun c11 c41 wr => ∃ i s m : Nat, i ≤ us.length ∧ c41 = .int .i64 (i : Int) ∧ c11 = .float .f32 s ∧ Hid (Same .f32 s (accF (sumV us) i) ∧ s < 2 ^ 32) ∧ wr = w4.drewN m) (fun _ c41 _ => us.length - (intOf c41).toNat)
    case atStart => exact ⟨0, 0, 0, Nat.zero_le _, rfl, rfl, Lib.hid ⟨Same.refl _ _, by decide⟩, rfl⟩
    case round =>
      obtain ⟨i, s, m, hi, rfl, rfl, HSM, rfl⟩ := hrel
      by_cases hlt : i < us.length
      · obtain ⟨bb, oo, rfl, h1⟩ : ∃ bb oo, A = some ⟨bb, oo, none⟩ ∧ w4.cell? ⟨bb, oo + i, none⟩ = some (.float .f32 (sumV us i)) := by
          rcases HU.out.1.split with h0 | ⟨bb, oo, e, hbb, hcc⟩
          · omega
          · exact ⟨bb, oo, e, hcc i hlt⟩
        go_wp2_with (first | (refine wpList_farith rfl _ _ _ _ _ rfl rfl _ _ _ rfl rfl ?_; rintro r n ⟨hr⟩ hl; simp only [fbin] at hr) | (refine wpList_fwid rfl _ _ _ rfl _ rfl (by rw [Tryz.underlying28]; rfl) Tryz.underlying46 ?_; rintro r n ⟨hr⟩ hl))
        go_roundw
        case rel => exact ⟨i + 1, _, _, by omega, by go_num, rfl, Lib.hid ⟨acc_step HSM.out.1 hr, hl⟩, rfl⟩
        case measure => simp [intOf]; omega
      · have hi2 : i = us.length := by omega
        subst hi2
        go_wp2_with fail
        refine (sum_calls A us.length c us _ (HU.out.1.drewN _) (by omega)).mono ?_
        rintro e w' ⟨got, n2, rfl, hg1, hg2, rfl⟩
        have HG := Lib.hid (And.intro (sameB_of (hg1.trans HSM.out.1.symm)) (And.intro hg2 HSM.out.2))
        clear hg1 hg2 HSM
        go_wp2_with fail
        refine (impl_NumbersText us A c _ (HU.out.1.drewN _) (by omega) HU.out.2 (HT.out.on (below_drewN HB.out _))).mono ?_
        rw [ntB_few us (by omega)]
        rintro e w5 ⟨rfl, hb⟩
        have n0 := Lib.hid (keep_trans (below_drewN HB.out _) hb)
        have HU5 := Lib.hid (And.intro ((HU.out.1.drewN _).keep hb) HU.out.2)
        clear HB hb HU
        have HB := n0
        clear n0
        go_wp2_with fail
        refine (back_calls us HU5.out.2 (by omega) _ (HY.out.on HB.out) (HT.out.on HB.out) (shaped_on HS.out HB.out)).mono ?_
        rintro e w6 ⟨⟨A2, c2, rfl, hr2⟩, hb⟩
        have n0 := Lib.hid (keep_trans HB.out hb)
        have HU := Lib.hid (And.intro (HU5.out.1.keep hb) HU5.out.2)
        have HR2 := Lib.hid hr2
        clear HB hb HU5 hr2
        have HB := n0
        clear n0
        have hbb : (subB x == !subB x) = false := by cases subB x <;> rfl
        go_wp2_with (first
          | (go_at_call_of 10 (Value.float .f32 (canon x)); refine (num_same (canon x) x _ (canon_lt HX.out) HX.out true (same_canon HX.out)).mono ?_; rintro e w' ⟨rfl, rfl⟩)
          | (go_at_call_of 33 (Value.float .f32 z); refine (impl_IsSubnormal z _).mono ?_; rw [HZ.out.1.1]; rintro e w' ⟨n3, rfl, rfl⟩))
        refine (impl_IsSubnormal x _).mono ?_
        rintro e w' ⟨n4, rfl, rfl⟩
        go_wp2_with fail
        refine (num_same x z _ HX.out HZ.out.2 (!subB x) HZ.out.1.2).mono ?_
        rintro e w' ⟨rfl, rfl⟩
        go_wp2_with fail
        refine (num_same got s _ HG.out.2.1 HG.out.2.2 true HG.out.1).mono ?_
        rintro e w' ⟨rfl, rfl⟩
        clear HG HZ hbb
        go_wp2_with fail
        go_loopw [113] (fun c113 wr => ∃ i m : Nat, i ≤ us.length ∧ c113 = .int .i64 (i : Int) ∧ wr = w6.drewN m) (fun c113 _ => us.length - (intOf c113).toNat)
        case atStart => exact ⟨0, _, Nat.zero_le _, rfl, rfl⟩
        case round =>
          obtain ⟨i, m2, hi2, rfl, rfl⟩ := hrel
          by_cases hlt2 : i < us.length
          · obtain ⟨b1, o1, rfl, g1⟩ : ∃ bb oo, A = some ⟨bb, oo, none⟩ ∧ w6.cell? ⟨bb, oo + i, none⟩ = some (.float .f32 (us.getD i 0)) := by
              rcases HU.out.1.split with h0 | ⟨bb, oo, e, hbb, hcc⟩
              · omega
              · exact ⟨bb, oo, e, hcc i hlt2⟩
            obtain ⟨b2, o2, rfl, g2⟩ : ∃ bb oo, A2 = some ⟨bb, oo, none⟩ ∧ w6.cell? ⟨bb, oo + i, none⟩ = some (.float .f32 ((us.map canon).getD i 0)) := by
              rcases HR2.out.split with h0 | ⟨bb, oo, e, hbb, hcc⟩
              · omega
              · exact ⟨bb, oo, e, hcc i hlt2⟩
            have hu : us.getD i 0 < 2 ^ 32 := by
              rw [List.getD_eq_getElem?_getD, List.getElem?_eq_getElem hlt2]
              exact HU.out.2 _ (List.getElem_mem hlt2)
            have hcu : (us.map canon).getD i 0 = canon (us.getD i 0) := by
              rw [List.getD_eq_getElem?_getD, List.getD_eq_getElem?_getD, List.getElem?_map, List.getElem?_eq_getElem hlt2]; rfl
            rw [hcu] at g2
            have HE := Lib.hid hu
            clear hu hcu
            generalize us.getD i 0 = el at g1 g2 HE
            go_wp2_with fail
            go_quiet ((go_at_call 10; exact (num_same_q (canon el) el _ (canon_lt HE.out) HE.out true (same_canon HE.out)).mono fun e w' h => ⟨h.1, _, h.2⟩))
            go_wp2_with fail
            go_roundw
            case rel => exact ⟨i + 1, _, by omega, by go_num, rfl⟩
            case measure => simp [intOf]; omega
          · have hi3 : i = us.length := by omega
            subst hi3
            go_wp2_with fail
            refine (impl_AngleTurns y x _).mono ?_
            rintro e w' ⟨r1, n5, rfl, ha1, hf1, rfl⟩
            have H1 := Lib.hid (And.intro ha1 hf1)
            clear ha1 hf1
            go_wp2_with fail
            refine (angle_of x y _).mono ?_
            rintro e w' ⟨r2, n6, rfl, ha2, hf2, rfl⟩
            have H2 := Lib.hid (And.intro (sameB_of (H1.out.1.trans ha2.symm)) (And.intro H1.out.2 hf2))
            clear ha2 hf2 H1
            go_wp2_with fail
            refine (num_same r1 r2 _ H2.out.2.1 H2.out.2.2 true H2.out.1).mono ?_
            rintro e w' ⟨rfl, rfl⟩
            clear H2
            have ho := one_one
            go_wp2_with (first | (refine wpList_farith rfl _ _ _ _ _ rfl rfl _ _ _ rfl rfl ?_; rintro r n ⟨hr⟩ hl; simp only [fbin] at hr) | (refine wpList_fwid rfl _ _ _ rfl _ rfl (by rw [Tryz.underlying28]; rfl) Tryz.underlying46 ?_; rintro r n ⟨hr⟩ hl))
            refine (impl_NarrowNumber x _ _ HX.out ⟨hr⟩).mono ?_
            rintro e w' ⟨r3, n7, rfl, ha3, hf3, rfl⟩
            have H3 := Lib.hid (And.intro (sameB_of ha3) hf3)
            clear ha3 hf3
            go_wp2_with fail
            refine (num_same r3 x _ H3.out.2 HX.out true H3.out.1).mono ?_
            rintro e w' ⟨rfl, rfl⟩
            go_wp2_with fail
            refine (sine_quarter _).mono ?_
            rintro e w' ⟨n8, rfl, rfl⟩
            go_wp2
            go_ret
            exact ⟨rfl, below_drewN HB.out _⟩
theorem walk_FnNumbers (a : Option Addr) (len cap : Nat) (xs : List Int) (b : Option Addr) (len' cap' : Nat) (ys : List Int) (W : World) (w0 : IRow .u8 W a len cap xs) (w1 : IRow .u8 W b len' cap' ys) (hL : laidMet Tryz.prog Rows.fnNumbersRow.laid W) (hS : W.ShapedOpen Tryz.prog) :
    Calls Tryz.prog 4 #[.slice a len cap, .slice b len' cap'] W fun e W' => e = .returned (.bool true) ∧ Below W.heap.size W W' :=
  core_FnNumbers a len cap xs b len' cap' ys W w0 w1 ⟨Lib.tabBelow_of_tabIs (pow_of hL), (lay_errs2 hL.tail.tail.tail.tail).1, (lay_errs2 hL.tail.tail.tail.tail).2⟩ (tz_of hL) hS
end Go.Proofs.YtpjhgfeibkldmaaGreatDoor

