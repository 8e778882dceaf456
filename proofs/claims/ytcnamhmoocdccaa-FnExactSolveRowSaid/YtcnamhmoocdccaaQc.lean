/- The program's sweep over a row, walked. Under no condition. -/
import Derived.Test.YtcnamhmoocdccaaQb
import Derived.Test.YtcnamhmoocdccaaQk
namespace Go.Proofs.Ytcnamhmoocdccaa
open Go Go.RowKit
set_option linter.unusedVariables false
set_option linter.unusedSimpArgs false

theorem Cells.high {cur : Array Value} {k : Nat} {V : Nat → Nat} (h : Cells cur k V) (i : Nat) (hi : k ≤ i) (v : Value) : Cells (cur.setIfInBounds i v) k V := by
  intro j hj
  rw [Array.getElem?_setIfInBounds, if_neg (by omega)]
  exact h j hj
theorem clone_calls (b oo n cap : Nat) (ys : List Nat) (w : World) (hy : Holds w (some ⟨b, oo, none⟩) n (fvals .f32 ys)) (hl : ys.length = n) (h0 : 0 < n) (hm : n ≤ 64) :
    Calls Try.prog 99 #[.slice (some ⟨b, oo, none⟩) n cap] w fun e w' => ∃ g c cur, e = .returned (.slice (some ⟨g, 0, none⟩) n c) ∧ Below w.heap.size w w' ∧ w.heap.size ≤ g ∧ Own w' g 27 cur ∧ n ≤ c ∧ (c ≤ maxLen ∧ cur.size = c) ∧ ∀ i, i < n → cur[i]? = some (.float .f32 (nth ys i)) := by
  refine (slices_Clone b oo n cap ys w hy hl h0 (by omega)).mono ?_
  rintro e w' ⟨g, c, rfl, hb, ho⟩
  rcases ho.form with ⟨e, rfl⟩ | ⟨g', cap', cur, e, hg, ho', hcap, hmx, hs, hc⟩
  · simp at hl; omega
  · simp only [Value.slice.injEq, Option.some.injEq, Addr.mk.injEq, and_true, true_and] at e
    obtain ⟨e1, e2, e3⟩ := e
    subst e1
    subst e3
    exact ⟨g, c, cur, rfl, hb, hg, ho', by omega, ⟨by omega, by omega⟩, fun i hi => hc i (by omega)⟩

set_option maxHeartbeats 4000000 in
set_option maxRecDepth 100000 in
theorem impl_swept (a m : Option Addr) (n cap cap' : Nat) (ys zs : List Nat) (s : Nat) (w : World) (hs : Holds w a n (fvals .f32 ys)) (hm : Holds w m n (fvals .f32 zs)) (hl : ys.length = n) (h2 : 2 ≤ n) (h64 : n ≤ 64) :
    Calls Try.prog 77 #[.slice a n cap, .slice m n cap', .float .f32 s] w fun e w' => ∃ B c cur, e = .returned (.slice (some ⟨B, 0, none⟩) n c) ∧ w.heap.size ≤ B ∧ Own w' B 27 cur ∧ n ≤ c ∧ (c ≤ maxLen ∧ cur.size = c) ∧ Cells cur n (xV (nth ys) (nth zs) s n) ∧ Below w.heap.size w w' := by
  have hmk := mk_mkW n (by omega)
  have hms := mkW_size n
  rcases hs.split with h0 | ⟨ba, oa, rfl, hba, hca⟩
  · omega
  rcases hm.split with h0 | ⟨bm, om, rfl, hbm, hcm⟩
  · omega
  have HCM := Lib.hid hcm
  have H1 := Lib.hid hs
  have H2 := Lib.hid (hs.keep (mkW_below n (Below.refl _ _) (Nat.le_refl _)))
  have C1 := Lib.hid (clone_calls ba oa n cap ys w.drew ⟨H1.out.cells⟩ hl (by omega) h64)
  have C2 := Lib.hid (clone_calls ba oa n cap ys (mkW n w.drew) ⟨H2.out.cells⟩ hl (by omega) h64)
  clear hs hm hca hcm
  go_enter Try.func77, Try.ntmps77
  go_wp2
  go_region_with (first | (go_at_call 99; refine C1.out.mono ?_; rintro e w1 ⟨g, cx, cur, rfl, hb1, hg1, ho1, hc1, hz1, hv1⟩; have HH := Lib.hid (And.intro hb1 (And.intro hg1 (And.intro ho1 (And.intro hc1 (And.intro hz1 hv1))))); clear hb1 hg1 ho1 hc1 hz1 hv1) | (go_at_call 99; refine C2.out.mono ?_; rintro e w1 ⟨g, cx, cur, rfl, hb1, hg1, ho1, hc1, hz1, hv1⟩; have HH := Lib.hid (And.intro hb1 (And.intro hg1 (And.intro ho1 (And.intro hc1 (And.intro hz1 hv1))))); clear hb1 hg1 ho1 hc1 hz1 hv1))
  all_goals
    first
    | (have HW : Hid (Own (mkW n w1) w1.heap.size 27 (Array.replicate n (.float .f32 0)) ∧ Own (mkW n w1) g 27 cur ∧ Below w.heap.size w (mkW n w1) ∧ (g ≠ w1.heap.size ∧ w1.heap.size ≠ g) ∧ w.heap.size ≤ g ∧ w.heap.size ≤ w1.heap.size) := Lib.hid (by
        obtain ⟨hb1, hg1, ho1, hc1, hz1, hv1⟩ := HH.out
        have hd : Below w.heap.size w w.drew := ⟨rfl, rfl, rfl, Nat.le_refl _, fun _ _ => rfl⟩
        have hb2 : Below w.heap.size w w1 := hd.trans hb1
        have hg2 : w.heap.size ≤ g := hg1
        exact ⟨mkW_own n w1, ho1.mkW n, mkW_below n hb2 hb2.size, ⟨by have := ho1.lt; omega, by have := ho1.lt; omega⟩, hg2, hb2.size⟩)
       generalize hWW : mkW n w1 = W at HW ⊢
       generalize hCC : w1.heap.size = CB at HW ⊢
       clear hWW hCC)
    | (have HW : Hid (Own w1 w.heap.size 27 (Array.replicate n (.float .f32 0)) ∧ Own w1 g 27 cur ∧ Below w.heap.size w w1 ∧ (g ≠ w.heap.size ∧ w.heap.size ≠ g) ∧ w.heap.size ≤ g ∧ w.heap.size ≤ w.heap.size) := Lib.hid (by
        obtain ⟨hb1, hg1, ho1, hc1, hz1, hv1⟩ := HH.out
        have hsz : (mkW n w.drew).heap.size = w.heap.size + 1 := mkW_size n w.drew
        have hd : Below w.heap.size w w.drew := ⟨rfl, rfl, rfl, Nat.le_refl _, fun _ _ => rfl⟩
        have hb2 : Below w.heap.size w w1 := (mkW_below n hd (Nat.le_refl _)).trans (hb1.mono (show w.heap.size ≤ (mkW n w.drew).heap.size by rw [hsz]; omega))
        exact ⟨(mkW_own n w.drew).below hb1 (by rw [hsz]; show w.heap.size < _; omega), ho1, hb2, ⟨by rw [hsz] at hg1; omega, by rw [hsz] at hg1; omega⟩, by rw [hsz] at hg1; omega, Nat.le_refl _⟩)
       obtain ⟨CB, hCB⟩ : ∃ CB, CB = w.heap.size := ⟨_, rfl⟩
       rw [← hCB]
       rw [show Hid (Own w1 w.heap.size 27 (Array.replicate n (.float .f32 0)) ∧ Own w1 g 27 cur ∧ Below w.heap.size w w1 ∧ (g ≠ w.heap.size ∧ w.heap.size ≠ g) ∧ w.heap.size ≤ g ∧ w.heap.size ≤ w.heap.size) = Hid (Own w1 CB 27 (Array.replicate n (.float .f32 0)) ∧ Own w1 g 27 cur ∧ Below w.heap.size w w1 ∧ (g ≠ CB ∧ CB ≠ g) ∧ w.heap.size ≤ g ∧ w.heap.size ≤ CB) by rw [hCB]] at HW
       clear hCB)
  all_goals
    obtain ⟨hoc0, hox0, hb0, hne, hg0, hcb0⟩ := HW.out
    obtain ⟨hb1, hg1, ho1, hc1, hz1, hv1⟩ := HH.out
    have HV := Lib.hid hv1
    have HZ := Lib.hid (And.intro hc1 hz1)
    have HG := Lib.hid (And.intro hg0 hcb0)
    obtain ⟨hn1, hn2⟩ := hne
    have hn3 := eq_false hn1
    have hn4 := eq_false hn2
    clear HW HH C1 C2 H1 H2 hb1 hg1 ho1 hc1 hz1 hv1 hg0 hcb0
    have hM := fun x y w => run_afv Try.prog .mul rfl 27 .f32 x y w
    have hA := fun x y w => run_afv Try.prog .add rfl 27 .f32 x y w
    have hS := fun x y w => run_afv Try.prog .sub rfl 27 .f32 x y w
    have hQ := fun x y w => run_afv Try.prog .quo rfl 27 .f32 x y w
    go_wp2
    go_loopw [19] (fun c19 wr => ∃ i : Nat, i ≤ n ∧ c19 = .int .i64 (i : Int) ∧ Below w.heap.size w wr ∧ ∃ cc cu, Own wr CB 27 cc ∧ Own wr g 27 cu ∧ cc.size = n ∧ cu.size = cx ∧ Hid (Cells cc i fun j => (sw (nth ys) (nth zs) s j).1) ∧ Hid (Cells cu i fun j => (sw (nth ys) (nth zs) s j).2) ∧ Hid (∀ j, i ≤ j → j < n → cu[j]? = some (.float .f32 (nth ys j)))) (fun c19 _ => n - (intOf c19).toNat)
    case atStart => exact ⟨0, by omega, rfl, hb0, _, _, hoc0, hox0, by simp, HZ.out.2.2, Lib.hid (Cells.zero _ _), Lib.hid (Cells.zero _ _), Lib.hid fun j _ hj => HV.out j hj⟩
    case round =>
      obtain ⟨i, hi, rfl, hb, cc, cu, hoc, hou, hsc, hsu, HC, HD, HR⟩ := hrel
      by_cases hlt : i < n
      · have h2' : wr.cell? ⟨bm, om + i, none⟩ = some (.float .f32 (nth zs i)) := (hb.cell (p := ⟨bm, om + i, none⟩) hbm).trans (HCM.out i hlt)
        obtain ⟨v0, hv0⟩ := getD_lt (xs := cc) (i := i) (by omega)
        have c1 : wr.cell? ⟨CB, i, none⟩ = some v0 := by rw [hoc.cell, hv0]
        have f1 : wr.frozen? ⟨CB, i, none⟩ = false := hoc.frozen i
        have c2 : wr.cell? ⟨g, i, none⟩ = some (.float .f32 (nth ys i)) := by rw [hou.cell, HR.out i (Nat.le_refl _) hlt]
        have f2 : wr.frozen? ⟨g, i, none⟩ = false := hou.frozen i
        have HB := Lib.hid hb
        have HOC := Lib.hid hoc
        have HOU := Lib.hid hou
        have HS := Lib.hid (And.intro hsc hsu)
        by_cases h0 : i = 0
        · have g1 : decide ((i : Int) > 0) = false := decide_eq_false (by omega)
          have g2 : decide ((0 : Int) < (i : Int)) = false := decide_eq_false (by omega)
          have g3 := eq_false (show ¬ 0 < i by omega)
          have H0 := Lib.hid h0
          clear hb hoc hou hv0 hsc hsu h0
          go_wp2
          go_roundw
          case rel =>
            obtain rfl := H0.out
            refine ⟨1, by omega, rfl, ((below_drewN ((below_drewN HB.out _).setCell HG.out.2 _) _).setCell HG.out.1 _), _, _, (((HOC.out.drewN _).set _ _).drewN _).other hn1 _, (((HOU.out.drewN _).other hn2 _).drewN _).set _ _, by simp [HS.out.1], by simp [HS.out.2], Lib.hid (Cells.snoc HC.out (by rw [HS.out.1]; omega) (cn_afv .quo rfl .f32 _ _ _)), Lib.hid (Cells.snoc HD.out (by have := HS.out.2; have := HZ.out.1; omega) (cn_afv .quo rfl .f32 _ _ _)), Lib.hid fun j hj hn => ?_⟩
            rw [Array.getElem?_setIfInBounds, if_neg (by omega)]
            exact HR.out j (by omega) hn
          case measure => simp [intOf]; omega
        · have g1 : decide ((i : Int) > 0) = true := decide_eq_true (by omega)
          have g2 : decide ((0 : Int) < (i : Int)) = true := decide_eq_true (by omega)
          have g3 := eq_true (show 0 < i by omega)
          have g4 : i - 1 < n := by omega
          have hpos : 1 ≤ i := by omega
          have g5 := eq_true (show (0 : Int) ≤ (i : Int) - 1 by omega)
          have g6 := eq_true (show (i : Int) - 1 < (n : Int) by omega)
          have g7 := eq_false (show ¬ (i - 1 = i) by omega)
          have g8 := eq_false (show ¬ (i = i - 1) by omega)
          obtain ⟨xc, hxc, sxc⟩ := HC.out (i - 1) (by omega)
          obtain ⟨xd, hxd, sxd⟩ := HD.out (i - 1) (by omega)
          have c3 : wr.cell? ⟨CB, i - 1, none⟩ = some (.float .f32 xc) := by rw [hoc.cell, hxc]
          have c4 : wr.cell? ⟨g, i - 1, none⟩ = some (.float .f32 xd) := by rw [hou.cell, hxd]
          have SC : Hid (Same .f32 xc (sw (nth ys) (nth zs) s (i - 1)).1) := Lib.hid sxc
          have SD : Hid (Same .f32 xd (sw (nth ys) (nth zs) s (i - 1)).2) := Lib.hid sxd
          have H0 := Lib.hid h0
          clear hb hoc hou hv0 hsc hsu h0 sxc sxd hxc hxd
          go_wp2
          all_goals (try go_region)
          all_goals
            go_wp2
            go_roundw
            case rel =>
              have hi1 : i = (i - 1) + 1 := by have := H0.out; omega
              have e1 : (sw (nth ys) (nth zs) s i).1 = fdiv .f32 s (fsub .f32 (nth zs i) (fmul .f32 s (sw (nth ys) (nth zs) s (i - 1)).1)) := by
                conv => lhs; rw [hi1]
                conv => rhs; rw [show nth zs i = nth zs ((i - 1) + 1) by rw [← hi1]]
                rfl
              have e2 : (sw (nth ys) (nth zs) s i).2 = fdiv .f32 (fadd .f32 (nth ys i) (fmul .f32 s (sw (nth ys) (nth zs) s (i - 1)).2)) (fsub .f32 (nth zs i) (fmul .f32 s (sw (nth ys) (nth zs) s (i - 1)).1)) := by
                conv => lhs; rw [hi1]
                conv => rhs; rw [show nth zs i = nth zs ((i - 1) + 1) by rw [← hi1], show nth ys i = nth ys ((i - 1) + 1) by rw [← hi1]]
                rfl
              refine ⟨i + 1, by omega, by go_num, ((below_drewN ((below_drewN ((below_drewN HB.out _).setCell HG.out.1 _) _).setCell HG.out.2 _) _).setCell HG.out.1 _), _, _, (((((HOC.out.drewN _).other hn1 _).drewN _).set _ _).drewN _).other hn1 _, (((((HOU.out.drewN _).set _ _).drewN _).other hn2 _).drewN _).set _ _, by simp [HS.out.1], by simp [HS.out.2], Lib.hid (Cells.snoc HC.out (by rw [HS.out.1]; omega) ?_), Lib.hid (Cells.snoc (Cells.high HD.out i (Nat.le_refl _) _) (by have := HS.out.2; have := HZ.out.1; simp; omega) ?_), Lib.hid fun j hj hn => ?_⟩
              · show cn .f32 _ = cn .f32 (sw (nth ys) (nth zs) s i).1
                rw [e1]
                exact step_c (cn_afv .quo rfl .f32 _ _ _) (cn_afv .sub rfl .f32 _ _ _) (cn_afv .mul rfl .f32 _ _ _) SC.out
              · show cn .f32 _ = cn .f32 (sw (nth ys) (nth zs) s i).2
                rw [e2]
                exact step_d (cn_afv .quo rfl .f32 _ _ _) (cn_afv .add rfl .f32 _ _ _) (cn_afv .mul rfl .f32 _ _ _) (cn_afv .sub rfl .f32 _ _ _) (cn_afv .mul rfl .f32 _ _ _) SC.out SD.out
              · rw [Array.getElem?_setIfInBounds, if_neg (by omega), Array.getElem?_setIfInBounds, if_neg (by omega)]
                exact HR.out j (by omega) hn
            case measure => simp [intOf]; omega
      · have hi2 : i = n := by omega
        subst hi2
        have HB := Lib.hid hb
        have HOC := Lib.hid hoc
        have HOU := Lib.hid hou
        have HS := Lib.hid (And.intro hsc hsu)
        clear hb hoc hou hsc hsu HCM
        go_wp2
        go_loopw [11] (fun c11 w2 => ∃ K : Int, c11 = .int .i64 K ∧ -1 ≤ K ∧ K ≤ (i : Int) - 2 ∧ Below w.heap.size w w2 ∧ Own w2 CB 27 cc ∧ ∃ cu2, Own w2 g 27 cu2 ∧ cu2.size = cx ∧ Hid (∀ j : Nat, (j : Int) ≤ K → cu2[j]? = cu[j]?) ∧ Hid (CellsFrom cu2 (K + 1).toNat i (xV (nth ys) (nth zs) s i))) (fun c11 _ => (intOf c11 + 1).toNat)
        case atStart =>
          refine ⟨(i : Int) - 2, rfl, by omega, Int.le_refl _, HB.out, HOC.out, cu, HOU.out, HS.out.2, Lib.hid fun _ _ => rfl, Lib.hid ?_⟩
          rw [show ((i : Int) - 2 + 1).toNat = i - 1 by omega]
          intro j hj hn
          have e : j = i - 1 := by omega
          subst e
          rw [xV_last]
          exact HD.out (i - 1) (by omega)
        case round =>
          obtain ⟨K, rfl, hK1, hK2, hb, hoc, cu2, hou, hsu, HO2, HCX⟩ := hrel
          by_cases hk : 0 ≤ K
          · obtain ⟨k, rfl⟩ : ∃ k : Nat, K = k := ⟨K.toNat, by omega⟩
            have hki : k + 1 < i := by omega
            obtain ⟨xd, hxd, sxd⟩ := HD.out k (by omega)
            obtain ⟨xc, hxc, sxc⟩ := HC.out k (by omega)
            obtain ⟨xx, hxx, sxx⟩ := HCX.out (k + 1) (by omega) (by omega)
            have g1 : decide ((k : Int) ≥ 0) = true := decide_eq_true (by omega)
            have g2 : decide ((0 : Int) ≤ (k : Int)) = true := decide_eq_true (by omega)
            have l2 := hoc.cell k
            rw [hxc] at l2
            have l3 := hou.cell (k + 1)
            rw [hxx] at l3
            have l4 := hou.cell k
            rw [HO2.out k (Int.le_refl _), hxd] at l4
            have l5 := hou.frozen k
            have SD : Hid (Same .f32 xd (sw (nth ys) (nth zs) s k).2) := Lib.hid sxd
            have SC : Hid (Same .f32 xc (sw (nth ys) (nth zs) s k).1) := Lib.hid sxc
            have SXX := Lib.hid sxx
            have HBB := Lib.hid hb
            have HOC := Lib.hid hoc
            have HX := Lib.hid (And.intro hou hsu)
            clear hb hoc hou hsu hxd hxc hxx sxd sxc sxx
            go_wp2
            all_goals (try go_region)
            all_goals
              go_wp2
              go_roundw
              case rel =>
                refine ⟨(k : Int) - 1, rfl, by omega, by omega, (below_drewN HBB.out _).setCell HG.out.1 _, (HOC.out.drewN _).other hn1 _, _, (HX.out.1.drewN _).set _ _, by simp [HX.out.2], Lib.hid fun j hj => ?_, Lib.hid ?_⟩
                · rw [Array.getElem?_setIfInBounds, if_neg (by omega)]
                  exact HO2.out j (by omega)
                · rw [show ((k : Int) - 1 + 1).toNat = k by omega]
                  have HC2 : CellsFrom cu2 (k + 1) i (xV (nth ys) (nth zs) s i) := by
                    have := HCX.out
                    rwa [show ((k : Int) + 1).toNat = k + 1 by omega] at this
                  refine HC2.cons (by have := HX.out.2; have := HZ.out.1; omega) ?_
                  rw [xV_step _ _ _ _ _ hki]
                  exact step_x (cn_afv .add rfl .f32 _ _ _) (cn_afv .mul rfl .f32 _ _ _) SD.out SC.out SXX.out
              case measure => first | (simp [intOf]; done) | (simp [intOf]; omega)
          · have hK : K = -1 := by omega
            subst hK
            have HBB := Lib.hid hb
            have HX := Lib.hid (And.intro hou hsu)
            clear hb hoc hou hsu
            go_wp2
            go_ret
            exact ⟨_, _, rfl, HG.out.1, cu2, HX.out.1, HZ.out.1, ⟨HZ.out.2.1, HX.out.2⟩, fun j hj => HCX.out j (by omega) hj, HBB.out⟩
end Go.Proofs.Ytcnamhmoocdccaa
