/- The program's solution of a round row, walked. Under no condition. -/
import Derived.Test.YtcnamhmoocdccaaQd
import Derived.Deep.CutRange
import Derived.BigRegion
namespace Go.Proofs.Ytcnamhmoocdccaa
open Go Go.RowKit
set_option linter.unusedVariables false
set_option linter.unusedSimpArgs false

theorem rsum_one {s r x : Nat} (h : cn .f32 r = cn .f32 (fadd .f32 x 1065353216)) (hx : Same .f32 x (m2 s)) : Same .f32 r (fadd .f32 (m2 s) 1065353216) := ⟨h.trans (congrArg (cn .f32) (hx.add (Same.refl .f32 _)))⟩
theorem rsum_two {s r x y : Nat} (h : cn .f32 r = cn .f32 (fadd .f32 x y)) (hy : cn .f32 y = cn .f32 (fmul .f32 s s)) (hx : Same .f32 x (m2 s)) : Same .f32 r (fadd .f32 (m2 s) (fmul .f32 s s)) := ⟨h.trans (congrArg (cn .f32) (hx.add ⟨hy⟩))⟩
theorem step_by {L : Nat → Nat} {s n r1 r2 r3 r4 r5 r6 x0 xn z0 zn : Nat} (h6 : cn .f32 r6 = cn .f32 (fdiv .f32 r2 r5)) (h5 : cn .f32 r5 = cn .f32 (fadd .f32 r3 r4)) (h4 : cn .f32 r4 = cn .f32 (fmul .f32 s zn)) (h3 : cn .f32 r3 = cn .f32 (fadd .f32 1065353216 z0)) (h2 : cn .f32 r2 = cn .f32 (fadd .f32 x0 r1)) (h1 : cn .f32 r1 = cn .f32 (fmul .f32 s xn))
    (sx0 : Same .f32 x0 (xV L (midR s n) s n 0)) (sxn : Same .f32 xn (xV L (midR s n) s n (n - 1))) (sz0 : Same .f32 z0 (xV (endV s n) (midR s n) s n 0)) (szn : Same .f32 zn (xV (endV s n) (midR s n) s n (n - 1))) : Same .f32 r6 (byV L s n) := by
  unfold byV
  have e1 : Same .f32 r1 (fmul .f32 s (xV L (midR s n) s n (n - 1))) := ⟨by rw [h1, (Same.refl .f32 s).mul sxn]⟩
  have e2 := (⟨by rw [h2, sx0.add e1]⟩ : Same .f32 r2 (fadd .f32 (xV L (midR s n) s n 0) (fmul .f32 s (xV L (midR s n) s n (n - 1)))))
  have e3 : Same .f32 r3 (fadd .f32 1065353216 (xV (endV s n) (midR s n) s n 0)) := ⟨by rw [h3, (Same.refl .f32 _).add sz0]⟩
  have e4 : Same .f32 r4 (fmul .f32 s (xV (endV s n) (midR s n) s n (n - 1))) := ⟨by rw [h4, (Same.refl .f32 s).mul szn]⟩
  have e5 := (⟨by rw [h5, e3.add e4]⟩ : Same .f32 r5 (fadd .f32 (fadd .f32 1065353216 (xV (endV s n) (midR s n) s n 0)) (fmul .f32 s (xV (endV s n) (midR s n) s n (n - 1)))))
  exact ⟨by rw [h6, e2.div e5]⟩
theorem step_out {L : Nat → Nat} {s n i r1 r2 x z b : Nat} (h2 : cn .f32 r2 = cn .f32 (fsub .f32 x r1)) (h1 : cn .f32 r1 = cn .f32 (fmul .f32 b z))
    (sx : Same .f32 x (xV L (midR s n) s n i)) (sz : Same .f32 z (xV (endV s n) (midR s n) s n i)) (sb : Same .f32 b (byV L s n)) : cn .f32 r2 = cn .f32 (rowV L s n true i) := by
  show _ = cn .f32 (fsub .f32 (xV L (midR s n) s n i) (fmul .f32 (byV L s n) (xV (endV s n) (midR s n) s n i)))
  have e1 : Same .f32 r1 (fmul .f32 (byV L s n) (xV (endV s n) (midR s n) s n i)) := ⟨by rw [h1, sb.mul sz]⟩
  rw [h2, sx.sub e1]
/-- The right side of the second sweep, as a list. -/
def endL (s n : Nat) : List Nat := (List.range n).map (endV s n)
theorem endL_length (s n : Nat) : (endL s n).length = n := by simp [endL]
theorem nth_endL (s n i : Nat) (h : i < n) : nth (endL s n) i = endV s n i := by
  unfold nth endL
  rw [List.getD_eq_getElem?_getD, List.getElem?_map, List.getElem?_range h]
  rfl
theorem ends_holds {w : World} {E n s : Nat} (h : Own w E 27 (((Array.replicate n (Value.float .f32 0)).setIfInBounds 0 (.float .f32 3212836864)).setIfInBounds (n - 1) (.float .f32 (Op.negFloat .f32 s)))) : Holds w (some ⟨E, 0, none⟩) n (fvals .f32 (endL s n)) := by
  refine h.holds (fun i hi => ?_)
  have e : fvals .f32 (endL s n) i = .float .f32 (endV s n i) := congrArg (Value.float .f32) (nth_endL s n i hi)
  rw [e, Array.getElem?_setIfInBounds]
  unfold endV
  by_cases e1 : i = n - 1
  · rw [if_pos e1.symm, if_pos e1, if_pos (by simp; omega)]
  · rw [if_neg (fun x => e1 x.symm), if_neg e1, Array.getElem?_setIfInBounds]
    by_cases e0 : i = 0
    · rw [if_pos e0.symm, if_pos e0, if_pos (by simp; omega)]
    · rw [if_neg (fun x => e0 x.symm), if_neg e0]
      exact zeros_at n i hi

set_option maxHeartbeats 4000000 in
set_option maxRecDepth 100000 in
theorem impl_solved_round (a : Option Addr) (n cap : Nat) (ys : List Nat) (s : Nat) (w : World) (hs : Holds w a n (fvals .f32 ys)) (hl : ys.length = n) (h2 : 3 ≤ n) (h64 : n ≤ 64) (hm : mass s = true) :
    Calls Try.prog 44 #[.slice a n cap, .float .f32 s, .bool true] w fun e w' => ∃ B c cur, e = .returned (.tuple #[.slice (some ⟨B, 0, none⟩) n c, .bool true]) ∧ w.heap.size ≤ B ∧ Own w' B 27 cur ∧ n ≤ c ∧ (c ≤ maxLen ∧ cur.size = c) ∧ Cells cur n (rowV (nth ys) s n true) ∧ Below w.heap.size w w' := by
  have HS := Lib.hid hs
  have hi : inB (n : Int) 2 64 = true := by unfold inB; exact decide_eq_true (by omega)
  have hA := fun x y w => run_afv Try.prog .add rfl 27 .f32 x y w
  have hM := fun x y w => run_afv Try.prog .mul rfl 27 .f32 x y w
  have hQ := fun x y w => run_afv Try.prog .quo rfl 27 .f32 x y w
  have hU := fun x y w => run_afv Try.prog .sub rfl 27 .f32 x y w
  have hn3 : decide ((n : Int) < 3) = false := decide_eq_false (by omega)
  have hmk := mk_mkW n (by omega)
  have hms := mkW_size n
  clear hs
  go_enter Try.func44, Try.ntmps44
  go_wp2_with (first | (go_at_call 75; refine (impl_within _ _ _ _).mono ?_; rw [hi]; rintro e w' ⟨rfl, rfl⟩) | (go_at_call 76; refine (impl_aMass s _).mono ?_; rw [hm]; rintro e w' ⟨n0, rfl, rfl⟩))
  have F0 : FOwn ((w.drewN n0).alloc (.cells #[] 27)) w.heap.size (.slice (some ⟨w.heap.size, 0, none⟩) 0 0) [] := FOwn.empty (w.drewN n0)
  have B0 : Below w.heap.size w ((w.drewN n0).alloc (.cells #[] 27)) := (below_drewN (Below.refl _ _) n0).alloc (Nat.le_refl _) _
  go_loopw [9, 35] (fun c9 c35 wr => ∃ (i : Nat) (vs : List Nat), i ≤ n ∧ c35 = .int .i64 (i : Int) ∧ Hid (Below w.heap.size w wr) ∧ Hid (FOwn wr w.heap.size c9 vs) ∧ Hid (vs.length = i) ∧ Hid (∀ x ∈ vs, Same .f32 x (m2 s))) (fun _ c35 _ => n - (intOf c35).toNat)
  case atStart => exact ⟨0, [], by omega, rfl, Lib.hid B0, Lib.hid F0, Lib.hid rfl, Lib.hid fun x hx => by cases hx⟩
  case round =>
    clear F0 B0
    obtain ⟨i, vs, hin, rfl, HB, HF, HN, HV⟩ := hrel
    by_cases hlt : i < n
    · have hvs : vs.length ≤ 1048576 := by have := HN.out; omega
      have HVS := Lib.hid hvs
      clear hvs
      go_wp2_with (at_builtin; refine list_one (by rfl) (.tmp 37) (.tmp 42) (by rfl) (HF.out.drewN _) _ (by rfl) (by rfl) HVS.out HB.out.size ?_; intro v3 w3 hb3 ho3; have HB3 := Lib.hid ((below_drewN HB.out _).trans hb3); have HO3 := Lib.hid ho3; clear hb3 ho3)
      go_roundw
      case rel =>
        refine ⟨i + 1, _, by omega, by go_num, HB3, HO3, Lib.hid (by rw [List.length_append, HN.out]; rfl), Lib.hid fun x hx => ?_⟩
        rcases List.mem_append.1 hx with hx | hx
        · exact HV.out x hx
        · rw [List.mem_singleton.1 hx]
          exact ⟨(cn_afv .add rfl .f32 _ _ _).trans (congrArg (cn .f32) (Same.add ⟨cn_afv .add rfl .f32 _ _ _⟩ (Same.refl .f32 s)))⟩
      case measure => simp [intOf]; omega
    · have hi2 : i = n := by omega
      subst hi2
      obtain ⟨g, cp, hv⟩ := HF.out.at_block' HN.out (by omega)
      subst hv
      obtain ⟨c1, f1, hg, _⟩ := HF.out.spot' HN.out (i := 0) (by omega)
      obtain ⟨c2, f2, _, _⟩ := HF.out.spot' HN.out (i := i - 1) (by omega)
      obtain ⟨x0, hx0⟩ : ∃ x0, x0 = vs.getD 0 0 := ⟨_, rfl⟩
      obtain ⟨x1, hx1⟩ : ∃ x1, x1 = vs.getD (i - 1) 0 := ⟨_, rfl⟩
      have HX0 : Hid (Same .f32 x0 (m2 s)) := Lib.hid (by
        rw [hx0, List.getD_eq_getElem?_getD, List.getElem?_eq_getElem (by have := HN.out; omega)]; exact HV.out _ (List.getElem_mem _))
      have HX1 : Hid (Same .f32 x1 (m2 s)) := Lib.hid (by
        rw [hx1, List.getD_eq_getElem?_getD, List.getElem?_eq_getElem (by have := HN.out; omega)]; exact HV.out _ (List.getElem_mem _))
      rw [← hx0] at c1
      rw [← hx1] at c2
      clear hx0 hx1
      have HG := Lib.hid hg
      have q1 := eq_true (show (0 : Int) ≤ (i : Int) - 1 by omega)
      have q2 := eq_true (show (i : Int) - 1 < (i : Int) by omega)
      have q3 := eq_true (show 0 < i by omega)
      have q4 := eq_false (show ¬ (i - 1 = 0) by omega)
      have q5 := eq_false (show ¬ (0 = i - 1) by omega)
      have hpos : 1 ≤ i := by omega
      clear hg
      go_upto_region 12 with fail
      go_cut [61] from 61 to 79 (fun _ wx => Hid (Below w.heap.size w wx ∧ ∃ ms, FOwn wx w.heap.size (.slice (some ⟨g, 0, none⟩) i cp) ms ∧ ms.length = i ∧ ∀ k, k < i → Same .f32 (nth ms k) (midR s i k)))
      case first =>
        go_region
        all_goals
          go_wp2_with fail
          go_meet
          first
          | refine Lib.hid ⟨((below_drewN HB.out _).setCell HG.out _).setCell HG.out _, _, ((HF.out.drewN _).put' HN.out (by omega) _).put' (by rw [List.length_set]; exact HN.out) (by omega) _, ?_, ?_⟩
          | refine Lib.hid ⟨(below_drewN ((below_drewN HB.out _).setCell HG.out _) _).setCell HG.out _, _, (((HF.out.drewN _).put' HN.out (by omega) _).drewN _).put' (by rw [List.length_set]; exact HN.out) (by omega) _, ?_, ?_⟩
          · rw [List.length_set, List.length_set]; exact HN.out
          · exact fun k hk => mid_same HN.out (by omega) HV.out (rsum_one (cn_afv .add rfl .f32 _ _ _) HX0.out) (rsum_two (cn_afv .add rfl .f32 _ _ _) (cn_afv .mul rfl .f32 _ _ _) HX1.out) k hk
      case rest =>
        clear c1 c2 f1 f2 HF HV HX0 HX1 HB HN
        obtain ⟨hbc, ms, hfm, hml, hmm⟩ := hcut.out
        have HBC := Lib.hid hbc
        have HFM := Lib.hid hfm
        have HMM := Lib.hid hmm
        clear hcut hbc hfm hml hmm
        go_wp2_with fail
        refine (impl_swept a (some ⟨g, 0, none⟩) i cap cp ys ms s _ (HS.out.keep HBC.out) (FOwn.rows HFM.out) hl (by omega) h64).mono ?_
        rintro e w4 ⟨B, c, cur, rfl, hB, ho, hc, hz, hcells, hb4⟩
        have HX : Hid (Own w4 B 27 cur ∧ Cells cur i (xV (nth ys) (midR s i) s i) ∧ Below w.heap.size w w4 ∧ Holds w4 (some ⟨g, 0, none⟩) i (fvals .f32 ms)) :=
          Lib.hid ⟨ho, fun j hj => by
            obtain ⟨x, hx, sx⟩ := hcells j hj
            exact ⟨x, hx, sx.trans ⟨congrArg (cn .f32) (xV_congr (by omega) (fun _ _ => Same.refl _ _) HMM.out j)⟩⟩, keep_trans HBC.out hb4, (FOwn.rows HFM.out).keep hb4⟩
        have HZ : Hid (w.heap.size ≤ B ∧ i ≤ c ∧ c ≤ maxLen ∧ cur.size = c) := Lib.hid ⟨Nat.le_trans HBC.out.size hB, hc, hz⟩
        have e1 := (mkW_own i w4).cell 0
        rw [zeros_at i 0 (by omega)] at e1
        have e2 := (mkW_own i w4).cell (i - 1)
        rw [zeros_at i (i - 1) (by omega)] at e2
        have e3 := (mkW_own i w4).frozen 0
        have e4 := (mkW_own i w4).frozen (i - 1)
        have HE := Lib.hid (ho.lt)
        clear hcells hb4 hB ho hc hz
        have hun := unary_neg_float .f32
        go_wp2_with fail
        refine (impl_swept (some ⟨w4.heap.size, 0, none⟩) (some ⟨g, 0, none⟩) i i cp (endL s i) ms s _ (ends_holds (((mkW_own i w4).set _ _).set _ _)) (HX.out.2.2.2.keep (((mkW_below i (Below.refl _ _) (Nat.le_refl _)).setCell (Nat.le_refl _) _).setCell (Nat.le_refl _) _)) (endL_length s i) (by omega) h64).mono ?_
        rintro e w6 ⟨B2, c2, cz, rfl, hB, ho, hc, hz, hcells, hb4⟩
        have HY : Hid (Own w6 B 27 cur ∧ Own w6 B2 27 cz ∧ Cells cz i (xV (endV s i) (midR s i) s i) ∧ Below w.heap.size w w6 ∧ B ≠ B2) := by
          have hsz : w4.heap.size + 1 ≤ B2 := by simpa [mkW_size] using hB
          have hbb : Below w4.heap.size w4 w6 := keep_trans (((mkW_below i (Below.refl _ _) (Nat.le_refl _)).setCell (Nat.le_refl _) _).setCell (Nat.le_refl _) _) hb4
          refine Lib.hid ⟨HX.out.1.below hbb HE.out, ho, fun j hj => ?_, keep_trans HX.out.2.2.1 hbb, by have := HE.out; omega⟩
          obtain ⟨x, hx, sx⟩ := hcells j hj
          exact ⟨x, hx, sx.trans ⟨congrArg (cn .f32) (xV_congr (by omega) (fun k hk => by rw [nth_endL s i k hk]; exact Same.refl _ _) HMM.out j)⟩⟩
        obtain ⟨x0, hx0, sx0⟩ := HX.out.2.1 0 (by omega)
        obtain ⟨xn, hxn, sxn⟩ := HX.out.2.1 (i - 1) (by omega)
        obtain ⟨z0, hz0, sz0⟩ := HY.out.2.2.1 0 (by omega)
        obtain ⟨zn, hzn, szn⟩ := HY.out.2.2.1 (i - 1) (by omega)
        have i1 := HY.out.1.cell 0
        rw [hx0] at i1
        have i2 := HY.out.1.cell (i - 1)
        rw [hxn] at i2
        have i3 := HY.out.2.1.cell 0
        rw [hz0] at i3
        have i4 := HY.out.2.1.cell (i - 1)
        rw [hzn] at i4
        have SS := Lib.hid (And.intro sx0 (And.intro sxn (And.intro sz0 szn)))
        clear hcells hb4 hB ho hc hz e1 e2 e3 e4 hx0 hxn hz0 hzn sx0 sxn sz0 szn HFM HBC
        go_upto_region 17 with fail
        go_cut [13] from 98 to 121 (fun c13 wx => ∃ b n, c13 = .float .f32 b ∧ wx = w6.drewN n ∧ Hid (Same .f32 b (byV (nth ys) s i)))
        case first =>
          go_region
          all_goals
            go_wp2_with fail
            go_meet
            exact ⟨_, _, rfl, rfl, Lib.hid (step_by (cn_afv .quo rfl .f32 _ _ _) (cn_afv .add rfl .f32 _ _ _) (cn_afv .mul rfl .f32 _ _ _) (cn_afv .add rfl .f32 _ _ _) (cn_afv .add rfl .f32 _ _ _) (cn_afv .mul rfl .f32 _ _ _) SS.out.1 SS.out.2.1 SS.out.2.2.1 SS.out.2.2.2)⟩
        case rest =>
          obtain ⟨b, nb, rfl, rfl, HBY⟩ := hcut
          clear i1 i2 i3 i4 SS
          go_wp2_with fail
          go_loopw [124] (fun c124 wr => ∃ k : Nat, k ≤ i ∧ c124 = .int .i64 (k : Int) ∧ Below w.heap.size w wr ∧ ∃ cu, Own wr B 27 cu ∧ Own wr B2 27 cz ∧ cu.size = c ∧ Hid (Cells cu k (rowV (nth ys) s i true)) ∧ Hid (∀ j, k ≤ j → j < i → cu[j]? = cur[j]?)) (fun c124 _ => i - (intOf c124).toNat)
          case atStart => exact ⟨0, by omega, rfl, below_drewN HY.out.2.2.2.1 _, cur, HY.out.1.drewN _, HY.out.2.1.drewN _, HZ.out.2.2.2, Lib.hid (Cells.zero _ _), Lib.hid fun _ _ _ => rfl⟩
          case round =>
            obtain ⟨k, hk, rfl, hb, cu, hou, hoz, hsu, HC, HR⟩ := hrel
            by_cases hlt2 : k < i
            · obtain ⟨x, hx, sx⟩ := HX.out.2.1 k hlt2
              obtain ⟨z, hz, sz⟩ := HY.out.2.2.1 k hlt2
              have i1 := hou.cell k
              rw [HR.out k (Nat.le_refl _) hlt2, hx] at i1
              have i2 := hoz.cell k
              rw [hz] at i2
              have i3 := hou.frozen k
              have HB := Lib.hid hb
              have HOU := Lib.hid (And.intro hou hoz)
              have HS2 := Lib.hid hsu
              have SX := Lib.hid (And.intro sx sz)
              clear hb hou hoz hsu hx hz sx sz
              go_wp2
              all_goals (try go_region)
              all_goals
                go_wp2
                go_roundw
                case rel =>
                  refine ⟨k + 1, by omega, by go_num, (below_drewN HB.out _).setCell HZ.out.1 _, _, (HOU.out.1.drewN _).set _ _, (HOU.out.2.drewN _).other HY.out.2.2.2.2 _, by simp [HS2.out], Lib.hid (Cells.snoc HC.out (by have := HS2.out; have := HZ.out.2.1; omega) (step_out (cn_afv .sub rfl .f32 _ _ _) (cn_afv .mul rfl .f32 _ _ _) SX.out.1 SX.out.2 HBY.out)), Lib.hid fun j hj hn => ?_⟩
                  rw [Array.getElem?_setIfInBounds, if_neg (by omega)]
                  exact HR.out j (by omega) hn
                case measure => simp [intOf]; omega
            · have hk2 : k = i := by omega
              subst hk2
              have HB := Lib.hid hb
              have HOU := Lib.hid (And.intro hou hsu)
              clear hb hou hoz hsu
              go_wp2
              go_ret2
              exact ⟨B, c, cu, rfl, HZ.out.1, HOU.out.1, HZ.out.2.1, ⟨HZ.out.2.2.1, HOU.out.2⟩, HC.out, HB.out⟩
end Go.Proofs.Ytcnamhmoocdccaa
