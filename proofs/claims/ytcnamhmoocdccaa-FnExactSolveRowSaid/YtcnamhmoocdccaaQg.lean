/- The reference's solution of a row, walked. Under no condition. -/
import Derived.Test.YtcnamhmoocdccaaQf
import Derived.Test.YtcnamhmoocdccaaQb
namespace Go.Proofs.Ytcnamhmoocdccaa
open Go Go.RowKit
set_option linter.unusedVariables false
set_option linter.unusedSimpArgs false

/-- What a walk is told of a row: the numbers it holds, up to the bits of a NaN. -/
def RowIs (ys : List Nat) (s n : Nat) (rd : Bool) (w : World) (e : Ending) (w' : World) : Prop :=
  (∃ A c xs, e = .returned (.slice A n c) ∧ Holds w' A n (fvals .f32 xs) ∧ ∀ i, i < n → Same .f32 (nth xs i) (rowV (nth ys) s n rd i)) ∧ Below w.heap.size w w'

theorem nth_last {us : List Nat} {k x : Nat} (h : us.length = k) : nth (us ++ [x]) k = x := by
  unfold nth
  rw [List.getD_eq_getElem?_getD, List.getElem?_append_right (by omega), h, Nat.sub_self]; rfl
theorem nth_before {us : List Nat} {k x j : Nat} (h : us.length = k) (hj : j < k) : nth (us ++ [x]) j = nth us j := by
  unfold nth
  rw [List.getD_eq_getElem?_getD, List.getD_eq_getElem?_getD, List.getElem?_append_left (by omega)]

/-- A number appended, in a region that draws its order. -/
theorem step_pushes {w : World} {ops : Array Oper} {o : Oper} {a : Act} {K : Act → World → Prop} {Q : Exit → Act → World → Prop} {E : Prop} (hgd : o.guard = none) (s x : Operand)
    (ho : o.op = .call { callee := .builtin .append, args := #[s, x], argTypes := #[25, 25] })
    {base : Nat} {v : Value} {vs ys : List Nat} {b oo c m : Nat} (F : FOwn w base v vs) (hs : a.eval s = v) (hx : a.eval x = .slice (some ⟨b, oo, none⟩) m c) (hm : ys.length = m) (hm0 : 0 < m)
    (hy : Holds w (some ⟨b, oo, none⟩) m (fvals .f32 ys)) (hn : vs.length ≤ 1048576) (hn2 : m ≤ 1048576) (hbase : base ≤ w.heap.size)
    (h : ∀ g cap w', w.grownBy w' v.ownBlock → FOwn w' base (.slice (some ⟨g, 0, none⟩) (vs.length + m) cap) (vs ++ ys) → (v.ownBlock = some g ∨ g = w.heap.size) → g < w'.heap.size →
      K (a.put o.dst (.slice (some ⟨g, 0, none⟩) (vs.length + m) cap)) w') :
    if Region.wanted o (yielded ops a.tmps) = true then Oper.wp Try.prog o a w K Q else E := by
  subst hm
  obtain ⟨i0, hi0, hz0, hz1, hz2⟩ := info_parts infof32
  refine step_append_lies (P := Try.prog) w hgd s x 25 ho base 27 i0 (.float .f32 0) 1 4 Try.underlying25 hi0 hz0 hz1 hz2 rfl (by omega) v vs.length _ hs F
    ⟨b, oo, none⟩ ys.length c (ys.map (Value.float .f32)) hx (by simp) (holds_news hy) (by simp [Value.oneCell']) hm0 (by unfold maxLen; omega) (by omega) hbase _ rfl ?_
  intro g cap w' hown hgrow hat hlt
  exact h g cap w' hgrow (by simpa [FOwn] using hown) hat hlt
theorem step_one {w : World} {ops : Array Oper} {o : Oper} {a : Act} {K : Act → World → Prop} {Q : Exit → Act → World → Prop} {E : Prop} (hgd : o.guard = none) (s x : Operand)
    (ho : o.op = .call { callee := .builtin .append, args := #[s, x], argTypes := #[25, 25] })
    {base : Nat} {v : Value} {vs : List Nat} (F : FOwn w base v vs) (b : Nat) (hs : a.eval s = v) (hx : a.eval x = .slice (some ⟨w.heap.size, 0, none⟩) 1 1) (hn : vs.length ≤ 1048576) (hbase : base ≤ w.heap.size)
    (h : ∀ v' w', Below base w w' → FOwn w' base v' (vs ++ [b]) → K (a.put o.dst v') w') :
    if Region.wanted o (yielded ops a.tmps) = true then Oper.wp Try.prog o a (w.alloc (.cells #[.float .f32 b] 27)) K Q else E := by
  have hb : Below w.heap.size w (w.alloc (.cells #[.float .f32 b] 27)) := keep_own w _
  have H : Holds (w.alloc (.cells #[.float .f32 b] 27)) (some ⟨w.heap.size, 0, none⟩) 1 (fvals .f32 [b]) := (Own.alloc w 27 #[.float .f32 b]).holds (fun i hi => by
    have : i = 0 := by omega
    subst this; rfl)
  refine step_pushes hgd s x ho (F.keep hb) hs hx (ys := [b]) rfl (by decide) H hn (by decide) (by rw [size_alloc']; omega) ?_
  intro g cap w' hg o' hat hlt
  refine h _ w' ?_ o'
  have hB : Below base w (w.alloc (.cells #[.float .f32 b] 27)) := hb.mono hbase
  exact hB.grown hg (by rw [size_alloc']; omega) (fun k e => (F.lt k e).1)

set_option maxHeartbeats 4000000 in
set_option maxRecDepth 100000 in
theorem spec_l03Row_open (a : Option Addr) (n cap : Nat) (ys : List Nat) (s : Nat) (w : World) (hs : Holds w a n (fvals .f32 ys)) (h2 : 2 ≤ n) (h64 : n ≤ 64) :
    Calls Try.prog 69 #[.slice a n cap, .float .f32 s, .bool false] w fun e w' => RowIs ys s n false w e w' := by
  have HS := Lib.hid hs
  have hA := fun x y w => run_afv Try.prog .add rfl 27 .f32 x y w
  clear hs
  go_enter Try.func69, Try.ntmps69
  go_wp2_with fail
  have F0 : FOwn (w.alloc (.cells #[] 27)) w.heap.size (.slice (some ⟨w.heap.size, 0, none⟩) 0 0) [] := FOwn.empty w
  have B0 : Below w.heap.size w (w.alloc (.cells #[] 27)) := (Below.refl _ _).alloc (Nat.le_refl _) _
  go_loopw [8, 20] (fun c8 c20 wr => ∃ (i : Nat) (vs : List Nat), i ≤ n ∧ c20 = .int .i64 (i : Int) ∧ Hid (Below w.heap.size w wr) ∧ Hid (FOwn wr w.heap.size c8 vs) ∧ Hid (vs.length = i) ∧ Hid (∀ x ∈ vs, Same .f32 x (m2 s))) (fun _ c20 _ => n - (intOf c20).toNat)
  case atStart => exact ⟨0, [], by omega, rfl, Lib.hid B0, Lib.hid F0, Lib.hid rfl, Lib.hid fun x hx => by cases hx⟩
  case round =>
    clear F0 B0
    obtain ⟨i, vs, hin, rfl, HB, HF, HN, HV⟩ := hrel
    by_cases hlt : i < n
    · have hvs : vs.length ≤ 1048576 := by have := HN.out; omega
      have HVS := Lib.hid hvs
      clear hvs
      go_wp2_with (at_builtin; refine list_one (by rfl) (.tmp 22) (.tmp 27) (by rfl) (HF.out.drewN _) _ (by rfl) (by rfl) HVS.out HB.out.size ?_; intro v3 w3 hb3 ho3; have HB3 := Lib.hid ((below_drewN HB.out _).trans hb3); have HO3 := Lib.hid ho3; clear hb3 ho3)
      go_roundw
      case rel =>
        refine ⟨i + 1, _, by omega, by go_num, HB3, HO3, Lib.hid (by rw [List.length_append, HN.out]; rfl), Lib.hid fun x hx => ?_⟩
        rcases List.mem_append.1 hx with hx | hx
        · exact HV.out x hx
        · rw [List.mem_singleton.1 hx]
          exact ⟨(cn_afv .add rfl .f32 _ _ _).trans (congrArg (cn .f32) (Same.add ⟨cn_afv .add rfl .f32 _ _ _⟩ (Same.refl .f32 s)))⟩
      case measure => simp [intOf]; omega
    · have hi2 : i = n := by omega
      subst hi2
      obtain ⟨g, cp, hv⟩ := HF.out.at_block' HN.out (by omega)
      subst hv
      obtain ⟨c1, f1, hg, _⟩ := HF.out.spot' HN.out (i := 0) (by omega)
      obtain ⟨c2, f2, _, _⟩ := HF.out.spot' HN.out (i := i - 1) (by omega)
      have HG := Lib.hid hg
      have q1 := eq_true (show (0 : Int) ≤ (i : Int) - 1 by omega)
      have q2 := eq_true (show (i : Int) - 1 < (i : Int) by omega)
      have q3 := eq_true (show 0 < i by omega)
      have q4 := eq_false (show ¬ (i - 1 = 0) by omega)
      have q5 := eq_false (show ¬ (0 = i - 1) by omega)
      have hpos : 1 ≤ i := by omega
      clear hg
      go_wp2_with fail
      refine (spec_l03Sweep a (some ⟨g, 0, none⟩) i cap cp ys _ s _ (HS.out.keep ((below_drewN ((below_drewN HB.out _).setCell HG.out _) _).setCell HG.out _)) (FOwn.rows ((((HF.out.drewN _).put' HN.out (by omega) _).drewN _).put' (by rw [List.length_set]; exact HN.out) (by omega) _)) h2 h64).mono ?_
      rintro e w4 ⟨B, cur, rfl, hB, ho, hz, hcells, hb4⟩
      have HB4 := Lib.hid (keep_trans ((below_drewN ((below_drewN HB.out _).setCell HG.out _) _).setCell HG.out _) hb4)
      obtain ⟨xs, hxl, hx⟩ := hcells.list
      have HR : Hid (Holds w4 (some ⟨B, 0, none⟩) i (fvals .f32 xs) ∧ ∀ j, j < i → Same .f32 (nth xs j) (rowV (nth ys) s i false j)) := Lib.hid ⟨ho.holds fun j hj => (hx j hj).1, fun j hj => (hx j hj).2.trans ⟨congrArg (cn .f32) (xV_congr (by omega) (fun _ _ => Same.refl _ _) (fun k hk => mid_same HN.out h2 HV.out ⟨cn_afv .add rfl .f32 _ _ _⟩ ⟨cn_afv .add rfl .f32 _ _ _⟩ k hk) j)⟩⟩
      clear hcells hb4 hB ho hz hx hxl
      go_wp2
      go_ret
      exact ⟨⟨_, _, xs, rfl, HR.out.1, HR.out.2⟩, HB4.out⟩
set_option maxHeartbeats 4000000 in
set_option maxRecDepth 100000 in
theorem spec_l03Row_round (a : Option Addr) (n cap : Nat) (ys : List Nat) (s : Nat) (w : World) (hs : Holds w a n (fvals .f32 ys)) (h2 : 3 ≤ n) (h64 : n ≤ 64) :
    Calls Try.prog 69 #[.slice a n cap, .float .f32 s, .bool true] w fun e w' => RowIs ys s n true w e w' := by
  have HS := Lib.hid hs
  have hA := fun x y w => run_afv Try.prog .add rfl 27 .f32 x y w
  have hM := fun x y w => run_afv Try.prog .mul rfl 27 .f32 x y w
  have hQ := fun x y w => run_afv Try.prog .quo rfl 27 .f32 x y w
  have hU := fun x y w => run_afv Try.prog .sub rfl 27 .f32 x y w
  have hun := unary_neg_float .f32
  have hmk := mk_mkW n (by omega)
  have hms := mkW_size n
  clear hs
  go_enter Try.func69, Try.ntmps69
  go_wp2_with fail
  have F0 : FOwn (w.alloc (.cells #[] 27)) w.heap.size (.slice (some ⟨w.heap.size, 0, none⟩) 0 0) [] := FOwn.empty w
  have B0 : Below w.heap.size w (w.alloc (.cells #[] 27)) := (Below.refl _ _).alloc (Nat.le_refl _) _
  go_loopw [8, 20] (fun c8 c20 wr => ∃ (i : Nat) (vs : List Nat), i ≤ n ∧ c20 = .int .i64 (i : Int) ∧ Hid (Below w.heap.size w wr) ∧ Hid (FOwn wr w.heap.size c8 vs) ∧ Hid (vs.length = i) ∧ Hid (∀ x ∈ vs, Same .f32 x (m2 s))) (fun _ c20 _ => n - (intOf c20).toNat)
  case atStart => exact ⟨0, [], by omega, rfl, Lib.hid B0, Lib.hid F0, Lib.hid rfl, Lib.hid fun x hx => by cases hx⟩
  case round =>
    clear F0 B0
    obtain ⟨i, vs, hin, rfl, HB, HF, HN, HV⟩ := hrel
    by_cases hlt : i < n
    · have hvs : vs.length ≤ 1048576 := by have := HN.out; omega
      have HVS := Lib.hid hvs
      clear hvs
      go_wp2_with (at_builtin; refine list_one (by rfl) (.tmp 22) (.tmp 27) (by rfl) (HF.out.drewN _) _ (by rfl) (by rfl) HVS.out HB.out.size ?_; intro v3 w3 hb3 ho3; have HB3 := Lib.hid ((below_drewN HB.out _).trans hb3); have HO3 := Lib.hid ho3; clear hb3 ho3)
      go_roundw
      case rel =>
        refine ⟨i + 1, _, by omega, by go_num, HB3, HO3, Lib.hid (by rw [List.length_append, HN.out]; rfl), Lib.hid fun x hx => ?_⟩
        rcases List.mem_append.1 hx with hx | hx
        · exact HV.out x hx
        · rw [List.mem_singleton.1 hx]
          exact ⟨(cn_afv .add rfl .f32 _ _ _).trans (congrArg (cn .f32) (Same.add ⟨cn_afv .add rfl .f32 _ _ _⟩ (Same.refl .f32 s)))⟩
      case measure => simp [intOf]; omega
    · have hi2 : i = n := by omega
      subst hi2
      obtain ⟨g, cp, hv⟩ := HF.out.at_block' HN.out (by omega)
      subst hv
      obtain ⟨c1, f1, hg, _⟩ := HF.out.spot' HN.out (i := 0) (by omega)
      obtain ⟨c2, f2, _, _⟩ := HF.out.spot' HN.out (i := i - 1) (by omega)
      obtain ⟨x0, hx0⟩ : ∃ x0, x0 = vs.getD 0 0 := ⟨_, rfl⟩
      obtain ⟨x1, hx1⟩ : ∃ x1, x1 = vs.getD (i - 1) 0 := ⟨_, rfl⟩
      have HX0 : Hid (Same .f32 x0 (m2 s)) := Lib.hid (by
        rw [hx0, List.getD_eq_getElem?_getD, List.getElem?_eq_getElem (by have := HN.out; omega)]; exact HV.out _ (List.getElem_mem _))
      have HX1 : Hid (Same .f32 x1 (m2 s)) := Lib.hid (by
        rw [hx1, List.getD_eq_getElem?_getD, List.getElem?_eq_getElem (by have := HN.out; omega)]; exact HV.out _ (List.getElem_mem _))
      rw [← hx0] at c1
      rw [← hx1] at c2
      clear hx0 hx1
      have HG := Lib.hid hg
      have q1 := eq_true (show (0 : Int) ≤ (i : Int) - 1 by omega)
      have q2 := eq_true (show (i : Int) - 1 < (i : Int) by omega)
      have q3 := eq_true (show 0 < i by omega)
      have q4 := eq_false (show ¬ (i - 1 = 0) by omega)
      have q5 := eq_false (show ¬ (0 = i - 1) by omega)
      have hpos : 1 ≤ i := by omega
      clear hg
      go_upto_region 12 with fail
      go_cut [52] from 46 to 64 (fun _ wx => Hid (Below w.heap.size w wx ∧ ∃ ms, FOwn wx w.heap.size (.slice (some ⟨g, 0, none⟩) i cp) ms ∧ ms.length = i ∧ ∀ k, k < i → Same .f32 (nth ms k) (midR s i k)))
      case first =>
        go_wp2_with fail
        go_meet
        refine Lib.hid ⟨(below_drewN ((below_drewN HB.out _).setCell HG.out _) _).setCell HG.out _, _, (((HF.out.drewN _).put' HN.out (by omega) _).drewN _).put' (by rw [List.length_set]; exact HN.out) (by omega) _, ?_, ?_⟩
        · rw [List.length_set, List.length_set]; exact HN.out
        · exact fun k hk => mid_same HN.out (by omega) HV.out (rsum_one (cn_afv .add rfl .f32 _ _ _) HX0.out) (rsum_two (cn_afv .add rfl .f32 _ _ _) (cn_afv .mul rfl .f32 _ _ _) HX1.out) k hk
      case rest =>
        clear c1 c2 f1 f2 HF HV HX0 HX1 HB HN
        obtain ⟨hbc, ms, hfm, hml, hmm⟩ := hcut.out
        have HBC := Lib.hid hbc
        have HFM := Lib.hid hfm
        have HMM := Lib.hid hmm
        clear hcut hbc hfm hml hmm
        go_wp2_with fail
        refine (spec_l03Sweep a (some ⟨g, 0, none⟩) i cap cp ys ms s _ (HS.out.keep HBC.out) (FOwn.rows HFM.out) (by omega) h64).mono ?_
        rintro e w4 ⟨B, cur, rfl, hB, ho, hz, hcells, hb4⟩
        have HX : Hid (Own w4 B 27 cur ∧ Cells cur i (xV (nth ys) (midR s i) s i) ∧ Below w.heap.size w w4 ∧ Holds w4 (some ⟨g, 0, none⟩) i (fvals .f32 ms)) :=
          Lib.hid ⟨ho, fun j hj => by
            obtain ⟨x, hx, sx⟩ := hcells j hj
            exact ⟨x, hx, sx.trans ⟨congrArg (cn .f32) (xV_congr (by omega) (fun _ _ => Same.refl _ _) HMM.out j)⟩⟩, keep_trans HBC.out hb4, (FOwn.rows HFM.out).keep hb4⟩
        have e1 := (mkW_own i w4).cell 0
        rw [zeros_at i 0 (by omega)] at e1
        have e2 := (mkW_own i w4).cell (i - 1)
        rw [zeros_at i (i - 1) (by omega)] at e2
        have e3 := (mkW_own i w4).frozen 0
        have e4 := (mkW_own i w4).frozen (i - 1)
        have HE := Lib.hid (ho.lt)
        clear hcells hb4 hB ho hz
        go_wp2_with fail
        refine (spec_l03Sweep (some ⟨w4.heap.size, 0, none⟩) (some ⟨g, 0, none⟩) i i cp (endL s i) ms s _ (ends_holds (((mkW_own i w4).set _ _).set _ _)) (HX.out.2.2.2.keep (((mkW_below i (Below.refl _ _) (Nat.le_refl _)).setCell (Nat.le_refl _) _).setCell (Nat.le_refl _) _)) (by omega) h64).mono ?_
        rintro e w6 ⟨B2, cz, rfl, hB, ho, hz, hcells, hb4⟩
        have HY : Hid (Own w6 B 27 cur ∧ Own w6 B2 27 cz ∧ Cells cz i (xV (endV s i) (midR s i) s i) ∧ Below w.heap.size w w6) := by
          have hbb : Below w4.heap.size w4 w6 := keep_trans (((mkW_below i (Below.refl _ _) (Nat.le_refl _)).setCell (Nat.le_refl _) _).setCell (Nat.le_refl _) _) hb4
          refine Lib.hid ⟨HX.out.1.below hbb HE.out, ho, fun j hj => ?_, keep_trans HX.out.2.2.1 hbb⟩
          obtain ⟨x, hx, sx⟩ := hcells j hj
          exact ⟨x, hx, sx.trans ⟨congrArg (cn .f32) (xV_congr (by omega) (fun k hk => by rw [nth_endL s i k hk]; exact Same.refl _ _) HMM.out j)⟩⟩
        obtain ⟨x0, hx0, sx0⟩ := HX.out.2.1 0 (by omega)
        obtain ⟨xn, hxn, sxn⟩ := HX.out.2.1 (i - 1) (by omega)
        obtain ⟨z0, hz0, sz0⟩ := HY.out.2.2.1 0 (by omega)
        obtain ⟨zn, hzn, szn⟩ := HY.out.2.2.1 (i - 1) (by omega)
        have i1 := HY.out.1.cell 0
        rw [hx0] at i1
        have i2 := HY.out.1.cell (i - 1)
        rw [hxn] at i2
        have i3 := HY.out.2.1.cell 0
        rw [hz0] at i3
        have i4 := HY.out.2.1.cell (i - 1)
        rw [hzn] at i4
        have SS := Lib.hid (And.intro sx0 (And.intro sxn (And.intro sz0 szn)))
        clear hcells hb4 hB ho hz e1 e2 e3 e4 hx0 hxn hz0 hzn sx0 sxn sz0 szn HFM HBC
        go_upto_region 18 with fail
        go_cut [12] from 83 to 106 (fun c12 wx => ∃ b n, c12 = .float .f32 b ∧ wx = w6.drewN n ∧ Hid (Same .f32 b (byV (nth ys) s i)))
        case first =>
          go_region
          all_goals
            go_wp2_with fail
            go_meet
            exact ⟨_, _, rfl, rfl, Lib.hid (step_by (cn_afv .quo rfl .f32 _ _ _) (cn_afv .add rfl .f32 _ _ _) (cn_afv .mul rfl .f32 _ _ _) (cn_afv .add rfl .f32 _ _ _) (cn_afv .add rfl .f32 _ _ _) (cn_afv .mul rfl .f32 _ _ _) SS.out.1 SS.out.2.1 SS.out.2.2.1 SS.out.2.2.2)⟩
        case rest =>
          obtain ⟨b, nb, rfl, rfl, HBY⟩ := hcut
          clear i1 i2 i3 i4 SS
          go_wp2_with fail
          have F0 : FOwn ((w6.drewN nb).alloc (.cells #[] 27)) w6.heap.size (.slice (some ⟨w6.heap.size, 0, none⟩) 0 0) [] := FOwn.empty (w6.drewN nb)
          have B0 : Below w6.heap.size w6 ((w6.drewN nb).alloc (.cells #[] 27)) := (below_drewN (Below.refl _ _) nb).alloc (Nat.le_refl _) _
          go_loopw [13, 110] (fun c13 c110 wr => ∃ (k : Nat) (us : List Nat), k ≤ i ∧ c110 = .int .i64 (k : Int) ∧ Hid (Below w6.heap.size w6 wr) ∧ Hid (FOwn wr w6.heap.size c13 us) ∧ Hid (us.length = k) ∧ Hid (∀ j, j < k → Same .f32 (nth us j) (rowV (nth ys) s i true j))) (fun _ c110 _ => i - (intOf c110).toNat)
          case atStart => exact ⟨0, [], by omega, rfl, Lib.hid B0, Lib.hid F0, Lib.hid rfl, Lib.hid fun j hj => absurd hj (Nat.not_lt_zero _)⟩
          case round =>
            clear F0 B0
            obtain ⟨k, us, hk, rfl, HB, HF, HN, HV⟩ := hrel
            by_cases hlt2 : k < i
            · obtain ⟨x, hx, sx⟩ := HX.out.2.1 k hlt2
              obtain ⟨z, hz, sz⟩ := HY.out.2.2.1 k hlt2
              have i1 := (HY.out.1.below HB.out HY.out.1.lt).cell k
              rw [hx] at i1
              have i2 := (HY.out.2.1.below HB.out HY.out.2.1.lt).cell k
              rw [hz] at i2
              have SX := Lib.hid (And.intro sx sz)
              have HVS : Hid (us.length ≤ 1048576) := Lib.hid (by have := HN.out; omega)
              clear hx hz sx sz
              go_wp2
              go_region_law (refine step_one (by rfl) (.tmp 113) (.tmp 125) (by rfl) (HF.out.drewN _) _ (by rfl) (by rfl) HVS.out HB.out.size ?_; intro v3 w3 hb3 ho3; have HB3 := Lib.hid ((below_drewN HB.out _).trans hb3); have HO3 := Lib.hid ho3; clear hb3 ho3)
              all_goals
                go_wp2
                go_roundw
                case rel =>
                  refine ⟨k + 1, _, by omega, by go_num, HB3, HO3, Lib.hid (by rw [List.length_append, HN.out]; rfl), Lib.hid fun j hj => ?_⟩
                  by_cases e : j = k
                  · subst e
                    rw [nth_last HN.out]
                    exact ⟨step_out (cn_afv .sub rfl .f32 _ _ _) (cn_afv .mul rfl .f32 _ _ _) SX.out.1 SX.out.2 HBY.out⟩
                  · rw [nth_before HN.out (by omega)]
                    exact HV.out j (by omega)
                case measure => simp [intOf]; omega
            · have hk2 : k = i := by omega
              subst hk2
              obtain ⟨A, c, hv, h3⟩ := HF.out.value
              subst hv
              have H3 := Lib.hid h3
              clear h3
              go_wp2
              go_ret
              refine ⟨⟨A, c, us, ?_, ?_, HV.out⟩, keep_trans HY.out.2.2.2 HB.out⟩
              · rw [← HN.out]; rfl
              · rw [← HN.out]; exact H3.out
end Go.Proofs.Ytcnamhmoocdccaa
