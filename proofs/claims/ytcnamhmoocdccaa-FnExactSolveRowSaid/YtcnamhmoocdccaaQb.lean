/- The reference's sweep over a row, walked. Under no condition. -/
import Derived.Test.YtcnamhmoocdccaaQa
import Derived.Test.YtcnamhmoocdccaaCs
import Derived.Lib.Hide
namespace Go.Proofs.Ytcnamhmoocdccaa
open Go Go.RowKit
set_option linter.unusedVariables false
set_option linter.unusedSimpArgs false

/-- The first k cells hold numbers that are the told ones, up to the bits of a NaN. -/
def Cells (cur : Array Value) (k : Nat) (V : Nat → Nat) : Prop := ∀ j, j < k → ∃ x, cur[j]? = some (.float .f32 x) ∧ Same .f32 x (V j)
theorem Cells.zero (cur : Array Value) (V : Nat → Nat) : Cells cur 0 V := fun j hj => absurd hj (Nat.not_lt_zero _)
theorem Cells.snoc {cur : Array Value} {k : Nat} {V : Nat → Nat} (h : Cells cur k V) (hk : k < cur.size) {r : Nat} (hr : cn .f32 r = cn .f32 (V k)) : Cells (cur.setIfInBounds k (.float .f32 r)) (k + 1) V := by
  intro j hj
  rw [Array.getElem?_setIfInBounds]
  by_cases e : k = j
  · subst e
    exact ⟨r, by simp [hk], ⟨hr⟩⟩
  · rw [if_neg e]; exact h j (by omega)
/-- The cells from k on. -/
def CellsFrom (cur : Array Value) (k n : Nat) (V : Nat → Nat) : Prop := ∀ j, k ≤ j → j < n → ∃ x, cur[j]? = some (.float .f32 x) ∧ Same .f32 x (V j)
theorem CellsFrom.cons {cur : Array Value} {k n : Nat} {V : Nat → Nat} (h : CellsFrom cur (k + 1) n V) (hk : k < cur.size) {r : Nat} (hr : cn .f32 r = cn .f32 (V k)) : CellsFrom (cur.setIfInBounds k (.float .f32 r)) k n V := by
  intro j hj hn
  rw [Array.getElem?_setIfInBounds]
  by_cases e : k = j
  · subst e
    exact ⟨r, by simp [hk], ⟨hr⟩⟩
  · rw [if_neg e]; exact h j (by omega) hn
/-- The numbers of a list, by place. -/
def nth (ys : List Nat) (i : Nat) : Nat := ys.getD i 0

theorem CellsFrom.at {cur : Array Value} {k n : Nat} {V : Nat → Nat} (h : CellsFrom cur k n V) {j : Nat} (hj : k ≤ j) (hn : j < n) : ∃ x, cur[j]? = some (.float .f32 x) ∧ Same .f32 x (V j) := h j hj hn
theorem step_c {s M xc c r1 r2 r5 : Nat} (h5 : cn .f32 r5 = cn .f32 (fdiv .f32 s r2)) (h2 : cn .f32 r2 = cn .f32 (fsub .f32 M r1)) (h1 : cn .f32 r1 = cn .f32 (fmul .f32 s xc)) (sx : Same .f32 xc c) :
    cn .f32 r5 = cn .f32 (fdiv .f32 s (fsub .f32 M (fmul .f32 s c))) := by
  have e1 : Same .f32 r1 (fmul .f32 s c) := ⟨by rw [h1, (Same.refl .f32 s).mul sx]⟩
  have e2 : Same .f32 r2 (fsub .f32 M (fmul .f32 s c)) := ⟨by rw [h2, (Same.refl .f32 M).sub e1]⟩
  rw [h5, (Same.refl .f32 s).div e2]
theorem step_d {s M L xc c xd d r1 r2 r3 r4 r6 : Nat} (h6 : cn .f32 r6 = cn .f32 (fdiv .f32 r4 r2)) (h4 : cn .f32 r4 = cn .f32 (fadd .f32 L r3)) (h3 : cn .f32 r3 = cn .f32 (fmul .f32 s xd)) (h2 : cn .f32 r2 = cn .f32 (fsub .f32 M r1)) (h1 : cn .f32 r1 = cn .f32 (fmul .f32 s xc)) (sx : Same .f32 xc c) (sd : Same .f32 xd d) :
    cn .f32 r6 = cn .f32 (fdiv .f32 (fadd .f32 L (fmul .f32 s d)) (fsub .f32 M (fmul .f32 s c))) := by
  have e1 : Same .f32 r1 (fmul .f32 s c) := ⟨by rw [h1, (Same.refl .f32 s).mul sx]⟩
  have e2 : Same .f32 r2 (fsub .f32 M (fmul .f32 s c)) := ⟨by rw [h2, (Same.refl .f32 M).sub e1]⟩
  have e3 : Same .f32 r3 (fmul .f32 s d) := ⟨by rw [h3, (Same.refl .f32 s).mul sd]⟩
  have e4 : Same .f32 r4 (fadd .f32 L (fmul .f32 s d)) := ⟨by rw [h4, (Same.refl .f32 L).add e3]⟩
  rw [h6, e4.div e2]
theorem step_x {xd d xc c xx x r1 r2 : Nat} (h2 : cn .f32 r2 = cn .f32 (fadd .f32 xd r1)) (h1 : cn .f32 r1 = cn .f32 (fmul .f32 xc xx)) (sd : Same .f32 xd d) (sc : Same .f32 xc c) (sx : Same .f32 xx x) :
    cn .f32 r2 = cn .f32 (fadd .f32 d (fmul .f32 c x)) := by
  have e1 : Same .f32 r1 (fmul .f32 c x) := ⟨by rw [h1, sc.mul sx]⟩
  rw [h2, sd.add e1]
/-- The world behind 'make([]float32, n)'. -/
def mkW (n : Nat) (w : World) : World := w.alloc (.cells (Array.replicate n (.float .f32 0)) 27)
theorem mk_mkW (n : Nat) (h : n ≤ 1048576) (w : World) : (Instr.makeSlice 25 (.int .i64 n) (.int .i64 n)).run Try.prog w = .ok (.slice (some ⟨w.heap.size, 0, none⟩) n n) (mkW n w) := mk_f32 n h w
theorem mkW_size (n : Nat) (w : World) : (mkW n w).heap.size = w.heap.size + 1 := size_alloc' _ _
theorem mkW_own (n : Nat) (w : World) : Own (mkW n w) w.heap.size 27 (Array.replicate n (.float .f32 0)) := Own.alloc _ _ _
theorem mkW_below {B : Nat} {w0 w : World} (n : Nat) (h : Below B w0 w) (hB : B ≤ w.heap.size) : Below B w0 (mkW n w) := h.alloc hB _
theorem Own.mkW {w : World} {B : Nat} {e : TypeId} {cur : Array Value} (h : Own w B e cur) (n : Nat) : Own (mkW n w) B e cur := h.alloc_later _
theorem zeros_at (n i : Nat) (h : i < n) : (Array.replicate n (Value.float .f32 0))[i]? = some (.float .f32 0) := by rw [Array.getElem?_replicate, if_pos h]

set_option maxHeartbeats 4000000 in
set_option maxRecDepth 100000 in
theorem spec_l03Sweep (a m : Option Addr) (n cap cap' : Nat) (ys zs : List Nat) (s : Nat) (w : World) (hs : Holds w a n (fvals .f32 ys)) (hm : Holds w m n (fvals .f32 zs)) (h2 : 2 ≤ n) (h64 : n ≤ 64) :
    Calls Try.prog 97 #[.slice a n cap, .slice m n cap', .float .f32 s] w fun e w' => ∃ B cur, e = .returned (.slice (some ⟨B, 0, none⟩) n n) ∧ w.heap.size ≤ B ∧ Own w' B 27 cur ∧ cur.size = n ∧ Cells cur n (xV (nth ys) (nth zs) s n) ∧ Below w.heap.size w w' := by
  have hmk := mk_mkW n (by omega)
  have hms := mkW_size n
  rcases hs.split with h0 | ⟨ba, oa, rfl, hba, hca⟩
  · omega
  rcases hm.split with h0 | ⟨bm, om, rfl, hbm, hcm⟩
  · omega
  have HCA := Lib.hid hca
  have HCM := Lib.hid hcm
  clear hs hm hca hcm
  go_enter Try.func97, Try.ntmps97
  go_wp2
  go_loopw [10] (fun c10 wr => ∃ i : Nat, i ≤ n ∧ c10 = .int .i64 (i : Int) ∧ Below w.heap.size w wr ∧ ∃ cc cd, Own wr w.heap.size 27 cc ∧ Own wr (w.heap.size + 1) 27 cd ∧ cc.size = n ∧ cd.size = n ∧ Hid (Cells cc i fun j => (sw (nth ys) (nth zs) s j).1) ∧ Hid (Cells cd i fun j => (sw (nth ys) (nth zs) s j).2)) (fun c10 _ => n - (intOf c10).toNat)
  case atStart =>
    refine ⟨0, by omega, rfl, mkW_below n (mkW_below n (Below.refl _ _) (Nat.le_refl _)) (by rw [mkW_size]; omega), Array.replicate n (.float .f32 0), Array.replicate n (.float .f32 0), (mkW_own n w).mkW n, ?_, by simp, by simp, Lib.hid (Cells.zero _ _), Lib.hid (Cells.zero _ _)⟩
    have := mkW_own n (mkW n w)
    rwa [mkW_size] at this
  case round =>
    obtain ⟨i, hi, rfl, hb, cc, cd, hoc, hod, hsc, hsd, HC, HD⟩ := hrel
    by_cases hlt : i < n
    · have h1 : wr.cell? ⟨ba, oa + i, none⟩ = some (.float .f32 (nth ys i)) := (hb.cell (p := ⟨ba, oa + i, none⟩) hba).trans (HCA.out i hlt)
      have h2' : wr.cell? ⟨bm, om + i, none⟩ = some (.float .f32 (nth zs i)) := (hb.cell (p := ⟨bm, om + i, none⟩) hbm).trans (HCM.out i hlt)
      obtain ⟨v0, hv0⟩ := getD_lt (xs := cc) (i := i) (by omega)
      obtain ⟨v1, hv1⟩ := getD_lt (xs := cd) (i := i) (by omega)
      have c1 : wr.cell? ⟨w.heap.size, i, none⟩ = some v0 := by rw [hoc.cell, hv0]
      have f1 : wr.frozen? ⟨w.heap.size, i, none⟩ = false := hoc.frozen i
      have c2 : wr.cell? ⟨w.heap.size + 1, i, none⟩ = some v1 := by rw [hod.cell, hv1]
      have f2 : wr.frozen? ⟨w.heap.size + 1, i, none⟩ = false := hod.frozen i
      have HB := Lib.hid hb
      have HOC := Lib.hid hoc
      have HOD := Lib.hid hod
      have HS := Lib.hid (And.intro hsc hsd)
      have HI := Lib.hid hb.size
      by_cases h0 : i = 0
      · have g1 : decide ((i : Int) > 0) = false := decide_eq_false (by omega)
        have g2 : decide ((0 : Int) < (i : Int)) = false := decide_eq_false (by omega)
        have g3 := eq_false (show ¬ 0 < i by omega)
        have H0 := Lib.hid h0
        clear hb hoc hod hv0 hv1 hsc hsd h0
        go_wp2_with (first | (refine wpList_farith rfl _ _ _ _ _ rfl rfl _ _ _ rfl rfl ?_; rintro r n ⟨hr⟩ hl; simp only [fbin] at hr) | (refine wpList_fwid rfl _ _ _ rfl _ rfl (by rw [Try.underlying27]; rfl) Try.underlying31 ?_; rintro r n ⟨hr⟩ hl))
        go_roundw
        case rel =>
          obtain rfl := H0.out
          refine ⟨1, by omega, rfl, ((below_drewN ((below_drewN HB.out _).setCell (by simp) _) _).setCell (by simp) _), _, _, (((HOC.out.drewN _).set _ _).drewN _).other (by simp) _, (((HOD.out.drewN _).other (by simp) _).drewN _).set _ _, by simp [HS.out.1], by simp [HS.out.2], Lib.hid (Cells.snoc HC.out (by rw [HS.out.1]; omega) ?_), Lib.hid (Cells.snoc HD.out (by rw [HS.out.2]; omega) ?_)⟩
          · assumption
          · assumption
        case measure => simp [intOf]; omega
      · have g1 : decide ((i : Int) > 0) = true := decide_eq_true (by omega)
        have g2 : decide ((0 : Int) < (i : Int)) = true := decide_eq_true (by omega)
        have g3 := eq_true (show 0 < i by omega)
        have g4 : i - 1 < n := by omega
        have hpos : 1 ≤ i := by omega
        have g5 := eq_true (show (0 : Int) ≤ (i : Int) - 1 by omega)
        have g6 := eq_true (show (i : Int) - 1 < (n : Int) by omega)
        obtain ⟨xc, hxc, sxc⟩ := HC.out (i - 1) (by omega)
        obtain ⟨xd, hxd, sxd⟩ := HD.out (i - 1) (by omega)
        have c3 : wr.cell? ⟨w.heap.size, i - 1, none⟩ = some (.float .f32 xc) := by rw [hoc.cell, hxc]
        have c4 : wr.cell? ⟨w.heap.size + 1, i - 1, none⟩ = some (.float .f32 xd) := by rw [hod.cell, hxd]
        have SC : Hid (Same .f32 xc (sw (nth ys) (nth zs) s (i - 1)).1) := Lib.hid sxc
        have SD : Hid (Same .f32 xd (sw (nth ys) (nth zs) s (i - 1)).2) := Lib.hid sxd
        have H0 := Lib.hid h0
        clear hb hoc hod hv0 hv1 hsc hsd h0 sxc sxd hxc hxd
        go_wp2_with (first | (refine wpList_farith rfl _ _ _ _ _ rfl rfl _ _ _ rfl rfl ?_; rintro r n ⟨hr⟩ hl; simp only [fbin] at hr) | (refine wpList_fwid rfl _ _ _ rfl _ rfl (by rw [Try.underlying27]; rfl) Try.underlying31 ?_; rintro r n ⟨hr⟩ hl))
        go_roundw
        case rel =>
          have hi1 : i = (i - 1) + 1 := by have := H0.out; omega
          refine ⟨i + 1, by omega, by go_num, ((below_drewN ((below_drewN HB.out _).setCell (by simp) _) _).setCell (by simp) _), _, _, (((HOC.out.drewN _).set _ _).drewN _).other (by simp) _, (((HOD.out.drewN _).other (by simp) _).drewN _).set _ _, by simp [HS.out.1], by simp [HS.out.2], Lib.hid (Cells.snoc HC.out (by rw [HS.out.1]; omega) ?_), Lib.hid (Cells.snoc HD.out (by rw [HS.out.2]; omega) ?_)⟩
          · have e : (sw (nth ys) (nth zs) s i).1 = fdiv .f32 s (fsub .f32 (nth zs i) (fmul .f32 s (sw (nth ys) (nth zs) s (i - 1)).1)) := by
              conv => lhs; rw [hi1]
              conv => rhs; rw [show nth zs i = nth zs ((i - 1) + 1) by rw [← hi1]]
              rfl
            show cn .f32 _ = cn .f32 (sw (nth ys) (nth zs) s i).1
            rw [e]
            apply step_c (xc := xc)
            · assumption
            · assumption
            · assumption
            · exact SC.out
          · have e : (sw (nth ys) (nth zs) s i).2 = fdiv .f32 (fadd .f32 (nth ys i) (fmul .f32 s (sw (nth ys) (nth zs) s (i - 1)).2)) (fsub .f32 (nth zs i) (fmul .f32 s (sw (nth ys) (nth zs) s (i - 1)).1)) := by
              conv => lhs; rw [hi1]
              conv => rhs; rw [show nth zs i = nth zs ((i - 1) + 1) by rw [← hi1], show nth ys i = nth ys ((i - 1) + 1) by rw [← hi1]]
              rfl
            show cn .f32 _ = cn .f32 (sw (nth ys) (nth zs) s i).2
            rw [e]
            apply step_d (xc := xc) (xd := xd)
            · assumption
            · assumption
            · assumption
            · assumption
            · assumption
            · exact SC.out
            · exact SD.out
        case measure => simp [intOf]; omega
    · have hi2 : i = n := by omega
      subst hi2
      obtain ⟨x, hx, sx⟩ := HD.out (i - 1) (by omega)
      have HOD2 := hod.mkW i
      have HOC2 := hoc.mkW i
      have HOX := mkW_own i wr
      have HB2 := mkW_below i hb hb.size
      have hne : wr.heap.size ≠ w.heap.size ∧ wr.heap.size ≠ w.heap.size + 1 ∧ w.heap.size ≤ wr.heap.size := ⟨by have := hoc.lt; omega, by have := hod.lt; omega, hb.size⟩
      have e1 : (mkW i wr).cell? ⟨w.heap.size + 1, i - 1, none⟩ = some (.float .f32 x) := by rw [HOD2.cell, hx]
      have e2 : (mkW i wr).cell? ⟨wr.heap.size, i - 1, none⟩ = some (.float .f32 0) := by rw [HOX.cell, zeros_at i (i - 1) (by omega)]
      have e3 : (mkW i wr).frozen? ⟨wr.heap.size, i - 1, none⟩ = false := HOX.frozen _
      have HB := Lib.hid HB2
      have HOC := Lib.hid HOC2
      have HOD := Lib.hid HOD2
      have HX := Lib.hid HOX
      have HS := Lib.hid (And.intro hsc hsd)
      have SX := Lib.hid sx
      have HNE := Lib.hid hne
      clear hb hoc hod HB2 HOC2 HOD2 HOX hsc hsd hx sx HCA HCM hne
      go_wp2_with fail
      go_loopw [14] (fun c14 w2 => ∃ K : Int, c14 = .int .i64 K ∧ -1 ≤ K ∧ K ≤ (i : Int) - 2 ∧ Below w.heap.size w w2 ∧ Own w2 w.heap.size 27 cc ∧ Own w2 (w.heap.size + 1) 27 cd ∧ ∃ cx, Own w2 wr.heap.size 27 cx ∧ cx.size = i ∧ Hid (CellsFrom cx (K + 1).toNat i (xV (nth ys) (nth zs) s i))) (fun c14 _ => (intOf c14 + 1).toNat)
      case atStart =>
        refine ⟨(i : Int) - 2, rfl, by omega, Int.le_refl _, HB.out.setCell HNE.out.2.2 _, HOC.out.other HNE.out.1 _, HOD.out.other HNE.out.2.1 _, _, HX.out.set _ _, by simp, Lib.hid ?_⟩
        rw [show ((i : Int) - 2 + 1).toNat = i - 1 by omega]
        refine CellsFrom.cons (k := i - 1) (n := i) ?_ (by simp; omega) ?_
        · intro j hj hn; omega
        · rw [xV_last]; exact SX.out.out
      case round =>
        obtain ⟨K, rfl, hK1, hK2, hb, hoc, hod, cx, hox, hsx, HCX⟩ := hrel
        by_cases hk : 0 ≤ K
        · obtain ⟨k, rfl⟩ : ∃ k : Nat, K = k := ⟨K.toNat, by omega⟩
          have hki : k + 1 < i := by omega
          obtain ⟨xd, hxd, sxd⟩ := HD.out k (by omega)
          obtain ⟨xc, hxc, sxc⟩ := HC.out k (by omega)
          obtain ⟨xx, hxx, sxx⟩ := HCX.out (k + 1) (by omega) (by omega)
          obtain ⟨v0, hv0⟩ := getD_lt (xs := cx) (i := k) (by omega)
          have g1 : decide ((k : Int) ≥ 0) = true := decide_eq_true (by omega)
          have g2 : decide ((0 : Int) ≤ (k : Int)) = true := decide_eq_true (by omega)
          have q1 : ∀ (W : World), 0 ≤ 0 := fun _ => Nat.le_refl _
          have l1 := hod.cell k
          rw [hxd] at l1
          have l2 := hoc.cell k
          rw [hxc] at l2
          have l3 := hox.cell (k + 1)
          rw [hxx] at l3
          have l4 := hox.cell k
          rw [hv0] at l4
          have l5 := hox.frozen k
          have SD : Hid (Same .f32 xd (sw (nth ys) (nth zs) s k).2) := Lib.hid sxd
          have SC : Hid (Same .f32 xc (sw (nth ys) (nth zs) s k).1) := Lib.hid sxc
          have SXX := Lib.hid sxx
          have HBB := Lib.hid hb
          have HOC := Lib.hid hoc
          have HOD := Lib.hid hod
          have HX := Lib.hid (And.intro hox hsx)
          have hM := fun x y w => run_afv Try.prog .mul rfl 27 .f32 x y w
          have hA := fun x y w => run_afv Try.prog .add rfl 27 .f32 x y w
          clear hb hoc hod hox hsx hxd hxc hxx hv0 sxd sxc sxx q1
          go_wp2
          all_goals (try go_region)
          all_goals
            go_wp2
            go_roundw
            case rel =>
              refine ⟨(k : Int) - 1, rfl, by omega, by omega, (below_drewN HBB.out _).setCell HNE.out.2.2 _, (HOC.out.drewN _).other HNE.out.1 _, (HOD.out.drewN _).other HNE.out.2.1 _, _, (HX.out.1.drewN _).set _ _, by simp [HX.out.2], Lib.hid ?_⟩
              rw [show ((k : Int) - 1 + 1).toNat = k by omega]
              have HC2 : CellsFrom cx (k + 1) i (xV (nth ys) (nth zs) s i) := by
                have := HCX.out
                rwa [show ((k : Int) + 1).toNat = k + 1 by omega] at this
              refine HC2.cons (by rw [HX.out.2]; omega) ?_
              rw [xV_step _ _ _ _ _ hki]
              exact step_x (cn_afv .add rfl .f32 _ _ _) (cn_afv .mul rfl .f32 _ _ _) SD.out SC.out SXX.out
            case measure => first | (simp [intOf]; done) | (simp [intOf]; omega)
        · have hK : K = -1 := by omega
          subst hK
          have HBB := Lib.hid hb
          have HX := Lib.hid (And.intro hox hsx)
          clear hb hoc hod hox hsx
          go_wp2
          go_ret
          exact ⟨_, rfl, HNE.out.2.2, cx, HX.out.1, HX.out.2, fun j hj => HCX.out j (by omega) hj, HBB.out⟩
end Go.Proofs.Ytcnamhmoocdccaa
