/- Lists of complex numbers: rows that a call owns, marks, comparison. Under no condition. -/
import Derived.Test.YtmfaickanmdfnaaDoorJa
import Derived.Laws.ComplexArith
namespace Go.Proofs.YtmfaickanmdfnaaDoor
open Go Go.RowKit
set_option linter.unusedVariables false
set_option linter.unusedSimpArgs false

theorem run_ftf (x : Nat) (w : World) : ∃ r n, (Conv.floatToFloat .f32 x .f64).run Tryd.prog w = .ok (.float .f64 r) (w.drewN n) ∧ Same .f64 r (fwid x) := by
  obtain ⟨r, n, h1, h2, _⟩ := run_fconv (P := Tryd.prog) 54 57 .f32 .f64 (by decide) x w (by rw [Tryd.underlying54]; rfl) Tryd.underlying57
  refine ⟨r, n, ?_, h2 (fover_wid x)⟩
  rw [← h1]
  simp [convert, run_underlying Tryd.underlying54, run_underlying Tryd.underlying57]
theorem run_cplx (a b : Nat) (w : World) : ∃ r1 r2 n, (convert 68 70 (.complex .f32 a b)).run Tryd.prog w = .ok (.complex .f64 r1 r2) (w.drewN n) ∧ Same .f64 r1 (fwid a) ∧ Same .f64 r2 (fwid b) := by
  obtain ⟨r1, n1, h1, s1⟩ := run_ftf a w
  obtain ⟨r2, n2, h2, s2⟩ := run_ftf b (w.drewN n1)
  refine ⟨r1, r2, n1 + n2, ?_, s1, s2⟩
  have e0 : (convert 68 70 (.complex .f32 a b)).run Tryd.prog w = (Conv.complexToComplex .f32 a b .f64).run Tryd.prog w := by
    simp [convert, run_underlying Tryd.underlying68, run_underlying Tryd.underlying70]
  rw [e0]
  unfold Conv.complexToComplex
  simp [h1, h2]
theorem conv_cplx (a b : Nat) : ∃ (f1 f2 g : World → Nat), (∀ w, (convert 68 70 (.complex .f32 a b)).run Tryd.prog w = .ok (.complex .f64 (f1 w) (f2 w)) (w.drewN (g w))) ∧ ∀ w, Same .f64 (f1 w) (fwid a) ∧ Same .f64 (f2 w) (fwid b) := by
  have hh : ∀ w, ∃ p : Nat × Nat × Nat, (convert 68 70 (.complex .f32 a b)).run Tryd.prog w = .ok (.complex .f64 p.1 p.2.1) (w.drewN p.2.2) ∧ Same .f64 p.1 (fwid a) ∧ Same .f64 p.2.1 (fwid b) := by
    intro w
    obtain ⟨r1, r2, n, h1, h2, h3⟩ := run_cplx a b w
    exact ⟨(r1, r2, n), h1, h2, h3⟩
  obtain ⟨f, hf⟩ := Classical.skolem.1 hh
  exact ⟨fun w => (f w).1, fun w => (f w).2.1, fun w => (f w).2.2, fun w => (hf w).1, fun w => (hf w).2⟩
theorem same_complex (a b c d : Nat) (w : World) (h1 : Same .f64 a c) (h2 : Same .f64 b d) :
    Calls Tryd.prog 54 #[.complex .f64 a b, .complex .f64 c d] w fun e w' => ∃ n, e = .returned (.bool true) ∧ w' = w.drewN n := by
  have H1 := Lib.hid h1
  have H2 := Lib.hid h2
  clear h1 h2
  go_enter Tryd.func54, Tryd.ntmps54
  go_wp2_with fail
  refine (sameFloat_true _ _ _ H1.out).mono ?_
  rintro e w' ⟨n, rfl, rfl⟩
  go_wp2_with fail
  refine (sameFloat_true _ _ _ H2.out).mono ?_
  rintro e w' ⟨n2, rfl, rfl⟩
  go_wp2
  go_ret
  exact ⟨_, rfl, rfl⟩


/-- A complex number of two 32-bit parts. -/
def encC (p : Nat × Nat) : Value := .complex .f32 p.1 p.2
def cvals (xs : List (Nat × Nat)) (i : Nat) : Value := encC (xs.getD i (0, 0))
/-- A list of complex numbers that the call owns from block 'base' on. -/
def COwn (w : World) (base : Nat) (v : Value) (vs : List (Nat × Nat)) : Prop := w.ownsRow base 68 1 v vs.length (vs.map encC)
theorem COwn.form {w : World} {base : Nat} {v : Value} {vs : List (Nat × Nat)} (h : COwn w base v vs) :
    (v = .slice none 0 0 ∧ vs = []) ∨ ∃ g cap cur, v = .slice (some ⟨g, 0, none⟩) vs.length cap ∧ base ≤ g ∧ Own w g 68 cur ∧ vs.length ≤ cap ∧ cap ≤ maxLen ∧ cur.size = cap ∧ ∀ i, i < vs.length → cur[i]? = some (cvals vs i) := by
  obtain ⟨h1, h2⟩ := h
  rcases h2 with ⟨rfl, h2⟩ | ⟨g, cap, cur, rfl, hb, ho, hn, hm, hs, ht⟩
  · exact .inl ⟨rfl, List.length_eq_zero_iff.1 h2⟩
  · refine .inr ⟨g, cap, cur, rfl, hb, ho, hn, hm, by omega, fun i hi => ?_⟩
    have : (cur.toList.take (vs.length * 1))[i]? = some (cvals vs i) := by
      rw [ht]; simp [cvals, List.getD, hi]
    rw [List.getElem?_take_of_lt (by omega)] at this
    simpa using this

theorem COwn.of_own {w : World} {base g cap : Nat} {cur : Array Value} {vs : List (Nat × Nat)} (hb : base ≤ g) (ho : Own w g 68 cur) (hn : vs.length ≤ cap) (hm : cap ≤ maxLen) (hs : cur.size = cap)
    (hc : ∀ i, i < vs.length → cur[i]? = some (cvals vs i)) : COwn w base (.slice (some ⟨g, 0, none⟩) vs.length cap) vs := by
  refine ⟨by simp, .inr ⟨g, cap, cur, rfl, hb, ho, hn, hm, by omega, ?_⟩⟩
  apply List.ext_getElem?
  intro i
  by_cases hi : i < vs.length
  · rw [List.getElem?_take_of_lt (by omega), List.getElem?_map]
    have := hc i hi
    simp [cvals, List.getD, hi] at this
    simp [hi, this]
  · rw [List.getElem?_eq_none (by simp; omega), List.getElem?_eq_none (by simp; omega)]

theorem COwn.value {w : World} {base : Nat} {v : Value} {vs : List (Nat × Nat)} (h : COwn w base v vs) : ∃ a cap, v = .slice a vs.length cap ∧ Holds w a vs.length (cvals vs) := by
  rcases h.form with ⟨rfl, rfl⟩ | ⟨g, cap, cur, rfl, hb, ho, hn, hm, hs, hc⟩
  · exact ⟨none, 0, rfl, ⟨.inl rfl⟩⟩
  · exact ⟨_, _, rfl, ho.holds hc⟩

theorem COwn.keep {w w' : World} {base : Nat} {v : Value} {vs : List (Nat × Nat)} (h : COwn w base v vs) (k : Below w.heap.size w w') : COwn w' base v vs := by
  rcases h.form with ⟨rfl, rfl⟩ | ⟨g, cap, cur, rfl, hb, ho, hn, hm, hs, hc⟩
  · exact ⟨rfl, .inl ⟨rfl, rfl⟩⟩
  · exact .of_own hb (ho.below k ho.lt) hn hm hs hc

/-- The mark of a place. -/
def cv (k : Nat) : Nat × Nat := (cConvBits .f64 (floatOfInt .f64 (k : Int)) 4607182418800017408 .f32).getD (0, 0)
theorem cv_all : ∀ k : Fin 300, cConvBits .f64 (floatOfInt .f64 (k.val : Int)) 4607182418800017408 .f32 = some (cv k.val) ∧ isN .f32 (cv k.val).1 = false ∧ isN .f32 (cv k.val).2 = false := by decide +kernel
theorem cv_ok (j : Nat) (h : j < 299) : ∃ a b : Nat, cv (1 + j) = (a, b) ∧ (FloatKind.f32.format.order a a == some .eq) = true ∧ (FloatKind.f32.format.order b b == some .eq) = true ∧ ∀ w, (convert 70 68 (.complex .f64 (floatOfInt .f64 (1 + (j : Int))) 4607182418800017408)).run Tryd.prog w = .ok (.complex .f32 a b) w := by
  obtain ⟨h1, h2, h3⟩ := cv_all ⟨1 + j, by omega⟩
  simp only at h1 h2 h3
  refine ⟨(cv (1 + j)).1, (cv (1 + j)).2, rfl, by rw [order_self', h2]; rfl, by rw [order_self', h3]; rfl, fun w => ?_⟩
  have e : (1 : Int) + (j : Int) = ((1 + j : Nat) : Int) := by omega
  rw [e]
  exact run_convert_complex w _ _ _ _ _ _ _ _ (by rw [Tryd.underlying70]; rfl) Tryd.underlying68 h1
def cmarks (n : Nat) : List (Nat × Nat) := (List.range n).map fun i => cv (1 + i)
theorem cmarks_length (n : Nat) : (cmarks n).length = n := by simp [cmarks]
theorem cmarks_get {n i : Nat} (h : i < n) : cvals (cmarks n) i = encC (cv (1 + i)) := by
  simp [cvals, cmarks, List.getD, h]
theorem laws_markComplex64S (base : Nat) (v : Value) (vs : List (Nat × Nat)) (w : World) (h : COwn w base v vs) (hn : vs.length ≤ 256) :
    Calls Tryd.prog 33 #[v, .int .i64 1] w fun e w' => e = .returned (.int .i64 (1 + (vs.length : Int))) ∧ w.grownBy w' v.ownBlock ∧ COwn w' base v (cmarks vs.length) := by
  rcases h.form with ⟨rfl, rfl⟩ | ⟨g, cap, cur, rfl, hb, ho, hcap, hm, hs, hc⟩
  · go_enter Tryd.func33, Tryd.ntmps33
    go_wp2
    go_loopw [1, 5] (fun kv i wr => kv = .int .i64 1 ∧ i = .int .i64 0 ∧ wr = w) (fun _ _ _ => 0)
    case atStart => exact ⟨rfl, rfl, rfl⟩
    case round =>
      obtain ⟨rfl, rfl, rfl⟩ := hrel
      go_wp2
      go_ret
      exact ⟨by simp, ⟨rfl, rfl, rfl, Nat.le_refl _, fun _ _ _ => rfl⟩, ⟨rfl, .inl ⟨rfl, rfl⟩⟩⟩
  · generalize hln : vs.length = n at *
    clear h hc hln vs
    have HM := Lib.hid hm
    have hm2 : cap ≤ 9223372036854775807 := by unfold maxLen at hm; omega
    clear hm
    go_enter Tryd.func33, Tryd.ntmps33
    go_wp2
    go_loopw [1, 5] (fun kv i wr => ∃ j : Nat, j ≤ n ∧ i = .int .i64 j ∧ kv = .int .i64 (1 + (j : Int)) ∧ w.grownBy wr (some g) ∧ ∃ cur', Own wr g 68 cur' ∧ cur'.size = cap ∧ ∀ p, p < j → cur'[p]? = some (encC (cv (1 + p)))) (fun _ i _ => n - (intOf i).toNat)
    case atStart => exact ⟨0, Nat.zero_le _, rfl, by simp, ⟨rfl, rfl, rfl, Nat.le_refl _, fun _ _ _ => rfl⟩, cur, ho, hs, fun p hp => absurd hp (Nat.not_lt_zero _)⟩
    case round =>
      obtain ⟨j, hj, rfl, rfl, hg, cur', ho', hs', hc'⟩ := hrel
      have HO := Lib.hid ho'
      have HG := Lib.hid hg
      have HS := Lib.hid hs'
      have HC := Lib.hid hc'
      by_cases hlt : j < n
      · obtain ⟨v0, hv0⟩ := getD_lt (xs := cur') (i := j) (by omega)
        have c1 : wr.cell? ⟨g, j, none⟩ = some v0 := by rw [ho'.cell, hv0]
        have f1 : wr.frozen? ⟨g, j, none⟩ = false := ho'.frozen j
        obtain ⟨a, b, hab, _, _, hcv⟩ := cv_ok j (by omega)
        have HAB := Lib.hid hab
        clear ho' hg hs' hc' hv0 ho hs hab
        go_wp2
        go_roundw
        case rel =>
          refine ⟨j + 1, by omega, by go_num, by go_num, ⟨HG.out.os, HG.out.tape, HG.out.output, by simpa [World.setCell] using HG.out.size, fun q hq hne => ?_⟩, _, HO.out.set _ _, by simp [HS.out], ?_⟩
          · rw [Below.heap_setCell _ _ _ _ (fun e => hne (by rw [e]))]; exact HG.out.block q hq hne
          · intro p hp
            rw [Array.getElem?_setIfInBounds]
            by_cases e : j = p
            · subst e
              have : j < cur'.size := by rw [HS.out]; omega
              simp [this, encC, HAB.out]
            · rw [if_neg e]; exact HC.out p (by omega)
        case measure => simp [intOf]; omega
      · have hj2 : j = n := by omega
        subst hj2
        clear ho' hg hs' hc' ho hs
        go_wp2
        go_ret
        refine ⟨rfl, HG.out, ?_⟩
        have := COwn.of_own (w := wr) (base := base) (vs := cmarks j) hb HO.out (by rw [cmarks_length]; exact hcap) HM.out HS.out (fun i hi => by
          rw [cmarks_length] at hi
          rw [cmarks_get hi]; exact HC.out i hi)
        rwa [cmarks_length] at this
theorem laws_heldComplex64S (a : Option Addr) (n cap : Nat) (w : World) (h : Holds w a n (cvals (cmarks n))) (hn : n ≤ 256) :
    Calls Tryd.prog 34 #[.slice a n cap, .int .i64 1] w fun e w' => e = .returned (.int .i64 (1 + (n : Int))) ∧ w' = w := by
  have H := Lib.hid h.split
  clear h
  go_enter Tryd.func34, Tryd.ntmps34
  go_wp2
  go_loopw [1, 5] (fun kv i wr => ∃ j : Nat, j ≤ n ∧ i = .int .i64 j ∧ kv = .int .i64 (1 + (j : Int)) ∧ wr = w) (fun _ i _ => n - (intOf i).toNat)
  case atStart => exact ⟨0, Nat.zero_le _, rfl, by simp, rfl⟩
  case round =>
    obtain ⟨j, hj, rfl, rfl, rfl⟩ := hrel
    by_cases hlt : j < n
    · rcases H.out with h0 | ⟨b, o, rfl, hb, hc⟩
      · omega
      obtain ⟨x, y, hab, o1, o2, hcv⟩ := cv_ok j (by omega)
      have h1 : wr.cell? ⟨b, o + j, none⟩ = some (.complex .f32 x y) := by rw [hc j hlt, cmarks_get hlt, hab]; rfl
      clear H hc hab
      go_wp2
      go_roundw
      case rel => exact ⟨j + 1, by omega, by go_num, by go_num, trivial⟩
      case measure => simp [intOf]; omega
    · have hj2 : j = n := by omega
      subst hj2
      go_wp2
      go_ret
      exact ⟨rfl, rfl⟩
set_option maxHeartbeats 4000000 in
theorem laws_eqComplex64S (a b : Option Addr) (len cap cap' : Nat) (xs : List (Nat × Nat)) (w : World) (hx : Holds w a len (cvals xs)) (hy : Holds w b len (cvals xs)) (hl : len ≤ 1048576) :
    Calls Tryd.prog 32 #[.slice a len cap, .slice b len cap'] w fun e w' => ∃ n, e = .returned (.bool true) ∧ w' = w.drewN n := by
  have HX := Lib.hid hx.split
  have HY := Lib.hid hy.split
  clear hx hy
  go_enter Tryd.func32, Tryd.ntmps32
  go_wp2
  go_loopw [5] (fun i wr => ∃ k : Nat, k ≤ len ∧ i = .int .i64 k ∧ ∃ n, wr = w.drewN n) (fun i _ => len - (intOf i).toNat)
  case atStart => exact ⟨0, Nat.zero_le _, rfl, 0, rfl⟩
  case round =>
    obtain ⟨k, hk, rfl, n, rfl⟩ := hrel
    by_cases hlt : k < len
    · rcases HX.out with h0 | ⟨bx, ox, rfl, hbx, hcx⟩
      · omega
      rcases HY.out with h0 | ⟨bY, oY, rfl, hby, hcy⟩
      · omega
      obtain ⟨⟨x, y⟩, hxy⟩ : ∃ p : Nat × Nat, p = xs.getD k (0, 0) := ⟨_, rfl⟩
      have h1 : w.cell? ⟨bx, ox + k, none⟩ = some (.complex .f32 x y) := by rw [hcx k hlt]; unfold cvals; rw [← hxy]; rfl
      have h2 : w.cell? ⟨bY, oY + k, none⟩ = some (.complex .f32 x y) := by rw [hcy k hlt]; unfold cvals; rw [← hxy]; rfl
      clear HX HY hcx hcy hxy
      obtain ⟨f1, f2, g1, c1, s1⟩ := conv_cplx x y
      have S1 : Hid (∀ w1 w2, Same .f64 (f1 w1) (f1 w2)) := Lib.hid fun w1 w2 => (s1 w1).1.trans (s1 w2).1.symm
      have S2 : Hid (∀ w1 w2, Same .f64 (f2 w1) (f2 w2)) := Lib.hid fun w1 w2 => (s1 w1).2.trans (s1 w2).2.symm
      clear s1
      go_wp2
      go_region_with (first | (go_at_call 54; refine (same_complex _ _ _ _ _ ?_ ?_).mono ?_; (exact S1.out _ _); (exact S2.out _ _); rintro e w' ⟨n5, rfl, rfl⟩))
      all_goals
        go_wp2
        go_roundw
        case rel => exact ⟨k + 1, by omega, by go_num, _, rfl⟩
        case measure => simp [intOf]; omega
    · have hk2 : k = len := by omega
      subst hk2
      go_wp2
      go_ret
      exact ⟨_, rfl, rfl⟩
end Go.Proofs.YtmfaickanmdfnaaDoor
