/- SolveRow: the law, walked. Under no condition. -/
import Derived.Test.YtcnamhmoocdccaaQh
namespace Go.Proofs.Ytcnamhmoocdccaa
open Go Go.RowKit
set_option linter.unusedVariables false
set_option linter.unusedSimpArgs false

theorem rowOut_len (ys : List Nat) (s : Nat) (rd : Bool) : (rowOut ys s rd).1.length ≤ 64 := by
  unfold rowOut
  cases h : longOk ys.length rd && mass s && rowFin (nth ys) s ys.length rd with
  | false => exact Nat.zero_le _
  | true =>
    have h1 : longOk ys.length rd = true := by cases hx : longOk ys.length rd with | true => rfl | false => rw [hx] at h; cases h
    have := longOk_two h1
    show (rowL (nth ys) s ys.length rd).length ≤ 64
    rw [rowL_length]
    omega
theorem row_held {w : World} {base : Nat} {l : List Nat} {A : Option Addr} {c n : Nat} (h : FOwn w base (.slice A n c) l) : n = l.length ∧ Holds w A l.length (fvals .f32 l) := by
  obtain ⟨a, cap, e, h3⟩ := h.value
  injection e with e1 e2 e3
  subst e1
  exact ⟨e2, h3⟩
theorem row_copy (xs : List Nat) (a : Option Addr) (c : Nat) (w : World) (hs : Holds w a xs.length (fvals .f32 xs)) (hl : xs.length ≤ 1048576) :
    Calls Try.prog 33 #[.slice a xs.length c] w fun e w' => (∃ A', e = .returned (.slice A' xs.length xs.length) ∧ FOwn w' w.heap.size (.slice A' xs.length xs.length) xs) ∧ Below w.heap.size w w' := by
  refine (laws_toFloat32S a xs.length c xs w hs hl).mono ?_
  rintro e w' ⟨rfl, hb, cur, ho, hz, hc⟩
  exact ⟨⟨_, rfl, FOwn.of_own (Nat.le_refl _) ho (Nat.le_refl _) (by unfold maxLen; omega) hz hc⟩, hb⟩
theorem row_equal (xs : List Nat) (a b : Option Addr) (c d : Nat) (w : World) (hs : Holds w a xs.length (fvals .f32 xs)) (hs2 : Holds w b xs.length (fvals .f32 xs)) (hl : xs.length ≤ 1048576) :
    Calls Try.prog 34 #[.slice a xs.length c, .slice b xs.length d] w fun e w' => e = .returned (.bool true) ∧ Below w.heap.size w w' := by
  refine (laws_eqFloat32S a b xs.length c d xs xs w hs hs2 hl (fun _ _ => Same.refl _ _)).mono ?_
  rintro e w' ⟨n, rfl, rfl⟩
  exact ⟨rfl, below_drewN (Below.refl _ _) n⟩
theorem row_mark (W2 w : World) (v u : Value) (xs l : List Nat) (bg : Nat) (hK : Below W2.heap.size W2 w) (hx : FOwn w W2.heap.size v xs) (hg : FOwn w bg u l) (hX : ∀ k, v.ownBlock = some k → k < bg) (hl : xs.length ≤ 1048576) :
    Calls Try.prog 35 #[v, .int .i64 1] w fun e w' => e = .returned (.int .i64 (1 + (xs.length : Int))) ∧ Below W2.heap.size W2 w' ∧ FOwn w' bg u l := by
  refine (laws_markFloat32S W2.heap.size v xs 1 w hx hl (by decide) (by decide)).mono ?_
  rintro e w' ⟨he, hgr, ho⟩
  refine ⟨he, hK.grown hgr hK.size (fun k e => (hx.lt k e).1), hg.other hgr ?_⟩
  cases e : u.ownBlock with
  | none => exact .inl rfl
  | some k => exact .inr (fun e2 => by have h1 := (hg.lt k e).1; have h2 := hX k e2.symm; omega)
theorem row_mark2 (W2 w : World) (u : Value) (l : List Nat) (bg : Nat) (hK : Below W2.heap.size W2 w) (hg : FOwn w bg u l) (hb : W2.heap.size ≤ bg) (hl : l.length ≤ 1048576) :
    Calls Try.prog 35 #[u, .int .i64 1] w fun e w' => e = .returned (.int .i64 (1 + (l.length : Int))) ∧ Below W2.heap.size W2 w' ∧ FOwn w' bg u (marks 1 l.length) := by
  refine (laws_markFloat32S bg u l 1 w hg hl (by decide) (by decide)).mono ?_
  rintro e w' ⟨he, hgr, ho⟩
  exact ⟨he, hK.grown hgr hK.size (fun k e => by have := (hg.lt k e).1; omega), ho⟩
theorem row_marked (n : Nat) (A : Option Addr) (m c base : Nat) (w : World) (h : FOwn w base (.slice A m c) (marks 1 n)) (hl : n ≤ 1048576) :
    Calls Try.prog 36 #[.slice A m c, .int .i64 1] w fun e w' => e = .returned (.int .i64 (1 + (n : Int))) ∧ w = w' := by
  obtain ⟨h1, h2⟩ := row_held h
  rw [marks_length] at h1 h2
  subst h1
  refine (laws_heldFloat32S A m c 1 w h2 hl (by decide) (by decide)).mono ?_
  rintro e w' ⟨h1, h2⟩
  exact ⟨h1, h2.symm⟩

set_option maxHeartbeats 4000000 in
set_option maxRecDepth 100000 in
theorem walk_FnExactSolveRow (a : Option Addr) (len cap : Nat) (xs : List Nat) (s : Nat) (rd : Bool) (W : World) (hr : FRow .f32 W a len cap xs) (_ : (Lit.float .f32 s).wf = true) :
    Calls Try.prog 9 #[.slice a len cap, .float .f32 s, .bool rd] W fun e W' => e = .returned (.bool true) ∧ Below W.heap.size W W' := by
  obtain ⟨hC, rfl, hcap, hmax, hwf⟩ := hr
  by_cases hl : xs.length ≤ 1048576
  · have h1 : decide ((xs.length : Int) > 1048576) = false := decide_eq_false (by omega)
    have h2 : decide (1048576 < (xs.length : Int)) = false := decide_eq_false (by omega)
    have HC := Lib.hid hC
    have HL := Lib.hid hl
    have HI : Hid (∀ (A : Option Addr) (c : Nat) (w : World), Holds w A xs.length (fvals .f32 xs) → Calls Try.prog 14 #[.slice A xs.length c, .float .f32 s, .bool rd] w fun e w' => (∃ A' c', e = .returned (.tuple #[.slice A' (rowOut xs s rd).1.length c', .bool (rowOut xs s rd).2]) ∧ FOwn w' w.heap.size (.slice A' (rowOut xs s rd).1.length c') (rowOut xs s rd).1) ∧ Below w.heap.size w w') :=
      Lib.hid fun A c w hs => impl_SolveRow A xs.length c xs s rd w hs rfl (by unfold maxLen; omega)
    have HP : Hid (∀ (A : Option Addr) (c : Nat) (w : World), Holds w A xs.length (fvals .f32 xs) → Calls Try.prog 32 #[.slice A xs.length c, .float .f32 s, .bool rd] w fun e w' => (∃ A' c', e = .returned (.tuple #[.slice A' (rowOut xs s rd).1.length c', .bool (rowOut xs s rd).2]) ∧ Holds w' A' (rowOut xs s rd).1.length (fvals .f32 (rowOut xs s rd).1)) ∧ Below w.heap.size w w') :=
      Lib.hid fun A c w hs => spec_SolveRow A xs.length c xs s rd w hs rfl (by unfold maxLen; omega)
    have hlen := rowOut_len xs s rd
    rcases hR : rowOut xs s rd with ⟨l, b⟩
    rw [hR] at hlen HI HP
    clear hR
    have HLL : Hid (l.length ≤ 1048576) := Lib.hid (by have : l.length ≤ 64 := hlen; omega)
    clear hC hl hcap hmax hwf hlen
    obtain ⟨M, hM⟩ : ∃ M : Int, M = 1 + (l.length : Int) := ⟨_, rfl⟩
    have m1 : decide (M < 0) = false := decide_eq_false (by omega)
    obtain ⟨X, hX⟩ : ∃ X : Int, X = 1 + (xs.length : Int) := ⟨_, rfl⟩
    have m2 : decide (X < 0) = false := decide_eq_false (by omega)
    have HM := Lib.hid hM
    have HX := Lib.hid hX
    clear hM hX
    have hbb : (b != b) = false := by simp
    go_enter Try.func9, Try.ntmps9
    go_wp2_with (go_at_call 33; refine (row_copy xs _ _ _ HC.out HL.out).mono ?_; rintro e w1 ⟨⟨A0, rfl, ho0⟩, hb0⟩; have HO := Lib.hid (row_held ho0).2; have HB0 := Lib.hid hb0; clear ho0 hb0; refine Hid.out ?_)
    refine Lib.hid ?_
    go_wp2_with (go_at_call 32; refine (HP.out _ _ _ HO.out).mono ?_; rintro e w2 ⟨⟨A1, c1, rfl, hr1⟩, hb1⟩; have HR1 := Lib.hid hr1; have HB := Lib.hid (keep_trans HB0.out hb1); clear HO HB0 hr1 hb1; refine Hid.out ?_)
    refine Lib.hid ?_
    clear HP
    have K := Lib.hid (Below.refl w2.heap.size w2)
    go_wp2_with (go_at_call 33; refine (row_copy xs _ _ _ (HC.out.keep HB.out) HL.out).mono ?_; rintro e w3 ⟨⟨A3, rfl, ho3⟩, hb3⟩; have HO := Lib.hid ho3; have n0 := Lib.hid (keep_trans K.out hb3); clear K ho3 hb3; have K := n0; clear n0; refine Hid.out ?_)
    refine Lib.hid ?_
    go_wp2_with (go_at_call 14; refine (HI.out _ _ _ (row_held HO.out).2).mono ?_; rintro e w4 ⟨⟨A4, c4, rfl, ho4⟩, hb4⟩; have HG := Lib.hid ho4; have HD := Lib.hid (fun k e => (HO.out.lt k e).2); have n0 := Lib.hid (keep_trans K.out hb4); have n1 := Lib.hid (HO.out.keep hb4); have HZ := Lib.hid K.out.size; clear K HO ho4 hb4; have K := n0; have HO := n1; clear n0 n1; refine Hid.out ?_)
    refine Lib.hid ?_
    go_wp2_with (go_at_call 34; refine (row_equal l _ _ _ _ _ (row_held HG.out).2 (HR1.out.keep K.out) HLL.out).mono ?_; rintro e w5 ⟨rfl, hb5⟩; have n0 := Lib.hid (keep_trans K.out hb5); have n1 := Lib.hid (HO.out.keep hb5); have n2 := Lib.hid (HG.out.keep hb5); clear K HO HG hb5; have K := n0; have HO := n1; have HG := n2; clear n0 n1 n2; refine Hid.out ?_)
    refine Lib.hid ?_
    go_wp2_with (go_at_call 33; refine (row_copy xs _ _ _ ((HC.out.keep HB.out).keep K.out) HL.out).mono ?_; rintro e w6 ⟨⟨A6, rfl, ho6⟩, hb6⟩; have HE := Lib.hid (row_held ho6).2; have n0 := Lib.hid (keep_trans K.out hb6); have n1 := Lib.hid (HO.out.keep hb6); have n2 := Lib.hid (HG.out.keep hb6); clear K HO HG ho6 hb6; have K := n0; have HO := n1; have HG := n2; clear n0 n1 n2; refine Hid.out ?_)
    refine Lib.hid ?_
    go_wp2_with (go_at_call 34; refine (row_equal xs _ _ _ _ _ (row_held HO.out).2 HE.out HL.out).mono ?_; rintro e w7 ⟨rfl, hb5⟩; have n0 := Lib.hid (keep_trans K.out hb5); have n1 := Lib.hid (HO.out.keep hb5); have n2 := Lib.hid (HG.out.keep hb5); clear K HO HG HE hb5; have K := n0; have HO := n1; have HG := n2; clear n0 n1 n2; refine Hid.out ?_)
    refine Lib.hid ?_
    go_wp2_with (go_at_call 35; refine (row_mark w2 _ _ _ xs l _ K.out HO.out HG.out HD.out HL.out).mono ?_; rintro e w8 ⟨he, hk, hg⟩; rw [← HX.out] at he; subst he; clear K HO HG; have K := Lib.hid hk; have HG := Lib.hid hg; clear hk hg; refine Hid.out ?_)
    refine Lib.hid ?_
    go_wp2_with (go_at_call 34; refine (row_equal l _ _ _ _ _ (row_held HG.out).2 (HR1.out.keep K.out) HLL.out).mono ?_; rintro e w9 ⟨rfl, hb5⟩; have n0 := Lib.hid (keep_trans K.out hb5); have n2 := Lib.hid (HG.out.keep hb5); clear K HG hb5; have K := n0; have HG := n2; clear n0 n2; refine Hid.out ?_)
    refine Lib.hid ?_
    go_wp2_with (go_at_call 35; refine (row_mark2 w2 _ _ l _ K.out HG.out HZ.out HLL.out).mono ?_; rintro e w10 ⟨he, hk, hg⟩; rw [← HM.out] at he; subst he; clear K HG; have K := Lib.hid hk; have HG := Lib.hid hg; clear hk hg; refine Hid.out ?_)
    refine Lib.hid ?_
    go_wp2_with (go_at_call 36; refine (row_marked l.length _ _ _ _ _ HG.out HLL.out).mono ?_; rintro e w11 ⟨he, rfl⟩; rw [← HM.out] at he; subst he; refine Hid.out ?_)
    refine Lib.hid ?_
    go_wp2_with (go_at_call 33; refine (row_copy xs _ _ _ ((HC.out.keep HB.out).keep K.out) HL.out).mono ?_; rintro e w12 ⟨⟨A12, rfl, ho6⟩, hb6⟩; have HO := Lib.hid (row_held ho6).2; have n0 := Lib.hid (keep_trans K.out hb6); have n2 := Lib.hid (HG.out.keep hb6); clear K HG ho6 hb6; have K := n0; have HG := n2; clear n0 n2; refine Hid.out ?_)
    refine Lib.hid ?_
    go_wp2_with (go_at_call 14; refine (HI.out _ _ _ HO.out).mono ?_; rintro e w13 ⟨⟨A13, c13, rfl, ho4⟩, hb4⟩; have HE := Lib.hid (row_held ho4).2; have n0 := Lib.hid (keep_trans K.out hb4); have n1 := Lib.hid (HG.out.keep hb4); clear K HO HG ho4 hb4; have K := n0; have HG := n1; clear n0 n1; refine Hid.out ?_)
    refine Lib.hid ?_
    go_wp2_with (go_at_call 34; refine (row_equal l _ _ _ _ _ HE.out (HR1.out.keep K.out) HLL.out).mono ?_; rintro e w14 ⟨rfl, hb5⟩; have n0 := Lib.hid (keep_trans K.out hb5); have n2 := Lib.hid (HG.out.keep hb5); clear K HG HE hb5; have K := n0; have HG := n2; clear n0 n2; refine Hid.out ?_)
    refine Lib.hid ?_
    go_wp2_with (go_at_call 36; refine (row_marked l.length _ _ _ _ _ HG.out HLL.out).mono ?_; rintro e w15 ⟨he, rfl⟩; rw [← HM.out] at he; subst he; refine Hid.out ?_)
    refine Lib.hid ?_
    go_wp2
    go_ret
    exact ⟨rfl, keep_trans HB.out K.out⟩
  · have h1 : decide ((xs.length : Int) > 1048576) = true := decide_eq_true (by omega)
    have h2 : decide (1048576 < (xs.length : Int)) = true := decide_eq_true (by omega)
    go_enter Try.func9, Try.ntmps9
    go_wp2
    go_ret
    exact ⟨rfl, Below.refl _ _⟩
end Go.Proofs.Ytcnamhmoocdccaa
