/- The program's solution of a row, walked. Under no condition. -/
import Derived.Test.YtcnamhmoocdccaaQc
import Derived.Test.YtcnamhmoocdccaaDa
namespace Go.Proofs.Ytcnamhmoocdccaa
open Go Go.RowKit
set_option linter.unusedVariables false
set_option linter.unusedSimpArgs false

theorem sw_congr {L L' M M' : Nat → Nat} {s n : Nat} (hL : ∀ i, i < n → Same .f32 (L i) (L' i)) (hM : ∀ i, i < n → Same .f32 (M i) (M' i)) : ∀ i, i < n → sw L M s i = sw L' M' s i
  | 0, h => by
    simp only [sw]
    rw [(Same.refl .f32 s).div (hM 0 h), (hL 0 h).div (hM 0 h)]
  | i + 1, h => by
    have ih := sw_congr (s := s) hL hM i (by omega)
    simp only [sw]
    rw [ih, (hM (i + 1) h).sub (Same.refl .f32 (fmul .f32 s (sw L' M' s i).1)), (hL (i + 1) h).add (Same.refl .f32 (fmul .f32 s (sw L' M' s i).2))]
theorem bk_congr {L L' M M' : Nat → Nat} {s n : Nat} (h0 : 0 < n) (hL : ∀ i, i < n → Same .f32 (L i) (L' i)) (hM : ∀ i, i < n → Same .f32 (M i) (M' i)) : ∀ j, bk L M s n j = bk L' M' s n j
  | 0 => by simp only [bk]; rw [sw_congr hL hM (n - 1) (by omega)]
  | j + 1 => by simp only [bk]; rw [sw_congr hL hM (n - 2 - j) (by omega), bk_congr h0 hL hM j]
theorem xV_congr {L L' M M' : Nat → Nat} {s n : Nat} (h0 : 0 < n) (hL : ∀ i, i < n → Same .f32 (L i) (L' i)) (hM : ∀ i, i < n → Same .f32 (M i) (M' i)) (i : Nat) : xV L M s n i = xV L' M' s n i := bk_congr h0 hL hM _

/-- Middle factors, as appended and then set at both ends. -/
theorem mid_same {vs : List Nat} {n a b c : Nat} (hn : vs.length = n) (h2 : 2 ≤ n) (h : ∀ x ∈ vs, Same .f32 x c) {A B : Nat} (ha : Same .f32 a A) (hb : Same .f32 b B) (i : Nat) (hi : i < n) :
    Same .f32 (nth ((vs.set 0 a).set (n - 1) b) i) (if i = n - 1 then B else if i = 0 then A else c) := by
  unfold nth
  rw [List.getD_eq_getElem?_getD]
  by_cases e : i = n - 1
  · rw [if_pos e, e, List.getElem?_set_self (by rw [List.length_set]; omega)]; exact hb
  · rw [if_neg e, List.getElem?_set_ne (by omega)]
    by_cases e0 : i = 0
    · rw [if_pos e0, e0, List.getElem?_set_self (by omega)]; exact ha
    · rw [if_neg e0, List.getElem?_set_ne (by omega), List.getElem?_eq_getElem (by omega)]
      exact h _ (List.getElem_mem _)

theorem FOwn.rows {w : World} {base g n cap : Nat} {vs : List Nat} (h : FOwn w base (.slice (some ⟨g, 0, none⟩) n cap) vs) : Holds w (some ⟨g, 0, none⟩) n (fvals .f32 vs) := by
  obtain ⟨a, c, e, h3⟩ := h.value
  injection e with e1 e2 e3
  rw [e1, e2]; exact h3
/-- Whether a row is solved at all. -/
def mass (s : Nat) : Bool := finB .f32 s && (FloatKind.f32.format.order s 0 == some .gt || FloatKind.f32.format.order s 0 == some .eq)
set_option maxRecDepth 100000 in
theorem impl_aMass (s : Nat) (w : World) : Calls Try.prog 76 #[.float .f32 s] w fun e w' => ∃ n, e = .returned (.bool (mass s)) ∧ w' = w.drewN n := by
  unfold mass
  cases hf : finB .f32 s with
  | false =>
    go_enter Try.func76, Try.ntmps76
    go_wp2_with (go_at_call 47; refine (impl_IsFinite s _).mono ?_; rintro e w' ⟨n0, rfl, rfl⟩; rw [hf])
    go_ret
    exact ⟨_, rfl, rfl⟩
  | true =>
    cases hg : (FloatKind.f32.format.order s 0 == some .gt || FloatKind.f32.format.order s 0 == some .eq) with
    | false =>
      go_enter Try.func76, Try.ntmps76
      go_wp2_with (go_at_call 47; refine (impl_IsFinite s _).mono ?_; rintro e w' ⟨n0, rfl, rfl⟩; rw [hf])
      go_ret
      exact ⟨_, rfl, rfl⟩
    | true =>
      go_enter Try.func76, Try.ntmps76
      go_wp2_with (go_at_call 47; refine (impl_IsFinite s _).mono ?_; rintro e w' ⟨n0, rfl, rfl⟩; rw [hf])
      go_ret
      exact ⟨_, rfl, rfl⟩

set_option maxHeartbeats 4000000 in
set_option maxRecDepth 100000 in
theorem impl_solved_open (a : Option Addr) (n cap : Nat) (ys : List Nat) (s : Nat) (w : World) (hs : Holds w a n (fvals .f32 ys)) (hl : ys.length = n) (h2 : 2 ≤ n) (h64 : n ≤ 64) (hm : mass s = true) :
    Calls Try.prog 44 #[.slice a n cap, .float .f32 s, .bool false] w fun e w' => ∃ B c cur, e = .returned (.tuple #[.slice (some ⟨B, 0, none⟩) n c, .bool true]) ∧ w.heap.size ≤ B ∧ Own w' B 27 cur ∧ n ≤ c ∧ (c ≤ maxLen ∧ cur.size = c) ∧ Cells cur n (rowV (nth ys) s n false) ∧ Below w.heap.size w w' := by
  have HS := Lib.hid hs
  have hi : inB (n : Int) 2 64 = true := by unfold inB; exact decide_eq_true (by omega)
  have hA := fun x y w => run_afv Try.prog .add rfl 27 .f32 x y w
  clear hs
  go_enter Try.func44, Try.ntmps44
  go_wp2_with (first | (go_at_call 75; refine (impl_within _ _ _ _).mono ?_; rw [hi]; rintro e w' ⟨rfl, rfl⟩) | (go_at_call 76; refine (impl_aMass s _).mono ?_; rw [hm]; rintro e w' ⟨n0, rfl, rfl⟩))
  have F0 : FOwn ((w.drewN n0).alloc (.cells #[] 27)) w.heap.size (.slice (some ⟨w.heap.size, 0, none⟩) 0 0) [] := FOwn.empty (w.drewN n0)
  have B0 : Below w.heap.size w ((w.drewN n0).alloc (.cells #[] 27)) := (below_drewN (Below.refl _ _) n0).alloc (Nat.le_refl _) _
  go_loopw [9, 35] (fun c9 c35 wr => ∃ (i : Nat) (vs : List Nat), i ≤ n ∧ c35 = .int .i64 (i : Int) ∧ Hid (Below w.heap.size w wr) ∧ Hid (FOwn wr w.heap.size c9 vs) ∧ Hid (vs.length = i) ∧ Hid (∀ x ∈ vs, Same .f32 x (m2 s))) (fun _ c35 _ => n - (intOf c35).toNat)
  case atStart => exact ⟨0, [], by omega, rfl, Lib.hid B0, Lib.hid F0, Lib.hid rfl, Lib.hid fun x hx => by cases hx⟩
  case round =>
    clear F0 B0
    obtain ⟨i, vs, hin, rfl, HB, HF, HN, HV⟩ := hrel
    by_cases hlt : i < n
    · have hvs : vs.length ≤ 1048576 := by have := HN.out; omega
      have HVS := Lib.hid hvs
      clear hvs
      go_wp2_with (at_builtin; refine list_one (by rfl) (.tmp 37) (.tmp 42) (by rfl) (HF.out.drewN _) _ (by rfl) (by rfl) HVS.out HB.out.size ?_; intro v3 w3 hb3 ho3; have HB3 := Lib.hid ((below_drewN HB.out _).trans hb3); have HO3 := Lib.hid ho3; clear hb3 ho3)
      go_roundw
      case rel =>
        refine ⟨i + 1, _, by omega, by go_num, HB3, HO3, Lib.hid (by rw [List.length_append, HN.out]; rfl), Lib.hid fun x hx => ?_⟩
        rcases List.mem_append.1 hx with hx | hx
        · exact HV.out x hx
        · rw [List.mem_singleton.1 hx]
          exact ⟨(cn_afv .add rfl .f32 _ _ _).trans (congrArg (cn .f32) (Same.add ⟨cn_afv .add rfl .f32 _ _ _⟩ (Same.refl .f32 s)))⟩
      case measure => simp [intOf]; omega
    · have hi2 : i = n := by omega
      subst hi2
      obtain ⟨g, cp, hv⟩ := HF.out.at_block' HN.out (by omega)
      subst hv
      obtain ⟨c1, f1, hg, _⟩ := HF.out.spot' HN.out (i := 0) (by omega)
      obtain ⟨c2, f2, _, _⟩ := HF.out.spot' HN.out (i := i - 1) (by omega)
      have HG := Lib.hid hg
      have q1 := eq_true (show (0 : Int) ≤ (i : Int) - 1 by omega)
      have q2 := eq_true (show (i : Int) - 1 < (i : Int) by omega)
      have q3 := eq_true (show 0 < i by omega)
      have q4 := eq_false (show ¬ (i - 1 = 0) by omega)
      have q5 := eq_false (show ¬ (0 = i - 1) by omega)
      have hpos : 1 ≤ i := by omega
      clear hg
      go_wp2_with fail
      refine (impl_swept a (some ⟨g, 0, none⟩) i cap cp ys _ s _ (HS.out.keep (((below_drewN HB.out _).setCell HG.out _).setCell HG.out _)) (FOwn.rows (((HF.out.drewN _).put' HN.out (by omega) _).put' (by rw [List.length_set]; exact HN.out) (by omega) _)) hl h2 h64).mono ?_
      rintro e w4 ⟨B, c, cur, rfl, hB, ho, hc, hz, hcells, hb4⟩
      have HB4 := Lib.hid (keep_trans (((below_drewN HB.out _).setCell HG.out _).setCell HG.out _) hb4)
      have hB2 : w.heap.size ≤ B := Nat.le_trans (((below_drewN HB.out _).setCell HG.out _).setCell HG.out _).size hB
      have HR : Hid (Cells cur i (rowV (nth ys) s i false)) := Lib.hid (by
        intro j hj
        obtain ⟨x, hx, sx⟩ := hcells j hj
        refine ⟨x, hx, ?_⟩
        have e : rowV (nth ys) s i false j = xV (nth ys) (midO s i) s i j := rfl
        rw [e]
        refine sx.trans ⟨congrArg (cn .f32) (xV_congr (by omega) (fun _ _ => Same.refl _ _) (fun k hk => ?_) j)⟩
        exact mid_same HN.out h2 HV.out ⟨cn_afv .add rfl .f32 _ _ _⟩ ⟨cn_afv .add rfl .f32 _ _ _⟩ k hk)
      clear hcells hb4 hB
      go_wp2
      go_ret2
      exact ⟨B, c, cur, rfl, hB2, ho, hc, hz, HR.out, HB4.out⟩
end Go.Proofs.Ytcnamhmoocdccaa
