/- SolveRow of the program, walked: what is refused, and what is handed back. Under no condition. -/
import Derived.Test.YtcnamhmoocdccaaQe
namespace Go.Proofs.Ytcnamhmoocdccaa
open Go Go.RowKit
set_option linter.unusedVariables false
set_option linter.unusedSimpArgs false

/-- Whether a row's length serves. -/
def longOk (n : Nat) (rd : Bool) : Bool := decide (n ≤ 64) && (decide (3 ≤ n) || (decide (n = 2) && !rd))
theorem longOk_open {n : Nat} : longOk n false = true ↔ 2 ≤ n ∧ n ≤ 64 := by unfold longOk; simp; omega
theorem longOk_round {n : Nat} : longOk n true = true ↔ 3 ≤ n ∧ n ≤ 64 := by unfold longOk; simp; omega
theorem longOk_two {n : Nat} {rd : Bool} (h : longOk n rd = true) : 2 ≤ n ∧ n ≤ 64 := by
  cases rd with
  | true => have := longOk_round.1 h; omega
  | false => exact longOk_open.1 h
def rowFin (L : Nat → Nat) (s n : Nat) (rd : Bool) : Bool := decide (∀ i, i < n → finB .f32 (rowV L s n rd i) = true)
def rowL (L : Nat → Nat) (s n : Nat) (rd : Bool) : List Nat := (List.range n).map (rowV L s n rd)
theorem rowL_length (L : Nat → Nat) (s n : Nat) (rd : Bool) : (rowL L s n rd).length = n := by simp [rowL]
theorem nth_rowL (L : Nat → Nat) (s n : Nat) (rd : Bool) (i : Nat) (h : i < n) : nth (rowL L s n rd) i = rowV L s n rd i := by
  unfold nth rowL
  rw [List.getD_eq_getElem?_getD, List.getElem?_map, List.getElem?_range h]
  rfl
/-- What the law's functions answer: the numbers, and whether there are any. -/
def rowOut (ys : List Nat) (s : Nat) (rd : Bool) : List Nat × Bool :=
  if longOk ys.length rd && mass s && rowFin (nth ys) s ys.length rd then (rowL (nth ys) s ys.length rd, true) else ([], false)

theorem Cells.list {cur : Array Value} {n : Nat} {V : Nat → Nat} (h : Cells cur n V) : ∃ xs : List Nat, xs.length = n ∧ ∀ i, i < n → cur[i]? = some (fvals .f32 xs i) ∧ Same .f32 (nth xs i) (V i) := by
  induction n with
  | zero => exact ⟨[], rfl, fun i hi => absurd hi (Nat.not_lt_zero _)⟩
  | succ n ih =>
    obtain ⟨xs, hl, hx⟩ := ih (fun j hj => h j (by omega))
    obtain ⟨x, hc, sx⟩ := h n (by omega)
    have e1 : ∀ i, i < n → (xs ++ [x]).getD i 0 = xs.getD i 0 := fun i hi => by
      rw [List.getD_eq_getElem?_getD, List.getD_eq_getElem?_getD, List.getElem?_append_left (by omega)]
    have e2 : (xs ++ [x]).getD n 0 = x := by
      rw [List.getD_eq_getElem?_getD, List.getElem?_append_right (by omega), hl, Nat.sub_self]; rfl
    refine ⟨xs ++ [x], by simp [hl], fun i hi => ?_⟩
    by_cases e : i = n
    · subst e
      unfold fvals nth
      rw [e2]
      exact ⟨hc, sx⟩
    · unfold fvals nth
      rw [e1 i (by omega)]
      exact hx i (by omega)
theorem finL_all {xs : List Nat} {n : Nat} : finL xs n = true ↔ ∀ i, i < n → finB .f32 (nth xs i) = true := by
  induction n with
  | zero => exact ⟨fun _ i hi => absurd hi (Nat.not_lt_zero _), fun _ => rfl⟩
  | succ n ih =>
    unfold finL
    rw [Bool.and_eq_true, ih]
    refine ⟨fun ⟨h1, h2⟩ i hi => ?_, fun h => ⟨fun i hi => h i (by omega), h n (by omega)⟩⟩
    by_cases e : i = n
    · subst e; exact h2
    · exact h1 i (by omega)
theorem finL_row {xs : List Nat} {L : Nat → Nat} {s n : Nat} {rd : Bool} (h : ∀ i, i < n → Same .f32 (nth xs i) (rowV L s n rd i)) : finL xs n = rowFin L s n rd := by
  rw [Bool.eq_iff_iff, finL_all]
  unfold rowFin
  rw [decide_eq_true_iff]
  exact ⟨fun g i hi => by rw [← (h i hi).finB]; exact g i hi, fun g i hi => by rw [(h i hi).finB]; exact g i hi⟩
theorem row_exact {xs : List Nat} {L : Nat → Nat} {s n : Nat} {rd : Bool} (h : ∀ i, i < n → Same .f32 (nth xs i) (rowV L s n rd i)) (hf : rowFin L s n rd = true) (i : Nat) (hi : i < n) : fvals .f32 xs i = fvals .f32 (rowL L s n rd) i := by
  have e : nth xs i = nth (rowL L s n rd) i := by
    rw [nth_rowL L s n rd i hi]
    refine (h i hi).eq ?_
    have g := (decide_eq_true_iff.1 hf) i hi
    cases hn : isN .f32 (rowV L s n rd i) with
    | false => rfl
    | true => rw [nan_finB hn] at g; cases g
  exact congrArg (Value.float .f32) e
theorem rowFin_list {ys : List Nat} {s n : Nat} {rd : Bool} (h : finL ys n = false) : rowFin (nth ys) s n rd = false := by
  cases hr : rowFin (nth ys) s n rd with
  | false => rfl
  | true =>
    have g := decide_eq_true_iff.1 hr
    have : finL ys n = true := finL_all.2 fun i hi => by
      cases hf : finB .f32 (nth ys i) with
      | true => rfl
      | false => have := g i hi; rw [rowV_nf (nth ys) s n rd i hi hf] at this; cases this
    rw [this] at h; cases h

set_option maxHeartbeats 1000000 in
set_option maxRecDepth 100000 in
theorem impl_solved_no (a : Option Addr) (n cap : Nat) (s : Nat) (rd : Bool) (w : World) (hn : n ≤ maxLen) (h : (longOk n rd && mass s) = false) :
    Calls Try.prog 44 #[.slice a n cap, .float .f32 s, .bool rd] w fun e w' => ∃ k, e = .returned (.tuple #[.slice none 0 0, .bool false]) ∧ w' = w.drewN k := by
  by_cases h2 : 2 ≤ n ∧ n ≤ 64
  · have hi : inB (n : Int) 2 64 = true := by unfold inB; exact decide_eq_true (by omega)
    cases rd with
    | true =>
      by_cases h3 : n < 3
      · have g1 : decide ((n : Int) < 3) = true := decide_eq_true (by omega)
        clear h h2 h3 hn
        go_enter Try.func44, Try.ntmps44
        go_wp2_with (first | (go_at_call 75; refine (impl_within _ _ _ _).mono ?_; rw [hi]; rintro e w' ⟨rfl, rfl⟩) | (go_at_call 76; refine (impl_aMass s _).mono ?_; rw [hm]; rintro e w' ⟨n0, rfl, rfl⟩))
        go_ret2
        exact ⟨0, rfl, rfl⟩
      · have g1 : decide ((n : Int) < 3) = false := decide_eq_false (by omega)
        have hm : mass s = false := by
          rw [longOk_round.2 (by omega)] at h; exact h
        clear h h2 h3 hn
        go_enter Try.func44, Try.ntmps44
        go_wp2_with (first | (go_at_call 75; refine (impl_within _ _ _ _).mono ?_; rw [hi]; rintro e w' ⟨rfl, rfl⟩) | (go_at_call 76; refine (impl_aMass s _).mono ?_; rw [hm]; rintro e w' ⟨n0, rfl, rfl⟩))
        go_ret2
        exact ⟨_, rfl, rfl⟩
    | false =>
      have hm : mass s = false := by
        rw [longOk_open.2 (by omega)] at h; exact h
      clear h h2 hn
      go_enter Try.func44, Try.ntmps44
      go_wp2_with (first | (go_at_call 75; refine (impl_within _ _ _ _).mono ?_; rw [hi]; rintro e w' ⟨rfl, rfl⟩) | (go_at_call 76; refine (impl_aMass s _).mono ?_; rw [hm]; rintro e w' ⟨n0, rfl, rfl⟩))
      go_ret2
      exact ⟨_, rfl, rfl⟩
  · have hi : inB (n : Int) 2 64 = false := by unfold inB; exact decide_eq_false (by omega)
    clear h h2 hn
    go_enter Try.func44, Try.ntmps44
    go_wp2_with (first | (go_at_call 75; refine (impl_within _ _ _ _).mono ?_; rw [hi]; rintro e w' ⟨rfl, rfl⟩) | (go_at_call 76; refine (impl_aMass s _).mono ?_; rw [hm]; rintro e w' ⟨n0, rfl, rfl⟩))
    go_ret2
    exact ⟨0, rfl, rfl⟩

/-- What the walk of a solving function is told: the told list lies in the call's own memory. -/
def RowOut (ys : List Nat) (s : Nat) (rd : Bool) (w : World) (e : Ending) (w' : World) : Prop :=
  (∃ A c, e = .returned (.tuple #[.slice A (rowOut ys s rd).1.length c, .bool (rowOut ys s rd).2]) ∧ FOwn w' w.heap.size (.slice A (rowOut ys s rd).1.length c) (rowOut ys s rd).1) ∧ Below w.heap.size w w'
theorem RowOut.no {ys : List Nat} {s : Nat} {rd : Bool} {w w' : World} (h : (longOk ys.length rd && mass s && rowFin (nth ys) s ys.length rd) = false) (hb : Below w.heap.size w w') :
    RowOut ys s rd w (.returned (.tuple #[.slice none 0 0, .bool false])) w' := by
  have e : rowOut ys s rd = ([], false) := by unfold rowOut; rw [h]; rfl
  unfold RowOut
  rw [e]
  exact ⟨⟨none, 0, rfl, ⟨rfl, .inl ⟨rfl, rfl⟩⟩⟩, hb⟩
theorem RowOut.yes {ys : List Nat} {s : Nat} {rd : Bool} {w w' : World} {B c : Nat} {cur : Array Value} {xs : List Nat} {n : Nat} (hl : ys.length = n) (h : (longOk n rd && mass s && rowFin (nth ys) s n rd) = true) (hb : Below w.heap.size w w')
    (hB : w.heap.size ≤ B) (ho : Own w' B 27 cur) (hc : n ≤ c) (hm : c ≤ maxLen ∧ cur.size = c) (hx : ∀ i, i < n → cur[i]? = some (fvals .f32 xs i) ∧ Same .f32 (nth xs i) (rowV (nth ys) s n rd i)) :
    RowOut ys s rd w (.returned (.tuple #[.slice (some ⟨B, 0, none⟩) n c, .bool true])) w' := by
  subst hl
  have e : rowOut ys s rd = (rowL (nth ys) s ys.length rd, true) := by unfold rowOut; rw [h]; rfl
  have hf : rowFin (nth ys) s ys.length rd = true := by
    cases hr : rowFin (nth ys) s ys.length rd with
    | true => rfl
    | false => rw [hr, Bool.and_false] at h; cases h
  have hlen := rowL_length (nth ys) s ys.length rd
  unfold RowOut
  rw [e]
  simp only []
  rw [hlen]
  refine ⟨⟨_, _, rfl, ?_⟩, hb⟩
  have := FOwn.of_own (vs := rowL (nth ys) s ys.length rd) hB ho (by rw [hlen]; exact hc) hm.1 hm.2 (fun i hi => by
    rw [hlen] at hi
    rw [(hx i hi).1, row_exact (fun i hi => (hx i hi).2) hf i hi])
  rwa [hlen] at this

theorem impl_solved (a : Option Addr) (n cap : Nat) (ys : List Nat) (s : Nat) (rd : Bool) (w : World) (hs : Holds w a n (fvals .f32 ys)) (hl : ys.length = n) (hok : longOk n rd = true) (hm : mass s = true) :
    Calls Try.prog 44 #[.slice a n cap, .float .f32 s, .bool rd] w fun e w' => ∃ B c cur, e = .returned (.tuple #[.slice (some ⟨B, 0, none⟩) n c, .bool true]) ∧ w.heap.size ≤ B ∧ Own w' B 27 cur ∧ n ≤ c ∧ (c ≤ maxLen ∧ cur.size = c) ∧ Cells cur n (rowV (nth ys) s n rd) ∧ Below w.heap.size w w' := by
  cases rd with
  | true => exact impl_solved_round a n cap ys s w hs hl (longOk_round.1 hok).1 (longOk_round.1 hok).2 hm
  | false => exact impl_solved_open a n cap ys s w hs hl (longOk_open.1 hok).1 (longOk_open.1 hok).2 hm

set_option maxHeartbeats 1000000 in
set_option maxRecDepth 100000 in
theorem impl_SolveRow (a : Option Addr) (n cap : Nat) (ys : List Nat) (s : Nat) (rd : Bool) (w : World) (hs : Holds w a n (fvals .f32 ys)) (hl : ys.length = n) (hn : n ≤ maxLen) :
    Calls Try.prog 14 #[.slice a n cap, .float .f32 s, .bool rd] w fun e w' => RowOut ys s rd w e w' := by
  cases h : (longOk n rd && mass s) with
  | false =>
    have C := Lib.hid (impl_solved_no a n cap s rd w hn h)
    have HH : Hid ((longOk ys.length rd && mass s && rowFin (nth ys) s ys.length rd) = false) := Lib.hid (by rw [hl, h]; rfl)
    clear h hs hl hn
    go_enter Try.func14, Try.ntmps14
    go_wp2_with (go_at_call 44; refine C.out.mono ?_; rintro e w' ⟨k, rfl, rfl⟩)
    go_ret2
    exact RowOut.no HH.out (below_drewN (Below.refl _ _) _)
  | true =>
    have h1 : longOk n rd = true := by cases hx : longOk n rd with | true => rfl | false => rw [hx] at h; cases h
    have h2 : mass s = true := by cases hx : mass s with | true => rfl | false => rw [hx, Bool.and_false] at h; cases h
    have C := Lib.hid (impl_solved a n cap ys s rd w hs hl h1 h2)
    have HS := Lib.hid hs
    have HL := Lib.hid hl
    have H := Lib.hid h
    have HN := Lib.hid (longOk_two h1)
    clear h hs hl hn h1 h2
    cases hf : finL ys n with
    | false =>
      have HH : Hid ((longOk ys.length rd && mass s && rowFin (nth ys) s ys.length rd) = false) := Lib.hid (by rw [HL.out, rowFin_list hf, Bool.and_false])
      go_enter Try.func14, Try.ntmps14
      go_wp2_with (first | (go_at_call 44; refine C.out.mono ?_; rintro e w1 ⟨B, c, cur, rfl, hB, ho, hc, hz, hcells, hb⟩; have HB := Lib.hid hb; clear hb hB ho hc hz hcells) | (go_at_call 45; refine (impl_areFinite a n cap ys _ (HS.out.keep HB.out) (by have := HN.out; omega)).mono ?_; rw [hf]; rintro e w' ⟨k, rfl, rfl⟩))
      go_ret2
      exact RowOut.no HH.out (below_drewN HB.out _)
    | true =>
      cases hr : rowFin (nth ys) s n rd with
      | false =>
        have HR := Lib.hid hr
        have HH : Hid ((longOk ys.length rd && mass s && rowFin (nth ys) s ys.length rd) = false) := Lib.hid (by rw [HL.out, hr, Bool.and_false])
        clear hr
        go_enter Try.func14, Try.ntmps14
        go_wp2_with (go_at_call 44; refine C.out.mono ?_; rintro e w1 ⟨B, c, cur, rfl, hB, ho, hc, hz, hcells, hb⟩; have HB := Lib.hid hb; obtain ⟨xs, hxl, hx⟩ := hcells.list; have HF : Hid (finL xs n = false) := Lib.hid ((finL_row fun i hi => (hx i hi).2).trans HR.out); have HX := Lib.hid (ho.holds (fun i hi => (hx i hi).1)); clear hb hB ho hc hz hcells hx hxl; refine Hid.out ?_)
        refine Lib.hid ?_
        go_wp2_with (first | (go_at_call_of 45 (Value.slice a n cap); refine (impl_areFinite a n cap ys _ (HS.out.keep HB.out) (by have := HN.out; omega)).mono ?_; rw [hf]; rintro e w' ⟨k, rfl, rfl⟩) | (go_at_call_of 45 (Value.slice (some ⟨B, 0, none⟩) n c); refine (impl_areFinite _ n c xs _ (HX.out.drewN _) (by have := HN.out; omega)).mono ?_; rw [HF.out]; rintro e w' ⟨k2, rfl, rfl⟩))
        go_ret2
        exact RowOut.no HH.out (below_drewN HB.out _)
      | true =>
        have HR := Lib.hid hr
        have HH : Hid ((longOk n rd && mass s && rowFin (nth ys) s n rd) = true) := Lib.hid (by rw [hr, H.out]; rfl)
        clear hr
        go_enter Try.func14, Try.ntmps14
        go_wp2_with (go_at_call 44; refine C.out.mono ?_; rintro e w1 ⟨B, c, cur, rfl, hB, ho, hc, hz, hcells, hb⟩; have HB := Lib.hid hb; obtain ⟨xs, hxl, hx⟩ := hcells.list; have HF : Hid (finL xs n = true) := Lib.hid ((finL_row fun i hi => (hx i hi).2).trans HR.out); have HX := Lib.hid (ho.holds (fun i hi => (hx i hi).1)); have HA := Lib.hid (And.intro hB (And.intro ho (And.intro hc (And.intro hz hx)))); clear hb hB ho hc hz hcells hx hxl; refine Hid.out ?_)
        refine Lib.hid ?_
        go_wp2_with (first | (go_at_call_of 45 (Value.slice a n cap); refine (impl_areFinite a n cap ys _ (HS.out.keep HB.out) (by have := HN.out; omega)).mono ?_; rw [hf]; rintro e w' ⟨k, rfl, rfl⟩) | (go_at_call_of 45 (Value.slice (some ⟨B, 0, none⟩) n c); refine (impl_areFinite _ n c xs _ (HX.out.drewN _) (by have := HN.out; omega)).mono ?_; rw [HF.out]; rintro e w' ⟨k2, rfl, rfl⟩))
        go_ret2
        exact RowOut.yes HL.out HH.out (below_drewN HB.out _) HA.out.1 (HA.out.2.1.drewN _) HA.out.2.2.1 HA.out.2.2.2.1 HA.out.2.2.2.2
end Go.Proofs.Ytcnamhmoocdccaa
