/- Contracts of marking a field's list and of asking for the marks. Under no condition. -/
import Derived.Test.YtcnamhmoocdccaaFe
import Derived.Deep.AppendLies
namespace Go.Proofs.Ytcnamhmoocdccaa
open Go Go.RowKit
set_option linter.unusedVariables false
set_option linter.unusedSimpArgs false

/-- A list of 32-bit numbers that the call owns from block 'base' on. -/
def FOwn (w : World) (base : Nat) (v : Value) (vs : List Nat) : Prop := w.ownsRow base 27 1 v vs.length (vs.map (Value.float .f32))

theorem FOwn.form {w : World} {base : Nat} {v : Value} {vs : List Nat} (h : FOwn w base v vs) :
    (v = .slice none 0 0 ∧ vs = []) ∨ ∃ g cap cur, v = .slice (some ⟨g, 0, none⟩) vs.length cap ∧ base ≤ g ∧ Own w g 27 cur ∧ vs.length ≤ cap ∧ cap ≤ maxLen ∧ cur.size = cap ∧ ∀ i, i < vs.length → cur[i]? = some (fvals .f32 vs i) := by
  obtain ⟨h1, h2⟩ := h
  rcases h2 with ⟨rfl, h2⟩ | ⟨g, cap, cur, rfl, hb, ho, hn, hm, hs, ht⟩
  · exact .inl ⟨rfl, List.length_eq_zero_iff.1 h2⟩
  · refine .inr ⟨g, cap, cur, rfl, hb, ho, hn, hm, by omega, fun i hi => ?_⟩
    have : (cur.toList.take (vs.length * 1))[i]? = some (fvals .f32 vs i) := by
      rw [ht]; simp [fvals, List.getD, hi]
    rw [List.getElem?_take_of_lt (by omega)] at this
    simpa using this

theorem FOwn.of_own {w : World} {base g cap : Nat} {cur : Array Value} {vs : List Nat} (hb : base ≤ g) (ho : Own w g 27 cur) (hn : vs.length ≤ cap) (hm : cap ≤ maxLen) (hs : cur.size = cap)
    (hc : ∀ i, i < vs.length → cur[i]? = some (fvals .f32 vs i)) : FOwn w base (.slice (some ⟨g, 0, none⟩) vs.length cap) vs := by
  refine ⟨by simp, .inr ⟨g, cap, cur, rfl, hb, ho, hn, hm, by omega, ?_⟩⟩
  apply List.ext_getElem?
  intro i
  by_cases hi : i < vs.length
  · rw [List.getElem?_take_of_lt (by omega), List.getElem?_map]
    have := hc i hi
    simp [fvals, List.getD, hi] at this
    simp [hi, this]
  · rw [List.getElem?_eq_none (by simp; omega), List.getElem?_eq_none (by simp; omega)]

theorem FOwn.value {w : World} {base : Nat} {v : Value} {vs : List Nat} (h : FOwn w base v vs) : ∃ a cap, v = .slice a vs.length cap ∧ Holds w a vs.length (fvals .f32 vs) := by
  rcases h.form with ⟨rfl, rfl⟩ | ⟨g, cap, cur, rfl, hb, ho, hn, hm, hs, hc⟩
  · exact ⟨none, 0, rfl, ⟨.inl rfl⟩⟩
  · exact ⟨_, _, rfl, ho.holds hc⟩

theorem FOwn.keep {w w' : World} {base : Nat} {v : Value} {vs : List Nat} (h : FOwn w base v vs) (k : Below w.heap.size w w') : FOwn w' base v vs := by
  rcases h.form with ⟨rfl, rfl⟩ | ⟨g, cap, cur, rfl, hb, ho, hn, hm, hs, hc⟩
  · exact ⟨rfl, .inl ⟨rfl, rfl⟩⟩
  · exact .of_own hb (ho.below k ho.lt) hn hm hs hc
theorem FOwn.drewN {w : World} {base : Nat} {v : Value} {vs : List Nat} (h : FOwn w base v vs) (n : Nat) : FOwn (w.drewN n) base v vs := h
theorem FOwn.base {w : World} {base base' : Nat} {v : Value} {vs : List Nat} (h : FOwn w base v vs) (g : base' ≤ base) : FOwn w base' v vs := by
  rcases h.form with ⟨rfl, rfl⟩ | ⟨g', cap, cur, rfl, hb, ho, hn, hm, hs, hc⟩
  · exact ⟨rfl, .inl ⟨rfl, rfl⟩⟩
  · exact .of_own (by omega) ho hn hm hs hc
theorem FOwn.other {w w' : World} {base : Nat} {v : Value} {vs : List Nat} {row : Option Nat} (h : FOwn w base v vs) (k : w.grownBy w' row) (hne : v.ownBlock = none ∨ v.ownBlock ≠ row) : FOwn w' base v vs :=
  World.ownsRow.kept h k hne

/-- The marks from k on. -/
def marks (k : Int) (n : Nat) : List Nat := (List.range n).map fun i => floatOfInt .f32 (k + (i : Nat))
theorem marks_length (k : Int) (n : Nat) : (marks k n).length = n := by simp [marks]
theorem marks_get (k : Int) {n i : Nat} (h : i < n) : fvals .f32 (marks k n) i = .float .f32 (floatOfInt .f32 (k + (i : Nat))) := by
  simp [fvals, marks, List.getD, h]

theorem int_num (k : FloatKind) (n : Int) : isN k (floatOfInt k n) = false := by
  obtain ⟨R, h0, h1, _, _⟩ := nearest_rung k.format (decide (n < 0)) n.natAbs 0
  have hM := k.format.infRung_lt
  have e : floatOfInt k n = k.format.word (decide (n < 0)) R := h0
  rw [e, isN_eq, rung_word _ _ _ (by omega)]
  simp only [decide_eq_false_iff_not]
  omega

/-- What marking leaves. -/
def MarkOut (base : Nat) (v : Value) (n : Nat) (k : Int) (w : World) (e : Ending) (w' : World) : Prop :=
  e = .returned (.int .i64 (k + n)) ∧ w.grownBy w' v.ownBlock ∧ FOwn w' base v (marks k n)

theorem keep_own (w : World) (o : Obj) : Below w.heap.size w (w.alloc o) := (Below.refl w.heap.size w).alloc (Nat.le_refl _) o
theorem grown_box {w w' : World} {o : Obj} {row : Option Nat} (h : (w.alloc o).grownBy w' row) : w.grownBy w' row := by
  refine ⟨h.os, h.tape, h.output, Nat.le_trans (by simp) h.size, fun b hb hne => ?_⟩
  rw [h.block b (by simp; omega) hne]
  exact Below.heap_alloc _ _ _ hb

theorem laws_markFloat32S (base : Nat) (v : Value) (vs : List Nat) (k : Int) (w : World) (h : FOwn w base v vs) (hn : vs.length ≤ 1048576) (h0 : 0 ≤ k) (h1 : k ≤ 1048576) :
    Calls Try.prog 35 #[v, .int .i64 k] w (MarkOut base v vs.length k w) := by
  rcases h.form with ⟨rfl, rfl⟩ | ⟨g, cap, cur, rfl, hb, ho, hcap, hm, hs, hc⟩
  · go_enter Try.func35, Try.ntmps35
    go_wp2
    go_loopw [1, 5] (fun kv i wr => kv = .int .i64 k ∧ i = .int .i64 0 ∧ wr = w) (fun _ _ _ => 0)
    case atStart => exact ⟨rfl, rfl, rfl⟩
    case round =>
      obtain ⟨rfl, rfl, rfl⟩ := hrel
      go_wp2
      go_ret
      exact ⟨ret_i64 (by simp), ⟨rfl, rfl, rfl, Nat.le_refl _, fun _ _ _ => rfl⟩, ⟨rfl, .inl ⟨rfl, rfl⟩⟩⟩
  · generalize hln : vs.length = n at *
    clear h hc hln vs
    have HM := Lib.hid hm
    have hm2 : cap ≤ 9223372036854775807 := by unfold maxLen at hm; omega
    clear hm
    go_enter Try.func35, Try.ntmps35
    go_wp2
    go_loopw [1, 5] (fun kv i wr => ∃ j : Nat, j ≤ n ∧ i = .int .i64 j ∧ kv = .int .i64 (k + j) ∧ w.grownBy wr (some g) ∧ ∃ cur', Own wr g 27 cur' ∧ cur'.size = cap ∧ ∀ p, p < j → cur'[p]? = some (.float .f32 (floatOfInt .f32 (k + (p : Nat))))) (fun _ i _ => n - (intOf i).toNat)
    case atStart => exact ⟨0, Nat.zero_le _, rfl, by simp, ⟨rfl, rfl, rfl, Nat.le_refl _, fun _ _ _ => rfl⟩, cur, ho, hs, fun p hp => absurd hp (Nat.not_lt_zero _)⟩
    case round =>
      obtain ⟨j, hj, rfl, rfl, hg, cur', ho', hs', hc'⟩ := hrel
      have HO := Lib.hid ho'
      have HG := Lib.hid hg
      have HS := Lib.hid hs'
      have HC := Lib.hid hc'
      by_cases hlt : j < n
      · obtain ⟨v0, hv0⟩ := getD_lt (xs := cur') (i := j) (by omega)
        have c1 : wr.cell? ⟨g, j, none⟩ = some v0 := by rw [ho'.cell, hv0]
        have f1 : wr.frozen? ⟨g, j, none⟩ = false := ho'.frozen j
        clear ho' hg hs' hc' hv0 ho hs
        go_wp2
        go_roundw
        case rel =>
          refine ⟨j + 1, by omega, by go_num, by go_num, ⟨HG.out.os, HG.out.tape, HG.out.output, by simpa [World.setCell] using HG.out.size, fun q hq hne => ?_⟩, _, HO.out.set _ _, by simp [HS.out], ?_⟩
          · rw [Below.heap_setCell _ _ _ _ (fun e => hne (by rw [e]))]; exact HG.out.block q hq hne
          · intro p hp
            rw [Array.getElem?_setIfInBounds]
            by_cases e : j = p
            · subst e
              have : j < cur'.size := by rw [HS.out]; omega
              simp [this]
            · rw [if_neg e]; exact HC.out p (by omega)
        case measure => simp [intOf]; omega
      · have hj2 : j = n := by omega
        subst hj2
        clear ho' hg hs' hc' ho hs
        go_wp2
        go_ret
        refine ⟨rfl, HG.out, ?_⟩
        have := FOwn.of_own (w := wr) (base := base) (vs := marks k j) hb HO.out (by rw [marks_length]; exact hcap) HM.out HS.out (fun i hi => by
          rw [marks_length] at hi
          rw [marks_get k hi]; exact HC.out i hi)
        rwa [marks_length] at this

theorem laws_heldFloat32S (a : Option Addr) (n cap : Nat) (k : Int) (w : World) (h : Holds w a n (fvals .f32 (marks k n))) (hn : n ≤ 1048576) (h0 : 0 ≤ k) (h1 : k ≤ 1048576) :
    Calls Try.prog 36 #[.slice a n cap, .int .i64 k] w fun e w' => e = .returned (.int .i64 (k + n)) ∧ w' = w := by
  have H := Lib.hid h.split
  clear h
  go_enter Try.func36, Try.ntmps36
  go_wp2
  go_loopw [1, 5] (fun kv i wr => ∃ j : Nat, j ≤ n ∧ i = .int .i64 j ∧ kv = .int .i64 (k + j) ∧ wr = w) (fun _ i _ => n - (intOf i).toNat)
  case atStart => exact ⟨0, Nat.zero_le _, rfl, by simp, rfl⟩
  case round =>
    obtain ⟨j, hj, rfl, rfl, rfl⟩ := hrel
    by_cases hlt : j < n
    · rcases H.out with h0 | ⟨b, o, rfl, hb, hc⟩
      · omega
      have c1 : wr.cell? ⟨b, o + j, none⟩ = some (.float .f32 (floatOfInt .f32 (k + (j : Nat)))) := (hc j hlt).trans (by rw [marks_get k hlt])
      have e1 : (FloatKind.f32.format.order (floatOfInt .f32 (k + (j : Nat))) (floatOfInt .f32 (k + (j : Nat))) != some .eq) = false := (order_self .f32 _).trans (int_num _ _)
      clear hc H
      go_wp2
      go_roundw
      case rel => exact ⟨j + 1, by omega, by go_num, by go_num, trivial⟩
      case measure => simp [intOf]; omega
    · have hj2 : j = n := by omega
      subst hj2
      clear H
      go_wp2
      go_ret
      exact ⟨rfl, rfl⟩

theorem laws_markField (x y : Int) (r : Bool) (base : Nat) (v : Value) (vs : List Nat) (k : Int) (w : World) (h : FOwn w base v vs) (hn : vs.length ≤ 1048576) (h0 : 0 ≤ k) (h1 : k ≤ 1048576) (hb : base ≤ w.heap.size) :
    Calls Try.prog 30 #[.agg #[.int .i64 x, .int .i64 y, .bool r, v], .int .i64 k] w (MarkOut base v vs.length k w) := by
  have K := keep_own w (.cells #[.int .i64 x, .int .i64 y, .bool r, v] 46)
  have H := h.keep K
  obtain ⟨a, cap, rfl, _⟩ := h.value
  go_enter Try.func30, Try.ntmps30
  go_wp2_with fail
  refine (laws_markFloat32S base _ vs k _ H hn h0 h1).mono ?_
  rintro e w1 ⟨rfl, g, o⟩
  go_wp2
  go_ret
  exact ⟨rfl, grown_box g, o⟩

theorem laws_heldField (x y : Int) (r : Bool) (a : Option Addr) (n cap : Nat) (k : Int) (w : World) (h : Holds w a n (fvals .f32 (marks k n))) (hn : n ≤ 1048576) (h0 : 0 ≤ k) (h1 : k ≤ 1048576) :
    Calls Try.prog 31 #[.agg #[.int .i64 x, .int .i64 y, .bool r, .slice a n cap], .int .i64 k] w fun e w' => e = .returned (.int .i64 (k + n)) ∧ Below w.heap.size w w' := by
  have K := keep_own w (.cells #[.int .i64 x, .int .i64 y, .bool r, .slice a n cap] 46)
  have H := h.keep K
  clear h
  go_enter Try.func31, Try.ntmps31
  go_wp2_with fail
  refine (laws_heldFloat32S a n cap k _ H hn h0 h1).mono ?_
  rintro e w1 ⟨rfl, rfl⟩
  go_wp2
  go_ret
  exact ⟨rfl, K⟩

end Go.Proofs.Ytcnamhmoocdccaa
