/- slices.Clone of a row of numbers. Under no condition. -/
import Derived.Test.YtcnamhmoocdccaaMd
namespace Go.Proofs.Ytcnamhmoocdccaa
open Go Go.RowKit
set_option linter.unusedVariables false
set_option linter.unusedSimpArgs false

theorem FOwn.put {w : World} {base g cap : Nat} {vs : List Nat} (h : FOwn w base (.slice (some ⟨g, 0, none⟩) vs.length cap) vs) {i : Nat} (hi : i < vs.length) (b : Nat) :
    FOwn (w.setCell ⟨g, i, none⟩ (.float .f32 b)) base (.slice (some ⟨g, 0, none⟩) vs.length cap) (vs.set i b) := by
  rcases h.form with ⟨e, rfl⟩ | ⟨g', cap', cur, e, hb, ho, hcap, hm, hs, hc⟩
  · simp at hi
  · simp only [Value.slice.injEq, Option.some.injEq, Addr.mk.injEq, and_true, true_and] at e
    obtain ⟨rfl, rfl⟩ := e
    have k := FOwn.of_own (vs := vs.set i b) hb (ho.set i (.float .f32 b)) (by simpa using hcap) hm (by simpa using hs) (by
      intro j hj
      rw [List.length_set] at hj
      rw [Array.getElem?_setIfInBounds]
      by_cases e : i = j
      · subst e
        have : i < cur.size := by omega
        simp [this, fvals, hi]
      · rw [if_neg e, hc j hj]
        simp [fvals, List.getD, List.getElem?_set_ne e])
    rwa [List.length_set] at k
theorem FOwn.spot {w : World} {base g cap : Nat} {vs : List Nat} (h : FOwn w base (.slice (some ⟨g, 0, none⟩) vs.length cap) vs) {i : Nat} (hi : i < vs.length) :
    w.cell? ⟨g, i, none⟩ = some (.float .f32 (vs.getD i 0)) ∧ w.frozen? ⟨g, i, none⟩ = false ∧ base ≤ g ∧ g < w.heap.size := by
  rcases h.form with ⟨e, rfl⟩ | ⟨g', cap', cur, e, hb, ho, hcap, hm, hs, hc⟩
  · simp at hi
  · simp only [Value.slice.injEq, Option.some.injEq, Addr.mk.injEq, and_true, true_and] at e
    obtain ⟨rfl, rfl⟩ := e
    exact ⟨by rw [ho.cell, hc i hi]; rfl, ho.frozen i, hb, ho.lt⟩
theorem FOwn.put' {w : World} {base g cap n : Nat} {vs : List Nat} (hn : vs.length = n) (h : FOwn w base (.slice (some ⟨g, 0, none⟩) n cap) vs) {i : Nat} (hi : i < n) (b : Nat) :
    FOwn (w.setCell ⟨g, i, none⟩ (.float .f32 b)) base (.slice (some ⟨g, 0, none⟩) n cap) (vs.set i b) := by subst hn; exact h.put hi b
theorem FOwn.spot' {w : World} {base g cap n : Nat} {vs : List Nat} (hn : vs.length = n) (h : FOwn w base (.slice (some ⟨g, 0, none⟩) n cap) vs) {i : Nat} (hi : i < n) :
    w.cell? ⟨g, i, none⟩ = some (.float .f32 (vs.getD i 0)) ∧ w.frozen? ⟨g, i, none⟩ = false ∧ base ≤ g ∧ g < w.heap.size := by subst hn; exact h.spot hi
theorem FOwn.at_block' {w : World} {base n : Nat} {v : Value} {vs : List Nat} (hn : vs.length = n) (h : FOwn w base v vs) (h0 : 0 < n) : ∃ g cap, v = .slice (some ⟨g, 0, none⟩) n cap := by
  subst hn
  rcases h.form with ⟨rfl, rfl⟩ | ⟨g, cap, cur, rfl, _⟩
  · simp at h0
  · exact ⟨g, cap, rfl⟩
theorem FOwn.at_block {w : World} {base : Nat} {v : Value} {vs : List Nat} (h : FOwn w base v vs) (hn : 0 < vs.length) : ∃ g cap, v = .slice (some ⟨g, 0, none⟩) vs.length cap := by
  rcases h.form with ⟨rfl, rfl⟩ | ⟨g, cap, cur, rfl, _⟩
  · simp at hn
  · exact ⟨g, cap, rfl⟩

/-- The cells of a list that lies in memory, as what an append asks. -/
theorem holds_news {w : World} {b o : Nat} {ys : List Nat} (h : Holds w (some ⟨b, o, none⟩) ys.length (fvals .f32 ys)) :
    ∀ j u, (ys.map (Value.float .f32))[j]? = some u → w.cell? ((⟨b, o, none⟩ : Addr).add j) = some u := by
  intro j u hu
  have hadd : (⟨b, o, none⟩ : Addr).add j = ⟨b, o + j, none⟩ := by unfold Addr.add; split <;> simp_all
  rw [hadd]
  by_cases hj : j < ys.length
  · rcases h.split with h0 | ⟨b', o', e, hb, hc⟩
    · omega
    simp only [Option.some.injEq, Addr.mk.injEq, and_true] at e
    obtain ⟨rfl, rfl⟩ := e
    rw [hc j hj]
    simpa [fvals, hj] using hu
  · rw [List.getElem?_eq_none (by simp; omega)] at hu
    cases hu

theorem list_pushes {w : World} {ops : Array Oper} {rest : List Oper} {o : Oper} {a : Act} {Q : Exit → Act → World → Prop} (hgd : o.guard = none) (s x : Operand)
    (ho : o.op = .call { callee := .builtin .append, args := #[s, x], argTypes := #[25, 25] })
    {base : Nat} {v : Value} {vs ys : List Nat} {b oo c m : Nat} (F : FOwn w base v vs) (hs : a.eval s = v) (hx : a.eval x = .slice (some ⟨b, oo, none⟩) m c) (hm : ys.length = m) (hm0 : 0 < m)
    (hy : Holds w (some ⟨b, oo, none⟩) m (fvals .f32 ys)) (hn : vs.length ≤ 1048576) (hn2 : m ≤ 1048576) (hbase : base ≤ w.heap.size)
    (h : ∀ g cap w', w.grownBy w' v.ownBlock → FOwn w' base (.slice (some ⟨g, 0, none⟩) (vs.length + m) cap) (vs ++ ys) → (v.ownBlock = some g ∨ g = w.heap.size) → g < w'.heap.size →
      wpList Try.prog ops Q rest (a.put o.dst (.slice (some ⟨g, 0, none⟩) (vs.length + m) cap)) w') :
    wpList Try.prog ops Q (o :: rest) a w := by
  subst hm
  obtain ⟨i0, hi0, hz0, hz1, hz2⟩ := info_parts infof32
  refine wpList_append_lies (P := Try.prog) w hgd s x 25 ho base 27 i0 (.float .f32 0) 1 4 Try.underlying25 hi0 hz0 hz1 hz2 rfl (by omega) v vs.length _ hs F
    ⟨b, oo, none⟩ ys.length c (ys.map (Value.float .f32)) hx (by simp) (holds_news hy) (by simp [Value.oneCell']) hm0 (by unfold maxLen; omega) (by omega) hbase _ rfl ?_
  intro g cap w' hown hgrow hat hlt
  exact h g cap w' hgrow (by simpa [FOwn] using hown) hat hlt

set_option maxRecDepth 100000 in
/-- slices.Clone of a list that is not empty. -/
theorem slices_Clone (b oo len cap : Nat) (ys : List Nat) (w : World) (hy : Holds w (some ⟨b, oo, none⟩) len (fvals .f32 ys)) (hl : ys.length = len) (h0 : 0 < len) (hm : len ≤ 1048576) :
    Calls Try.prog 99 #[.slice (some ⟨b, oo, none⟩) len cap] w fun e w' => ∃ g c, e = .returned (.slice (some ⟨g, 0, none⟩) len c) ∧ Below w.heap.size w w' ∧ FOwn w' w.heap.size (.slice (some ⟨g, 0, none⟩) len c) ys := by
  have F := Lib.hid (FOwn.empty w)
  have K := keep_own w (.cells #[] 27)
  have H := Lib.hid (hy.keep K)
  have KK := Lib.hid K
  clear hy K
  have he : ∀ w : World, (binOp .eql 25 (.slice (some ⟨b, oo, none⟩) len cap) (.slice none 0 0)).run Try.prog w = .ok (.bool false) w := fun _ => rfl
  go_enter Try.func99, Try.ntmps99
  go_wp2_with (at_builtin; refine list_pushes (by rfl) (.tmp 5) (.tmp 6) (by rfl) F.out (by rfl) (by rfl) hl h0 H.out (by simp) hm (by simp) ?_; intro g cp w3 g3 o3 at3 lt3)
  go_ret
  refine ⟨g, cp, by simp, ?_, by simpa using o3⟩
  have hg := g3
  exact below_of_grown (grown_trans (grown_of_below KK.out) hg (fun k e => by simp [Value.ownBlock] at e; omega))

/-- A number appended. -/
theorem list_one {w : World} {ops : Array Oper} {rest : List Oper} {o : Oper} {a : Act} {Q : Exit → Act → World → Prop} (hgd : o.guard = none) (s x : Operand)
    (ho : o.op = .call { callee := .builtin .append, args := #[s, x], argTypes := #[25, 25] })
    {base : Nat} {v : Value} {vs : List Nat} (F : FOwn w base v vs) (b : Nat) (hs : a.eval s = v) (hx : a.eval x = .slice (some ⟨w.heap.size, 0, none⟩) 1 1) (hn : vs.length ≤ 1048576) (hbase : base ≤ w.heap.size)
    (h : ∀ v' w', Below base w w' → FOwn w' base v' (vs ++ [b]) → wpList Try.prog ops Q rest (a.put o.dst v') w') :
    wpList Try.prog ops Q (o :: rest) a (w.alloc (.cells #[.float .f32 b] 27)) := by
  have hb : Below w.heap.size w (w.alloc (.cells #[.float .f32 b] 27)) := keep_own w _
  have H : Holds (w.alloc (.cells #[.float .f32 b] 27)) (some ⟨w.heap.size, 0, none⟩) 1 (fvals .f32 [b]) := (Own.alloc w 27 #[.float .f32 b]).holds (fun i hi => by
    have : i = 0 := by omega
    subst this; rfl)
  refine list_pushes hgd s x ho (F.keep hb) hs hx (ys := [b]) rfl (by decide) H hn (by decide) (by rw [size_alloc']; omega) ?_
  intro g cap w' hg o' hat hlt
  refine h _ w' ?_ o'
  have hB : Below base w (w.alloc (.cells #[.float .f32 b] 27)) := hb.mono hbase
  exact hB.grown hg (by rw [size_alloc']; omega) (fun k e => (F.lt k e).1)
end Go.Proofs.Ytcnamhmoocdccaa
