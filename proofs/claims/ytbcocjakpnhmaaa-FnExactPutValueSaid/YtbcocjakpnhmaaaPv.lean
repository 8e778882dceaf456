/- A list appended whole, an element laid: the reference's l02Own, and slices.Clone. Under no condition. -/
import Derived.Test.YtbcocjakpnhmaaaMu
namespace Go.Proofs.Ytbcocjakpnhmaaa
open Go Go.RowKit
set_option linter.unusedVariables false
set_option linter.unusedSimpArgs false

theorem FOwn.put {w : World} {base g cap : Nat} {vs : List Nat} (h : FOwn w base (.slice (some ⟨g, 0, none⟩) vs.length cap) vs) {i : Nat} (hi : i < vs.length) (b : Nat) :
    FOwn (w.setCell ⟨g, i, none⟩ (.float .f32 b)) base (.slice (some ⟨g, 0, none⟩) vs.length cap) (vs.set i b) := by
  rcases h.form with ⟨e, rfl⟩ | ⟨g', cap', cur, e, hb, ho, hcap, hm, hs, hc⟩
  · simp at hi
  · simp only [Value.slice.injEq, Option.some.injEq, Addr.mk.injEq, and_true, true_and] at e
    obtain ⟨rfl, rfl⟩ := e
    have k := FOwn.of_own (vs := vs.set i b) hb (ho.set i (.float .f32 b)) (by simpa using hcap) hm (by simpa using hs) (by
      intro j hj
      rw [List.length_set] at hj
      rw [Array.getElem?_setIfInBounds]
      by_cases e : i = j
      · subst e
        have : i < cur.size := by omega
        simp [this, fvals, hi]
      · rw [if_neg e, hc j hj]
        simp [fvals, List.getD, List.getElem?_set_ne e])
    rwa [List.length_set] at k
theorem FOwn.spot {w : World} {base g cap : Nat} {vs : List Nat} (h : FOwn w base (.slice (some ⟨g, 0, none⟩) vs.length cap) vs) {i : Nat} (hi : i < vs.length) :
    w.cell? ⟨g, i, none⟩ = some (.float .f32 (vs.getD i 0)) ∧ w.frozen? ⟨g, i, none⟩ = false ∧ base ≤ g ∧ g < w.heap.size := by
  rcases h.form with ⟨e, rfl⟩ | ⟨g', cap', cur, e, hb, ho, hcap, hm, hs, hc⟩
  · simp at hi
  · simp only [Value.slice.injEq, Option.some.injEq, Addr.mk.injEq, and_true, true_and] at e
    obtain ⟨rfl, rfl⟩ := e
    exact ⟨by rw [ho.cell, hc i hi]; rfl, ho.frozen i, hb, ho.lt⟩
theorem FOwn.put' {w : World} {base g cap n : Nat} {vs : List Nat} (hn : vs.length = n) (h : FOwn w base (.slice (some ⟨g, 0, none⟩) n cap) vs) {i : Nat} (hi : i < n) (b : Nat) :
    FOwn (w.setCell ⟨g, i, none⟩ (.float .f32 b)) base (.slice (some ⟨g, 0, none⟩) n cap) (vs.set i b) := by subst hn; exact h.put hi b
theorem FOwn.spot' {w : World} {base g cap n : Nat} {vs : List Nat} (hn : vs.length = n) (h : FOwn w base (.slice (some ⟨g, 0, none⟩) n cap) vs) {i : Nat} (hi : i < n) :
    w.cell? ⟨g, i, none⟩ = some (.float .f32 (vs.getD i 0)) ∧ w.frozen? ⟨g, i, none⟩ = false ∧ base ≤ g ∧ g < w.heap.size := by subst hn; exact h.spot hi
theorem FOwn.at_block' {w : World} {base n : Nat} {v : Value} {vs : List Nat} (hn : vs.length = n) (h : FOwn w base v vs) (h0 : 0 < n) : ∃ g cap, v = .slice (some ⟨g, 0, none⟩) n cap := by
  subst hn
  rcases h.form with ⟨rfl, rfl⟩ | ⟨g, cap, cur, rfl, _⟩
  · simp at h0
  · exact ⟨g, cap, rfl⟩
theorem FOwn.at_block {w : World} {base : Nat} {v : Value} {vs : List Nat} (h : FOwn w base v vs) (hn : 0 < vs.length) : ∃ g cap, v = .slice (some ⟨g, 0, none⟩) vs.length cap := by
  rcases h.form with ⟨rfl, rfl⟩ | ⟨g, cap, cur, rfl, _⟩
  · simp at hn
  · exact ⟨g, cap, rfl⟩

/-- The cells of a list that lies in memory, as what an append asks. -/
theorem holds_news {w : World} {b o : Nat} {ys : List Nat} (h : Holds w (some ⟨b, o, none⟩) ys.length (fvals .f32 ys)) :
    ∀ j u, (ys.map (Value.float .f32))[j]? = some u → w.cell? ((⟨b, o, none⟩ : Addr).add j) = some u := by
  intro j u hu
  have hadd : (⟨b, o, none⟩ : Addr).add j = ⟨b, o + j, none⟩ := by unfold Addr.add; split <;> simp_all
  rw [hadd]
  by_cases hj : j < ys.length
  · rcases h.split with h0 | ⟨b', o', e, hb, hc⟩
    · omega
    simp only [Option.some.injEq, Addr.mk.injEq, and_true] at e
    obtain ⟨rfl, rfl⟩ := e
    rw [hc j hj]
    simpa [fvals, hj] using hu
  · rw [List.getElem?_eq_none (by simp; omega)] at hu
    cases hu

theorem list_pushes {w : World} {ops : Array Oper} {rest : List Oper} {o : Oper} {a : Act} {Q : Exit → Act → World → Prop} (hgd : o.guard = none) (s x : Operand)
    (ho : o.op = .call { callee := .builtin .append, args := #[s, x], argTypes := #[32, 32] })
    {base : Nat} {v : Value} {vs ys : List Nat} {b oo c m : Nat} (F : FOwn w base v vs) (hs : a.eval s = v) (hx : a.eval x = .slice (some ⟨b, oo, none⟩) m c) (hm : ys.length = m) (hm0 : 0 < m)
    (hy : Holds w (some ⟨b, oo, none⟩) m (fvals .f32 ys)) (hn : vs.length ≤ 1048576) (hn2 : m ≤ 1048576) (hbase : base ≤ w.heap.size)
    (h : ∀ g cap w', w.grownBy w' v.ownBlock → FOwn w' base (.slice (some ⟨g, 0, none⟩) (vs.length + m) cap) (vs ++ ys) → (v.ownBlock = some g ∨ g = w.heap.size) → g < w'.heap.size →
      wpList Try.prog ops Q rest (a.put o.dst (.slice (some ⟨g, 0, none⟩) (vs.length + m) cap)) w') :
    wpList Try.prog ops Q (o :: rest) a w := by
  subst hm
  obtain ⟨i0, hi0, hz0, hz1, hz2⟩ := info_parts infof32
  refine wpList_append_lies (P := Try.prog) w hgd s x 32 ho base 41 i0 (.float .f32 0) 1 4 Try.underlying32 hi0 hz0 hz1 hz2 rfl (by omega) v vs.length _ hs F
    ⟨b, oo, none⟩ ys.length c (ys.map (Value.float .f32)) hx (by simp) (holds_news hy) (by simp [Value.oneCell']) hm0 (by unfold maxLen; omega) (by omega) hbase _ rfl ?_
  intro g cap w' hown hgrow hat hlt
  exact h g cap w' hgrow (by simpa [FOwn] using hown) hat hlt

theorem step_pushes {w : World} {ops : Array Oper} {o : Oper} {a : Act} {K : Act → World → Prop} {Q : Exit → Act → World → Prop} {E : Prop} (hgd : o.guard = none) (s x : Operand)
    (ho : o.op = .call { callee := .builtin .append, args := #[s, x], argTypes := #[32, 32] })
    {W : World} {row : Option Nat} {R X : Nat} {x0 y0 : Int} {r : Bool} {v : Value} {vs ys : List Nat} {b oo c m : Nat} (C : Cons W row w R X x0 y0 r v vs) (hs : a.eval s = v) (hx : a.eval x = .slice (some ⟨b, oo, none⟩) m c) (hm : ys.length = m) (hm0 : 0 < m)
    (hy : Holds w (some ⟨b, oo, none⟩) m (fvals .f32 ys)) (hn : vs.length ≤ 1048576) (hn2 : m ≤ 1048576) {tot : Nat} (htot : vs.length + m = tot) {zs : List Nat} (hzs : vs ++ ys = zs)
    (h : ∀ g cap w', (∀ B i, B < W.heap.size → w'.cell? ⟨B, i, none⟩ = w.cell? ⟨B, i, none⟩) → w'.cell? ⟨X, 3, none⟩ = some v → w'.frozen? ⟨X, 3, none⟩ = false → Cons W row (w'.setCell ⟨X, 3, none⟩ (.slice (some ⟨g, 0, none⟩) tot cap)) R X x0 y0 r (.slice (some ⟨g, 0, none⟩) tot cap) zs →
      K (a.put o.dst (.slice (some ⟨g, 0, none⟩) tot cap)) w') :
    if Region.wanted o (yielded ops a.tmps) = true then Oper.wp Try.prog o a w K Q else E := by
  subst hm
  subst htot
  subst hzs
  obtain ⟨i0, hi0, hz0, hz1, hz2⟩ := info_parts infof32
  have h1 := C.fld.lt
  have h2 := C.hX
  refine step_append_lies (P := Try.prog) w hgd s x 32 ho (R + 1) 41 i0 (.float .f32 0) 1 4 Try.underlying32 hi0 hz0 hz1 hz2 rfl (by omega) v vs.length _ hs C.own
    ⟨b, oo, none⟩ ys.length c (ys.map (Value.float .f32)) hx (by simp) (holds_news hy) (by simp [Value.oneCell']) hm0 (by unfold maxLen; omega) (by omega) (by omega) _ rfl ?_
  intro g cap w' hown hgrow hat hlt
  obtain ⟨c3, f3⟩ := C.far hgrow
  refine h g cap w' (fun B i hB => hgrow.cell_far ⟨B, i, none⟩ (by have := C.hR; show B < _; omega) (fun e => by have := (C.own.lt B e.symm).1; have := C.hR; omega)) c3 f3 (C.push hgrow (by simpa [FOwn] using hown) ?_)
  rcases hat with e | e
  · exact .inl e
  · right; rw [← e]; rfl

theorem far4' {B b : Nat} (h : B ≠ b) (w : World) (i : Nat) (t0 t1 t2 t3 : Value) :
    ((((w.setCell ⟨B, 0, none⟩ t0).setCell ⟨B, 1, none⟩ t1).setCell ⟨B, 2, none⟩ t2).setCell ⟨B, 3, none⟩ t3).cell? ⟨b, i, none⟩ = w.cell? ⟨b, i, none⟩ := by
  rw [World.cell?_setCell_far _ _ _ _ (by exact h), World.cell?_setCell_far _ _ _ _ (by exact h), World.cell?_setCell_far _ _ _ _ (by exact h), World.cell?_setCell_far _ _ _ _ (by exact h)]

/-- slices.Clone of a list that is not empty. -/
theorem slices_Clone (b oo len cap : Nat) (ys : List Nat) (w : World) (hy : Holds w (some ⟨b, oo, none⟩) len (fvals .f32 ys)) (hl : ys.length = len) (h0 : 0 < len) (hm : len ≤ 1048576) :
    Calls Try.prog 77 #[.slice (some ⟨b, oo, none⟩) len cap] w fun e w' => ∃ g c, e = .returned (.slice (some ⟨g, 0, none⟩) len c) ∧ Below w.heap.size w w' ∧ FOwn w' w.heap.size (.slice (some ⟨g, 0, none⟩) len c) ys := by
  have F := Lib.hid (FOwn.empty w)
  have K := keep_own w (.cells #[] 41)
  have H := Lib.hid (hy.keep K)
  have KK := Lib.hid K
  clear hy K
  have he : ∀ w : World, (binOp .eql 32 (.slice (some ⟨b, oo, none⟩) len cap) (.slice none 0 0)).run Try.prog w = .ok (.bool false) w := fun _ => rfl
  go_enter Try.func77, Try.ntmps77
  go_wp2_with (at_builtin; refine list_pushes (by rfl) (.tmp 5) (.tmp 6) (by rfl) F.out (by rfl) (by rfl) hl h0 H.out (by simp) hm (by simp) ?_; intro g cp w3 g3 o3 at3 lt3)
  go_ret
  refine ⟨g, cp, by simp, ?_, by simpa using o3⟩
  have hg := g3
  exact below_of_grown (grown_trans (grown_of_below KK.out) hg (fun k e => by simp [Value.ownBlock] at e; omega))

theorem Going.begin2 {W w1 : World} (x y : Int) (r : Bool) (V : Nat → Nat) {v : Value}
    (K : Below (W.heap.size + 1 + 1) ((W.alloc (.cells #[.int .i64 0, .int .i64 0, .bool false, .slice none 0 0] 37)).alloc (.cells #[.int .i64 0, .int .i64 0, .bool false, .slice none 0 0] 37)) w1) (h : FOwn w1 (W.heap.size + 1 + 1) v []) :
    Going W none W.heap.size (W.heap.size + 1) x y r V 0 ((((w1.setCell ⟨W.heap.size + 1, 0, none⟩ (.int .i64 x)).setCell ⟨W.heap.size + 1, 1, none⟩ (.int .i64 y)).setCell ⟨W.heap.size + 1, 2, none⟩ (.bool r)).setCell ⟨W.heap.size + 1, 3, none⟩ v) := by
  have s1 : (W.alloc (.cells #[.int .i64 0, .int .i64 0, .bool false, .slice none 0 0] 37)).heap.size = W.heap.size + 1 := by simp
  have s2 : ((W.alloc (.cells #[.int .i64 0, .int .i64 0, .bool false, .slice none 0 0] 37)).alloc (.cells #[.int .i64 0, .int .i64 0, .bool false, .slice none 0 0] 37)).heap.size = W.heap.size + 1 + 1 := by simp
  have o1 := ((Own.alloc W 37 #[.int .i64 0, .int .i64 0, .bool false, .slice none 0 0]).alloc_later (.cells #[.int .i64 0, .int .i64 0, .bool false, .slice none 0 0] 37)).below K (by omega)
  have o2 := Own.alloc (W.alloc (.cells #[.int .i64 0, .int .i64 0, .bool false, .slice none 0 0] 37)) 37 #[.int .i64 0, .int .i64 0, .bool false, .slice none 0 0]
  rw [s1] at o2
  replace o2 := o2.below K (by omega)
  have hs := K.size
  rw [s2] at hs
  have hk : ∀ k, v.ownBlock = some k → W.heap.size + 1 + 1 ≤ k := fun k e => (h.lt k e).1
  have G : W.grownBy w1 none := by
    have K' : Below ((W.alloc (.cells #[.int .i64 0, .int .i64 0, .bool false, .slice none 0 0] 37)).alloc (.cells #[.int .i64 0, .int .i64 0, .bool false, .slice none 0 0] 37)).heap.size ((W.alloc (.cells #[.int .i64 0, .int .i64 0, .bool false, .slice none 0 0] 37)).alloc (.cells #[.int .i64 0, .int .i64 0, .bool false, .slice none 0 0] 37)) w1 := by rw [s2]; exact K
    exact grown_of_below (keep_trans (keep_trans (keep_own W (.cells #[.int .i64 0, .int .i64 0, .bool false, .slice none 0 0] 37)) (keep_own _ (.cells #[.int .i64 0, .int .i64 0, .bool false, .slice none 0 0] 37))) K')
  have G4 : ∀ t0 t1 t2 t3, w1.grownBy ((((w1.setCell ⟨W.heap.size + 1, 0, none⟩ t0).setCell ⟨W.heap.size + 1, 1, none⟩ t1).setCell ⟨W.heap.size + 1, 2, none⟩ t2).setCell ⟨W.heap.size + 1, 3, none⟩ t3) (some (W.heap.size + 1)) := fun t0 t1 t2 t3 =>
    grown_setCell (grown_setCell (grown_setCell (grown_setCell (grown_refl w1 (some (W.heap.size + 1))) ⟨W.heap.size + 1, 0, none⟩ t0 (.inr rfl)) ⟨W.heap.size + 1, 1, none⟩ t1 (.inr rfl)) ⟨W.heap.size + 1, 2, none⟩ t2 (.inr rfl)) ⟨W.heap.size + 1, 3, none⟩ t3 (.inr rfl)
  have o3 := (((o2.set 0 (.int .i64 x)).set 1 (.int .i64 y)).set 2 (.bool r)).set 3 v
  refine ⟨v, [], ⟨grown_trans G (G4 _ _ _ _) (fun k e => .inl (by simp at e; omega)), Nat.le_refl _, by omega, o1.grown (G4 _ _ _ _) (fun e => by simp at e), by simpa using o3, ?_, ?_⟩, rfl, fun i hi => absurd hi (Nat.not_lt_zero _)⟩
  · refine (h.other (G4 _ _ _ _) ?_).base (by omega)
    cases e : v.ownBlock with
    | none => exact .inl rfl
    | some k => exact .inr (fun e2 => by have := hk k e; simp at e2; omega)
  · intro e; have := hk _ e; omega

end Go.Proofs.Ytbcocjakpnhmaaa
