/- A field that is built element by element. Under no condition. -/
import Derived.Test.YtcnamhmoocdccaaMk
import Derived.Deep.RegionLaw
namespace Go.Proofs.Ytcnamhmoocdccaa
open Go Go.RowKit
set_option linter.unusedVariables false
set_option linter.unusedSimpArgs false

theorem step_call {P : Program} {w : World} {ops : Array Oper} {o : Oper} {a : Act} {K : Act → World → Prop} {Q : Exit → Act → World → Prop} {E : Prop} (hgd : o.guard = none) (f : FuncId) (args : Array Value)
    (hrun : (execOp a.eval o).run P w = .ok (.enter f args) w) (R : Ending → World → Prop) (hc : Calls P f args w R) (h : ∀ e w', R e w' → ∃ v, e = .returned v ∧ K (a.put o.dst v) w') :
    if Region.wanted o (yielded ops a.tmps) = true then Oper.wp P o a w K Q else E := by
  have hw : Region.wanted o (yielded ops a.tmps) = true := by simp [Region.wanted, hgd]
  rw [if_pos hw]
  unfold Oper.wp
  rw [hrun, Oper.upon_enter]
  refine hc.mono fun e w'' hh => ?_
  obtain ⟨v, rfl, hk⟩ := h e w'' hh
  exact hk

theorem grown_of_below {w w' : World} (h : Below w.heap.size w w') : w.grownBy w' none := ⟨h.os, h.tape, h.output, h.size, fun k hk _ => h.block k hk⟩
theorem below_of_grown {w w' : World} (h : w.grownBy w' none) : Below w.heap.size w w' := ⟨h.os, h.tape, h.output, h.size, fun k hk => h.block k hk (by simp)⟩
theorem grown_drew {w w' : World} {row : Option Nat} (h : w.grownBy w' row) : w.grownBy w'.drew row := ⟨h.os, h.tape, h.output, h.size, h.block⟩
theorem grown_refl (w : World) (row : Option Nat) : w.grownBy w row := ⟨rfl, rfl, rfl, Nat.le_refl _, fun _ _ _ => rfl⟩
theorem grown_alloc {w w' : World} {row : Option Nat} (h : w.grownBy w' row) (o : Obj) : w.grownBy (w'.alloc o) row := by
  refine ⟨h.os, h.tape, h.output, Nat.le_trans h.size (by simp), fun k hk hne => ?_⟩
  rw [Below.heap_alloc _ _ _ (Nat.lt_of_lt_of_le hk h.size)]; exact h.block k hk hne
theorem grown_setCell {w w' : World} {row : Option Nat} (h : w.grownBy w' row) (a : Addr) (v : Value) (ha : w.heap.size ≤ a.block ∨ row = some a.block) : w.grownBy (w'.setCell a v) row := by
  refine ⟨h.os, h.tape, h.output, by simpa [World.setCell] using h.size, fun k hk hne => ?_⟩
  rw [Below.heap_setCell _ _ _ _ (fun e => ha.elim (fun ha => by omega) (fun ha => hne (by rw [ha, e])))]; exact h.block k hk hne
/-- A step that writes a row of its own, or one that was let go. -/
theorem grown_trans {w w1 w2 : World} {row row' : Option Nat} (h : w.grownBy w1 row) (g : w1.grownBy w2 row') (hr : ∀ k, row' = some k → w.heap.size ≤ k ∨ row = some k) : w.grownBy w2 row := by
  refine ⟨g.os.trans h.os, g.tape.trans h.tape, g.output.trans h.output, Nat.le_trans h.size g.size, fun k hk hne => ?_⟩
  rw [g.block k (Nat.lt_of_lt_of_le hk h.size) (fun e => (hr k e.symm).elim (fun h1 => by omega) (fun h1 => hne h1.symm))]
  exact h.block k hk hne
theorem Own.grown {w w' : World} {B : Nat} {e : TypeId} {cur : Array Value} {row : Option Nat} (h : Own w B e cur) (g : w.grownBy w' row) (hne : row ≠ some B) : Own w' B e cur := by
  have hlt := h.lt
  unfold Own at *
  rw [g.block B hlt (Ne.symm hne)]; exact h

/-- The field under way: its block, its list, the result's block. -/
structure Cons (W : World) (row : Option Nat) (w : World) (R X : Nat) (x y : Int) (r : Bool) (v : Value) (vs : List Nat) : Prop where
  grow : W.grownBy w row
  hR : W.heap.size ≤ R
  hX : R < X
  res : Own w R 46 #[.int .i64 0, .int .i64 0, .bool false, .slice none 0 0]
  fld : Own w X 46 #[.int .i64 x, .int .i64 y, .bool r, v]
  own : FOwn w (R + 1) v vs
  ne : v.ownBlock ≠ some X

theorem FOwn.lt {w : World} {base : Nat} {v : Value} {vs : List Nat} (h : FOwn w base v vs) : ∀ k, v.ownBlock = some k → base ≤ k ∧ k < w.heap.size := World.ownsRow.lt h

theorem Cons.drew {W : World} {row : Option Nat} {w : World} {R X : Nat} {x y : Int} {r : Bool} {v : Value} {vs : List Nat} (h : Cons W row w R X x y r v vs) : Cons W row w.drew R X x y r v vs :=
  ⟨grown_drew h.grow, h.hR, h.hX, h.res, h.fld, h.own, h.ne⟩
theorem Cons.later {W : World} {row : Option Nat} {w w' : World} {R X : Nat} {x y : Int} {r : Bool} {v : Value} {vs : List Nat} (h : Cons W row w R X x y r v vs) (g : w.grownBy w' row) (hrow : ∀ k, row = some k → k < W.heap.size) : Cons W row w' R X x y r v vs :=
  have h1 := h.hR
  have h2 := h.hX
  ⟨grown_trans h.grow g (fun k e => .inr e), h.hR, h.hX, h.res.grown g (fun e => by have := hrow _ e; omega), h.fld.grown g (fun e => by have := hrow _ e; omega),
    h.own.other g (by
      cases e : v.ownBlock with
      | none => exact .inl rfl
      | some k => exact .inr (fun e2 => by have := hrow k e2.symm; have := (h.own.lt k e).1; omega)), h.ne⟩
theorem Cons.alloc {W : World} {row : Option Nat} {w : World} {R X : Nat} {x y : Int} {r : Bool} {v : Value} {vs : List Nat} (h : Cons W row w R X x y r v vs) (o : Obj) : Cons W row (w.alloc o) R X x y r v vs :=
  ⟨grown_alloc h.grow o, h.hR, h.hX, h.res.alloc_later o, h.fld.alloc_later o, h.own.keep (keep_own w o), h.ne⟩

theorem Cons.cell {W : World} {row : Option Nat} {w : World} {R X : Nat} {x y : Int} {r : Bool} {v : Value} {vs : List Nat} (h : Cons W row w R X x y r v vs) : w.cell? ⟨X, 3, none⟩ = some v := by rw [h.fld.cell]; rfl

/-- An element more: behind an append whose value is then laid into the field. -/
theorem Cons.push {W : World} {row : Option Nat} {w w' : World} {R X : Nat} {x y : Int} {r : Bool} {v v' : Value} {vs vs' : List Nat} (h : Cons W row w R X x y r v vs) (g : w.grownBy w' v.ownBlock)
    (hown : FOwn w' (R + 1) v' vs') (hv : v.ownBlock = v'.ownBlock ∨ v'.ownBlock = some w.heap.size) : Cons W row (w'.setCell ⟨X, 3, none⟩ v') R X x y r v' vs' := by
  have h1 := h.hR
  have h2 := h.hX
  have hX := h.fld.lt
  have hne : v'.ownBlock ≠ some X := by
    rcases hv with e | e
    · rw [← e]; exact h.ne
    · rw [e]; intro e2; simp at e2; omega
  have G : W.grownBy w' row := grown_trans h.grow g (fun k e => .inl (by have := (h.own.lt k e).1; omega))
  refine ⟨grown_setCell G _ _ (.inl (by simp; omega)), h.hR, h.hX, ?_, ?_, ?_, hne⟩
  · exact (h.res.grown g (fun e => by have := (h.own.lt R e).1; omega)).other (by simp; omega) _
  · exact (h.fld.grown g h.ne).set 3 v'
  · refine hown.other (row := some X) (grown_setCell (grown_refl _ _) _ _ (.inr rfl)) (.inr hne)

/-- What a maker of fields hands back. -/
def FieldMade (x y : Int) (r : Bool) (n : Nat) (V : Nat → Nat) (W : World) (row : Option Nat) (e : Ending) (w' : World) : Prop :=
  ∃ v vs, e = .returned (.agg #[.int .i64 x, .int .i64 y, .bool r, v]) ∧ W.grownBy w' row ∧ FOwn w' W.heap.size v vs ∧ vs.length = n ∧ ∀ i, i < n → Same .f32 (vs.getD i 0) (V i)

/-- So far. -/
def Going (W : World) (row : Option Nat) (R X : Nat) (x y : Int) (r : Bool) (V : Nat → Nat) (n : Nat) (w : World) : Prop :=
  ∃ v vs, Cons W row w R X x y r v vs ∧ vs.length = n ∧ ∀ i, i < n → Same .f32 (vs.getD i 0) (V i)

theorem same_snoc {vs : List Nat} {V : Nat → Nat} {n b : Nat} (hn : vs.length = n) (h : ∀ i, i < n → Same .f32 (vs.getD i 0) (V i)) (hb : Same .f32 b (V n)) : ∀ i, i < n + 1 → Same .f32 ((vs ++ [b]).getD i 0) (V i) := by
  intro i hi
  by_cases e : i < n
  · have := h i e
    simpa [List.getD, List.getElem?_append_left (show i < vs.length by omega)] using this
  · have : i = n := by omega
    subst this
    subst hn
    simpa [List.getD] using hb

/-- An append of one number onto a list of the call's own. -/
theorem run_push (w : World) (base : Nat) (v : Value) (vs : List Nat) (b B c : Nat) (ty : TypeId) (hown : FOwn w base v vs) (hB : Own w B 27 #[.float .f32 b]) (hn : vs.length ≤ 1048576) (hbase : base ≤ w.heap.size) :
    ∃ g cap w', (Builtin.append_ #[25, 25] ty #[v, .slice (some ⟨B, 0, none⟩) 1 c]).run Try.prog w = .ok (.slice (some ⟨g, 0, none⟩) (vs.length + 1) cap) w' ∧
      FOwn w' base (.slice (some ⟨g, 0, none⟩) (vs.length + 1) cap) (vs ++ [b]) ∧ w.grownBy w' v.ownBlock ∧ (v.ownBlock = some g ∨ g = w.heap.size) ∧ g < w'.heap.size := by
  obtain ⟨i0, hi0, hz0, hz1, hz2⟩ := info_parts infof32
  obtain ⟨g, cap, w', h1, h2, h3⟩ := run_append_lies (P := Try.prog) w 25 ty base 27 i0 (.float .f32 0) 1 4 Try.underlying25 hi0 hz0 hz1 hz2 rfl (by omega) v vs.length _ hown
    ⟨B, 0, none⟩ 1 c [.float .f32 b] rfl (World.news_of_block (cs := #[.float .f32 b]) hB) (by simp [Value.oneCell']) (by omega) (by unfold maxLen; omega) (by omega) hbase _ rfl
  exact ⟨g, cap, w', h1, by simpa [FOwn] using h2, h3⟩

theorem Cons.far {W : World} {row : Option Nat} {w w' : World} {R X : Nat} {x y : Int} {r : Bool} {v : Value} {vs : List Nat} (h : Cons W row w R X x y r v vs) (g : w.grownBy w' v.ownBlock) :
    w'.cell? ⟨X, 3, none⟩ = some v ∧ w'.frozen? ⟨X, 3, none⟩ = false := by
  have f := h.fld.grown g h.ne
  exact ⟨by rw [f.cell]; rfl, f.frozen 3⟩

theorem step_push {w : World} {ops : Array Oper} {o : Oper} {a : Act} {K : Act → World → Prop} {Q : Exit → Act → World → Prop} {E : Prop} (hgd : o.guard = none) (s x : Operand)
    (ho : o.op = .call { callee := .builtin .append, args := #[s, x], argTypes := #[25, 25] })
    {W : World} {row : Option Nat} {R X : Nat} {x0 y0 : Int} {r : Bool} {v : Value} {vs : List Nat} (C : Cons W row w R X x0 y0 r v vs) (b B c : Nat) (hs : a.eval s = v) (hx : a.eval x = .slice (some ⟨B, 0, none⟩) 1 c)
    (hB : Own w B 27 #[.float .f32 b]) (hn : vs.length ≤ 1048576)
    (h : ∀ g cap w', w.grownBy w' v.ownBlock → (∀ B i, B < W.heap.size → w'.cell? ⟨B, i, none⟩ = w.cell? ⟨B, i, none⟩) → w'.cell? ⟨X, 3, none⟩ = some v → w'.frozen? ⟨X, 3, none⟩ = false → Cons W row (w'.setCell ⟨X, 3, none⟩ (.slice (some ⟨g, 0, none⟩) (vs.length + 1) cap)) R X x0 y0 r (.slice (some ⟨g, 0, none⟩) (vs.length + 1) cap) (vs ++ [b]) →
      K (a.put o.dst (.slice (some ⟨g, 0, none⟩) (vs.length + 1) cap)) w') :
    if Region.wanted o (yielded ops a.tmps) = true then Oper.wp Try.prog o a w K Q else E := by
  obtain ⟨i0, hi0, hz0, hz1, hz2⟩ := info_parts infof32
  have h1 := C.fld.lt
  have h2 := C.hX
  refine step_append_lies (P := Try.prog) w hgd s x 25 ho (R + 1) 27 i0 (.float .f32 0) 1 4 Try.underlying25 hi0 hz0 hz1 hz2 rfl (by omega) v vs.length _ hs C.own
    ⟨B, 0, none⟩ 1 c [.float .f32 b] hx rfl (World.news_of_block (cs := #[.float .f32 b]) hB) (by simp [Value.oneCell']) (by omega) (by unfold maxLen; omega) (by omega) (by omega) _ rfl ?_
  intro g cap w' hown hgrow hat hlt
  obtain ⟨c3, f3⟩ := C.far hgrow
  refine h g cap w' hgrow (fun B i hB => hgrow.cell_far ⟨B, i, none⟩ (by have := C.hR; show B < _; omega) (fun e => by have := (C.own.lt B e.symm).1; have := C.hR; omega)) c3 f3 (C.push hgrow (by simpa [FOwn] using hown) ?_)
  rcases hat with e | e
  · exact .inl e
  · right; rw [← e]; rfl

/-- The same in a plain region. -/
theorem list_push {w : World} {ops : Array Oper} {rest : List Oper} {o : Oper} {a : Act} {Q : Exit → Act → World → Prop} (hgd : o.guard = none) (s x : Operand)
    (ho : o.op = .call { callee := .builtin .append, args := #[s, x], argTypes := #[25, 25] })
    {W : World} {row : Option Nat} {R X : Nat} {x0 y0 : Int} {r : Bool} {v : Value} {vs : List Nat} (C : Cons W row w R X x0 y0 r v vs) (b B c : Nat) (hs : a.eval s = v) (hx : a.eval x = .slice (some ⟨B, 0, none⟩) 1 c)
    (hB : Own w B 27 #[.float .f32 b]) (hn : vs.length ≤ 1048576)
    (h : ∀ g cap w', w.grownBy w' v.ownBlock → (∀ B i, B < W.heap.size → w'.cell? ⟨B, i, none⟩ = w.cell? ⟨B, i, none⟩) → w'.cell? ⟨X, 3, none⟩ = some v → w'.frozen? ⟨X, 3, none⟩ = false → Cons W row (w'.setCell ⟨X, 3, none⟩ (.slice (some ⟨g, 0, none⟩) (vs.length + 1) cap)) R X x0 y0 r (.slice (some ⟨g, 0, none⟩) (vs.length + 1) cap) (vs ++ [b]) →
      wpList Try.prog ops Q rest (a.put o.dst (.slice (some ⟨g, 0, none⟩) (vs.length + 1) cap)) w') :
    wpList Try.prog ops Q (o :: rest) a w := by
  obtain ⟨i0, hi0, hz0, hz1, hz2⟩ := info_parts infof32
  have h1 := C.fld.lt
  have h2 := C.hX
  refine wpList_append_lies (P := Try.prog) w hgd s x 25 ho (R + 1) 27 i0 (.float .f32 0) 1 4 Try.underlying25 hi0 hz0 hz1 hz2 rfl (by omega) v vs.length _ hs C.own
    ⟨B, 0, none⟩ 1 c [.float .f32 b] hx rfl (World.news_of_block (cs := #[.float .f32 b]) hB) (by simp [Value.oneCell']) (by omega) (by unfold maxLen; omega) (by omega) (by omega) _ rfl ?_
  intro g cap w' hown hgrow hat hlt
  obtain ⟨c3, f3⟩ := C.far hgrow
  refine h g cap w' hgrow (fun B i hB => hgrow.cell_far ⟨B, i, none⟩ (by have := C.hR; show B < _; omega) (fun e => by have := (C.own.lt B e.symm).1; have := C.hR; omega)) c3 f3 (C.push hgrow (by simpa [FOwn] using hown) ?_)
  rcases hat with e | e
  · exact .inl e
  · right; rw [← e]; rfl

theorem FOwn.empty (w : World) : FOwn (w.alloc (.cells #[] 27)) w.heap.size (.slice (some ⟨w.heap.size, 0, none⟩) 0 0) [] :=
  FOwn.of_own (cur := #[]) (vs := []) (Nat.le_refl _) (Own.alloc w _ _) (by simp) (by unfold maxLen; omega) rfl (fun i hi => absurd hi (Nat.not_lt_zero _))

/-- The start, behind l02New: the result's block is the function's first, the field's the last. -/
theorem Going.begin {W w0 w1 : World} (x y : Int) (r : Bool) (V : Nat → Nat) {v : Value} (e0 : w0 = W.alloc (.cells #[.int .i64 0, .int .i64 0, .bool false, .slice none 0 0] 46)) (K : Below w0.heap.size w0 w1) (h : FOwn w1 w0.heap.size v []) :
    Going W none W.heap.size w1.heap.size x y r V 0 (w1.alloc (.cells #[.int .i64 x, .int .i64 y, .bool r, v] 46)) := by
  subst e0
  have e1 : (W.alloc (.cells #[.int .i64 0, .int .i64 0, .bool false, .slice none 0 0] 46)).heap.size = W.heap.size + 1 := by simp
  have o1 := (Own.alloc W 46 #[.int .i64 0, .int .i64 0, .bool false, .slice none 0 0]).below K (by simp)
  have hs := K.size
  rw [e1] at K h hs
  have G : W.grownBy w1 none := grown_of_below (keep_trans (keep_own W _) (by rw [e1]; exact K))
  refine ⟨v, [], ⟨grown_alloc G _, Nat.le_refl _, by omega, o1.alloc_later _, Own.alloc _ _ _, h.keep (keep_own _ _), ?_⟩, rfl, fun i hi => absurd hi (Nat.not_lt_zero _)⟩
  intro e; have := (h.lt _ e).2; omega

theorem Going.start (W : World) (row : Option Nat) (x y : Int) (r : Bool) (V : Nat → Nat) :
    Going W row W.heap.size (W.heap.size + 1 + 1) x y r V 0 (((W.alloc (.cells #[.int .i64 0, .int .i64 0, .bool false, .slice none 0 0] 46)).alloc (.cells #[] 27)).alloc
      (.cells #[.int .i64 x, .int .i64 y, .bool r, .slice (some ⟨W.heap.size + 1, 0, none⟩) 0 0] 46)) := by
  have e1 : (W.alloc (.cells #[.int .i64 0, .int .i64 0, .bool false, .slice none 0 0] 46)).heap.size = W.heap.size + 1 := by simp
  refine ⟨.slice (some ⟨W.heap.size + 1, 0, none⟩) 0 0, [], ⟨grown_alloc (grown_alloc (grown_alloc (grown_refl _ _) _) _) _, Nat.le_refl _, by omega, ?_, ?_, ?_, ?_⟩, rfl, fun i hi => absurd hi (Nat.not_lt_zero _)⟩
  · exact ((Own.alloc W _ _).alloc_later _).alloc_later _
  · have := Own.alloc ((W.alloc (.cells #[.int .i64 0, .int .i64 0, .bool false, .slice none 0 0] 46)).alloc (.cells #[] 27)) 46 #[.int .i64 x, .int .i64 y, .bool r, .slice (some ⟨W.heap.size + 1, 0, none⟩) 0 0]
    simpa using this
  · have h := Own.alloc (W.alloc (.cells #[.int .i64 0, .int .i64 0, .bool false, .slice none 0 0] 46)) 27 #[]
    rw [e1] at h
    exact FOwn.of_own (cur := #[]) (vs := []) (Nat.le_refl _) (h.alloc_later _) (by simp) (by unfold maxLen; omega) rfl (fun i hi => absurd hi (Nat.not_lt_zero _))
  · intro e; simp [Value.ownBlock] at e

/-- The end: the field is read and laid into the result. -/
theorem Going.result {W : World} {row : Option Nat} {R X : Nat} {x y : Int} {r : Bool} {V : Nat → Nat} {n : Nat} {w : World} (h : Going W row R X x y r V n w) (hrow : ∀ k, row = some k → k < W.heap.size) :
    ∃ a ln cap v, v = .slice a ln cap ∧ w.cell? ⟨X, 0, none⟩ = some (.int .i64 x) ∧ w.cell? ⟨X, 1, none⟩ = some (.int .i64 y) ∧ w.cell? ⟨X, 2, none⟩ = some (.bool r) ∧ w.cell? ⟨X, 3, none⟩ = some v ∧
      w.cell? ⟨R, 0, none⟩ = some (.int .i64 0) ∧ w.cell? ⟨R, 1, none⟩ = some (.int .i64 0) ∧ w.cell? ⟨R, 2, none⟩ = some (.bool false) ∧ w.cell? ⟨R, 3, none⟩ = some (.slice none 0 0) ∧ w.frozen? ⟨R, 0, none⟩ = false ∧ w.frozen? ⟨R, 1, none⟩ = false ∧ w.frozen? ⟨R, 2, none⟩ = false ∧ w.frozen? ⟨R, 3, none⟩ = false ∧
      (∀ w', w' = (((w.setCell ⟨R, 0, none⟩ (.int .i64 x)).setCell ⟨R, 1, none⟩ (.int .i64 y)).setCell ⟨R, 2, none⟩ (.bool r)).setCell ⟨R, 3, none⟩ v →
        FieldMade x y r n V W row (.returned (.agg #[.int .i64 x, .int .i64 y, .bool r, v])) w' ∧ W.grownBy w' row ∧ w.grownBy w' (some R)) := by
  obtain ⟨v, vs, C, hn, hv⟩ := h
  have hR := C.hR
  have hc := C.fld.cell
  have hr := C.res.cell
  have g4 := fun t0 t1 t2 t3 => grown_setCell (grown_setCell (grown_setCell (grown_setCell (grown_refl w (some R)) ⟨R, 0, none⟩ t0 (.inr rfl)) ⟨R, 1, none⟩ t1 (.inr rfl)) ⟨R, 2, none⟩ t2 (.inr rfl)) ⟨R, 3, none⟩ t3 (.inr rfl)
  have F : ∀ w', w.grownBy w' (some R) → W.grownBy w' row ∧ FOwn w' (R + 1) v vs := fun w' g =>
    ⟨grown_trans C.grow g (fun k e => .inl (by simp at e; omega)), C.own.other g (by
      cases e : v.ownBlock with
      | none => exact .inl rfl
      | some k => exact .inr (fun e2 => by have := (C.own.lt k e).1; simp at e2; omega))⟩
  obtain ⟨a, cap, e, _⟩ := C.own.value
  refine ⟨a, vs.length, cap, v, e, by rw [hc]; rfl, by rw [hc]; rfl, by rw [hc]; rfl, by rw [hc]; rfl, by rw [hr]; rfl, by rw [hr]; rfl, by rw [hr]; rfl, by rw [hr]; rfl, C.res.frozen _, C.res.frozen _, C.res.frozen _, C.res.frozen _, ?_⟩
  · intro w' e
    have g := g4 (.int .i64 x) (.int .i64 y) (.bool r) v
    rw [← e] at g
    obtain ⟨G, F⟩ := F w' g
    exact ⟨⟨v, vs, rfl, G, F.base (by omega), hn, hv⟩, G, g⟩

end Go.Proofs.Ytcnamhmoocdccaa
