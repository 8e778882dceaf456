/- Slices in memory: what a slice value holds (rows of numbers), blocks that a call owns whole, and how an argument's slice is opened. Under no condition. -/
import Derived.Test.YtpjhgfeibkldmaaGreatDoorZa
import Derived.Below
import Derived.WalkSmall
import Derived.OneCell
import Derived.Deep.Slices
import Derived.Laws.MakeOwn
import Derived.Laws.Cover2
import Derived.RowKit
namespace Go.Proofs.YtpjhgfeibkldmaaGreatDoor
open Go Go.RowKit Go.ChangeShapes Go.WideShapes
set_option linter.unusedVariables false
set_option linter.unusedSimpArgs false

/-- The slice value of address a and length len holds the values V 0 .. V (len-1), each one cell. -/
structure Holds (w : World) (a : Option Addr) (len : Nat) (V : Nat → Value) : Prop where
  cells : len = 0 ∨ ∃ b o, a = some ⟨b, o, none⟩ ∧ b < w.heap.size ∧ ∀ i, i < len → w.cell? ⟨b, o + i, none⟩ = some (V i)

theorem Holds.split {w : World} {a : Option Addr} {len : Nat} {V : Nat → Value} (h : Holds w a len V) :
    len ≤ 0 ∨ ∃ b o, a = some ⟨b, o, none⟩ ∧ b < w.heap.size ∧ ∀ i, i < len → w.cell? ⟨b, o + i, none⟩ = some (V i) := by
  rcases h.cells with h | h
  · exact .inl (by omega)
  · exact .inr h

/-- The block of a slice, if it has one. -/
def inBlocks (a : Option Addr) (p : Nat → Prop) : Prop := ∀ x, a = some x → p x.block

theorem Holds.below {B : Nat} {w w' : World} {a : Option Addr} {len : Nat} {V : Nat → Value} (h : Holds w a len V) (hb : Below B w w') (hB : w.heap.size ≤ B) : Holds w' a len V := by
  rcases h.cells with h | ⟨b, o, rfl, hlt, hc⟩
  · exact ⟨.inl h⟩
  · refine ⟨.inr ⟨b, o, rfl, Nat.lt_of_lt_of_le hlt hb.size, fun i hi => ?_⟩⟩
    rw [← hc i hi]
    exact hb.cell (p := ⟨b, o + i, none⟩) (Nat.lt_of_lt_of_le hlt hB)

theorem Holds.drewN {w : World} {a : Option Addr} {len : Nat} {V : Nat → Value} (h : Holds w a len V) (n : Nat) : Holds (w.drewN n) a len V := ⟨h.cells⟩

/-- Numbers of a kind, as a row of values. -/
def fvals (k : FloatKind) (xs : List Nat) (i : Nat) : Value := .float k (xs.getD i 0)
def ivals (k : IntKind) (xs : List Int) (i : Nat) : Value := .int k (xs.getD i 0)

@[go_sem] theorem run_store_float (P : Program) (w : World) (a : Addr) (m : Mode) (k : FloatKind) (b : Nat) : (store a (.float k b) m).run P w = stored P w a (.float k b) m := run_store P w a _ m rfl
@[go_sem] theorem run_store_complex (P : Program) (w : World) (a : Addr) (m : Mode) (k : FloatKind) (x y : Nat) : (store a (.complex k x y) m).run P w = stored P w a (.complex k x y) m := run_store P w a _ m rfl

theorem keep_trans {w w1 w2 : World} (h : Below w.heap.size w w1) (g : Below w1.heap.size w1 w2) : Below w.heap.size w w2 := h.trans (g.mono h.size)
theorem keep_drewN {w w1 : World} (h : Below w.heap.size w w1) (n : Nat) : Below w.heap.size w (w1.drewN n) := below_drewN h n
theorem Holds.keep {w w' : World} {a : Option Addr} {len : Nat} {V : Nat → Value} (h : Holds w a len V) (hb : Below w.heap.size w w') : Holds w' a len V := h.below hb (Nat.le_refl _)

/-! ### Blocks that the call owns whole. -/
def Own (w : World) (B : Nat) (e : TypeId) (cur : Array Value) : Prop := w.heap[B]? = some (.cells cur e (0, 0))

theorem Own.lt {w : World} {B : Nat} {e : TypeId} {cur : Array Value} (h : Own w B e cur) : B < w.heap.size := lt_of_block h
theorem Own.cell {w : World} {B : Nat} {e : TypeId} {cur : Array Value} (h : Own w B e cur) (i : Nat) : w.cell? ⟨B, i, none⟩ = cur[i]? := by
  unfold Own at h
  simp [World.cell?, h]
theorem Own.frozen {w : World} {B : Nat} {e : TypeId} {cur : Array Value} (h : Own w B e cur) (i : Nat) : w.frozen? ⟨B, i, none⟩ = false := by
  unfold Own at h
  simp [World.frozen?, h]
theorem Own.set {w : World} {B : Nat} {e : TypeId} {cur : Array Value} (h : Own w B e cur) (i : Nat) (u : Value) : Own (w.setCell ⟨B, i, none⟩ u) B e (cur.setIfInBounds i u) := by
  have hlt := h.lt
  have h' : w.heap[B] = .cells cur e (0, 0) := by
    unfold Own at h
    simpa [Array.getElem?_eq_getElem hlt] using h
  show (w.heap.modify B _)[B]? = _
  rw [Array.getElem?_eq_getElem (by simpa using hlt), Array.getElem_modify_self, h']
  rfl
theorem Own.alloc (w : World) (e : TypeId) (cur : Array Value) : Own (w.alloc (.cells cur e)) w.heap.size e cur := by
  show (w.heap.push _)[w.heap.size]? = _
  simp
theorem Own.below {w w' : World} {B n : Nat} {e : TypeId} {cur : Array Value} (h : Own w B e cur) (hb : Below n w w') (hB : B < n) : Own w' B e cur := by
  unfold Own at *
  rw [hb.block B hB]; exact h
theorem Own.drewN {w : World} {B : Nat} {e : TypeId} {cur : Array Value} (h : Own w B e cur) (n : Nat) : Own (w.drewN n) B e cur := h
theorem Own.other {w : World} {B : Nat} {e : TypeId} {cur : Array Value} (h : Own w B e cur) {a : Addr} (ha : a.block ≠ B) (u : Value) : Own (w.setCell a u) B e cur := by
  unfold Own at *
  rw [Below.heap_setCell _ _ _ _ (Ne.symm ha)]; exact h
theorem Own.alloc_later {w : World} {B : Nat} {e : TypeId} {cur : Array Value} (h : Own w B e cur) (o : Obj) : Own (w.alloc o) B e cur := by
  have := h.lt
  unfold Own at *
  rw [Below.heap_alloc _ _ _ this]; exact h
theorem Own.holds {w : World} {B : Nat} {e : TypeId} {cur : Array Value} (h : Own w B e cur) {V : Nat → Value} {len : Nat} (hv : ∀ i, i < len → cur[i]? = some (V i)) : Holds w (some ⟨B, 0, none⟩) len V := by
  refine ⟨.inr ⟨B, 0, rfl, h.lt, fun i hi => ?_⟩⟩
  rw [Nat.zero_add, h.cell, hv i hi]

theorem size_alloc' (w : World) (o : Obj) : (w.alloc o).heap.size = w.heap.size + 1 := by simp

/-! ### An argument's slice, opened. -/
def bitsIn : Value → Nat | .float _ b => b | _ => 0
def numIn : Value → Int | .int _ n => n | _ => 0

section
variable {H : Type} {enc : TypeId × Value → H} {P : Program} {w : World} {spare : Nat → Bool} {held : Bool}

/-- What the walk is told of a slice of numbers that came in. -/
def FRow (k : FloatKind) (w : World) (a : Option Addr) (len cap : Nat) (xs : List Nat) : Prop :=
  Holds w a len (fvals k xs) ∧ xs.length = len ∧ len ≤ cap ∧ cap ≤ maxLen ∧ (∀ x ∈ xs, Fits k x)
def IRow (k : IntKind) (w : World) (a : Option Addr) (len cap : Nat) (xs : List Int) : Prop :=
  Holds w a len (ivals k xs) ∧ xs.length = len ∧ len ≤ cap ∧ cap ≤ maxLen ∧ (∀ x ∈ xs, (Lit.int k x).wf = true)

theorem spot_of {a : Addr} {v : Value} (h : w.cell? (a.add 0) = some v) : a.spot = none := by
  have := World.cell?_spot h
  simpa [Addr.add] using this

theorem frow_of {t e : TypeId} {k : FloatKind} {a : Option Addr} {len cap : Nat} {d : DataW H} {ps : List MemPlace} (ht : P.underlying t = some (.slice e)) (he : P.underlying e = some (.float k)) (hc : P.cellsOf e = 1)
    (h : DataW.Trod enc P w 0 spare held t (.slice a len cap) d ps) : ∃ xs, FRow k w a len cap xs := by
  obtain ⟨fuel, hf⟩ := h
  rcases Go.Deep.open_slice1 ht hc hf with ⟨hcs, _⟩ | ⟨x, len', cap', m, n, V, D, Pl, hcs, _, hl, hm, hmm, hx, hV⟩
  · simp [Value.cells] at hcs
    obtain ⟨rfl, rfl, rfl⟩ := hcs
    exact ⟨[], ⟨.inl rfl⟩, rfl, Nat.le_refl _, by simp, by simp⟩
  · simp [Value.cells] at hcs
    obtain ⟨rfl, rfl, rfl⟩ := hcs
    have hlm : len ≤ m := by rw [hmm]; split <;> omega
    have hv : ∀ i, i < m → V i = .float k (bitsIn (V i)) ∧ Fits k (bitsIn (V i)) := by
      intro i hi
      obtain ⟨_, h2⟩ := hV i hi
      cases n with
      | zero => simp [DataW.trod] at h2
      | succ n =>
        simp only [DataW.trod, he] at h2
        cases hvi : V i with
        | float k' b =>
          rw [hvi] at h2
          by_cases hk : k' = k
          · subst hk
            by_cases hw : (Lit.float k' b).wf = true
            · refine ⟨rfl, ?_⟩
              cases k' <;> (simp only [Lit.wf, decide_eq_true_eq] at hw; exact hw)
            · simp [hw] at h2
          · simp [hk] at h2
        | _ => rw [hvi] at h2; simp at h2
    refine ⟨(List.range len).map fun i => bitsIn (V i), ⟨?_⟩, by simp, hl, hm, ?_⟩
    · by_cases h0 : len = 0
      · exact .inl h0
      · right
        have h1 := (hV 0 (by omega)).1
        have hs := spot_of h1
        obtain ⟨b, o, sp⟩ := x
        simp only at hs
        subst hs
        refine ⟨b, o, rfl, ?_, ?_⟩
        · have := World.block_lt_of_cell? _ _ h1
          simpa [Addr.add] using this
        · intro i hi
          have h2 := (hV i (by omega)).1
          rw [(hv i (by omega)).1] at h2
          have e : (Addr.add ⟨b, o, none⟩ i) = ⟨b, o + i, none⟩ := Addr.add_lit b o i
          rw [e] at h2
          rw [h2]
          simp [fvals, List.getD, hi]
    · intro x hx
      simp at hx
      obtain ⟨i, hi, rfl⟩ := hx
      exact (hv i (by omega)).2

theorem irow_of {t e : TypeId} {k : IntKind} {a : Option Addr} {len cap : Nat} {d : DataW H} {ps : List MemPlace} (ht : P.underlying t = some (.slice e)) (he : P.underlying e = some (.int k)) (hc : P.cellsOf e = 1)
    (h : DataW.Trod enc P w 0 spare held t (.slice a len cap) d ps) : ∃ xs, IRow k w a len cap xs := by
  obtain ⟨fuel, hf⟩ := h
  rcases Go.Deep.open_slice1 ht hc hf with ⟨hcs, _⟩ | ⟨x, len', cap', m, n, V, D, Pl, hcs, _, hl, hm, hmm, hx, hV⟩
  · simp [Value.cells] at hcs
    obtain ⟨rfl, rfl, rfl⟩ := hcs
    exact ⟨[], ⟨.inl rfl⟩, rfl, Nat.le_refl _, by simp, by simp⟩
  · simp [Value.cells] at hcs
    obtain ⟨rfl, rfl, rfl⟩ := hcs
    have hlm : len ≤ m := by rw [hmm]; split <;> omega
    have hv : ∀ i, i < m → V i = .int k (numIn (V i)) ∧ (Lit.int k (numIn (V i))).wf = true := by
      intro i hi
      obtain ⟨_, h2⟩ := hV i hi
      cases n with
      | zero => simp [DataW.trod] at h2
      | succ n =>
        simp only [DataW.trod, he] at h2
        cases hvi : V i with
        | int k' b =>
          rw [hvi] at h2
          by_cases hk : k' = k
          · subst hk
            by_cases hw : (Lit.int k' b).wf = true
            · exact ⟨rfl, hw⟩
            · simp [hw] at h2
          · simp [hk] at h2
        | _ => rw [hvi] at h2; simp at h2
    refine ⟨(List.range len).map fun i => numIn (V i), ⟨?_⟩, by simp, hl, hm, ?_⟩
    · by_cases h0 : len = 0
      · exact .inl h0
      · right
        have h1 := (hV 0 (by omega)).1
        have hs := spot_of h1
        obtain ⟨b, o, sp⟩ := x
        simp only at hs
        subst hs
        refine ⟨b, o, rfl, ?_, ?_⟩
        · have := World.block_lt_of_cell? _ _ h1
          simpa [Addr.add] using this
        · intro i hi
          have h2 := (hV i (by omega)).1
          rw [(hv i (by omega)).1] at h2
          have e : (Addr.add ⟨b, o, none⟩ i) = ⟨b, o + i, none⟩ := Addr.add_lit b o i
          rw [e] at h2
          rw [h2]
          simp [ivals, List.getD, hi]
    · intro x hx
      simp at hx
      obtain ⟨i, hi, rfl⟩ := hx
      exact (hv i (by omega)).2

end

end Go.Proofs.YtpjhgfeibkldmaaGreatDoor

