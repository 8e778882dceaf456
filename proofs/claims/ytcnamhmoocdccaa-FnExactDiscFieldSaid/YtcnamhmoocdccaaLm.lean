/- What the walks of laws on made fields use. Under no condition. -/
import Derived.Test.YtcnamhmoocdccaaMs
import Derived.Test.YtcnamhmoocdccaaLf
namespace Go.Proofs.Ytcnamhmoocdccaa
open Go Go.RowKit
set_option linter.unusedVariables false
set_option linter.unusedSimpArgs false

theorem FOwn.holds {w : World} {base : Nat} {a : Option Addr} {l c : Nat} {vs : List Nat} (h : FOwn w base (.slice a l c) vs) : Holds w a vs.length (fvals .f32 vs) := by
  obtain ⟨a', cap, e, hh⟩ := h.value
  simp only [Value.slice.injEq] at e
  rw [e.1]; exact hh
theorem FOwn.at {w : World} {base n : Nat} {v : Value} {vs : List Nat} (h : FOwn w base v vs) (hn : vs.length = n) : ∃ a cap, v = .slice a n cap ∧ Holds w a n (fvals .f32 vs) := by
  subst hn; exact h.value
theorem FieldAt.grown {w w' : World} {b : Nat} {x y : Int} {r : Bool} {s : Value} {row : Option Nat} (h : FieldAt w b x y r s) (g : w.grownBy w' row) (hne : row ≠ some b) : FieldAt w' b x y r s := by
  have e : ∀ i, w'.cell? ⟨b, i, none⟩ = w.cell? ⟨b, i, none⟩ := fun i => g.cell_far ⟨b, i, none⟩ h.lt (Ne.symm hne)
  exact ⟨Nat.lt_of_lt_of_le h.lt g.size, (e 0).trans h.x, (e 1).trans h.y, (e 2).trans h.r, (e 3).trans h.s⟩
theorem below_grown {C W W' : World} {row : Option Nat} (K : Below C.heap.size C W) (g : W.grownBy W' row) (hrow : ∀ k, row = some k → C.heap.size ≤ k) : Below C.heap.size C W' :=
  below_of_grown (grown_trans (grown_of_below K) g (fun k e => .inl (hrow k e)))

theorem FOwn.of_copy {w : World} {base B len : Nat} {cur : Array Value} {xs : List Nat} (hB : base ≤ B) (o : Own w B 27 cur) (hz : cur.size = len) (hc : ∀ i, i < len → cur[i]? = some (fvals .f32 xs i)) (hl : xs.length = len) (hm : len ≤ 1048576) :
    FOwn w base (.slice (some ⟨B, 0, none⟩) len len) xs := by
  subst hl
  exact FOwn.of_own hB o (Nat.le_refl _) (by unfold maxLen; omega) hz hc
theorem own_block (B l c : Nat) : (Value.slice (some ⟨B, 0, none⟩) l c).ownBlock = some B := rfl

end Go.Proofs.Ytcnamhmoocdccaa
