/- Flat fields: the reference's and the program's. Under no condition. -/
import Derived.Test.YtcnamhmoocdccaaMm
namespace Go.Proofs.Ytcnamhmoocdccaa
open Go Go.RowKit
set_option linter.unusedVariables false
set_option linter.unusedSimpArgs false

/-- What a maker with a verdict hands back. -/
def FieldOut (x y : Int) (r ok : Bool) (n : Nat) (V : Nat → Nat) (W : World) (e : Ending) (w' : World) : Prop :=
  ∃ v vs, e = .returned (.tuple #[.agg #[.int .i64 x, .int .i64 y, .bool r, v], .bool ok]) ∧ Below W.heap.size W w' ∧ FOwn w' W.heap.size v vs ∧ vs.length = n ∧ ∀ i, i < n → Same .f32 (vs.getD i 0) (V i)

theorem FieldOut.no (W w' : World) (V : Nat → Nat) (K : Below W.heap.size W w') : FieldOut 0 0 false false 0 V W (.returned (.tuple #[.agg #[.int .i64 0, .int .i64 0, .bool false, .slice none 0 0], .bool false])) w' :=
  ⟨_, [], rfl, K, ⟨rfl, .inl ⟨rfl, rfl⟩⟩, rfl, fun i hi => absurd hi (Nat.not_lt_zero _)⟩

/-- A field that was made, handed on as the result. -/
theorem FieldOut.yes {x y : Int} {r : Bool} {n : Nat} {V : Nat → Nat} {W : World} {v : Value} {vs : List Nat} {w' : World} (K : Below W.heap.size W w') (h : FOwn w' W.heap.size v vs) (hn : vs.length = n) (hv : ∀ i, i < n → Same .f32 (vs.getD i 0) (V i)) :
    FieldOut x y r true n V W (.returned (.tuple #[.agg #[.int .i64 x, .int .i64 y, .bool r, v], .bool true])) w' := ⟨v, vs, rfl, K, h, hn, hv⟩

theorem spec_l02New (x y : Int) (r : Bool) (w : World) :
    Calls Try.prog 61 #[.int .i64 x, .int .i64 y, .bool r] w fun e w' => ∃ v, e = .returned (.agg #[.int .i64 x, .int .i64 y, .bool r, v]) ∧ Below w.heap.size w w' ∧ FOwn w' w.heap.size v [] := by
  go_enter Try.func61, Try.ntmps61
  go_wp2
  refine bodyPost_ret (v := .agg #[.int .i64 x, .int .i64 y, .bool r, .slice (some ⟨w.heap.size + 1, 0, none⟩) 0 0]) (by simp [results, Try.results61, go_sem, *]) rfl ⟨_, rfl, keep_trans (keep_own w _) (keep_own _ _), ?_⟩
  have h := FOwn.empty (w.alloc (.cells #[.int .i64 x, .int .i64 y, .bool r, .slice (some ⟨w.heap.size + 1, 0, none⟩) 0 0] 46))
  have e1 : (w.alloc (.cells #[.int .i64 x, .int .i64 y, .bool r, .slice (some ⟨w.heap.size + 1, 0, none⟩) 0 0] 46)).heap.size = w.heap.size + 1 := by simp
  rw [e1] at h
  exact h.base (by omega)

theorem Own.zero4 {w : World} {B : Nat} (R : Own w B 46 #[.int .i64 0, .int .i64 0, .bool false, .slice none 0 0]) :
    w.cell? ⟨B, 0, none⟩ = some (.int .i64 0) ∧ w.cell? ⟨B, 1, none⟩ = some (.int .i64 0) ∧ w.cell? ⟨B, 2, none⟩ = some (.bool false) ∧ w.cell? ⟨B, 3, none⟩ = some (.slice none 0 0) ∧ w.frozen? ⟨B, 0, none⟩ = false ∧ w.frozen? ⟨B, 1, none⟩ = false ∧ w.frozen? ⟨B, 2, none⟩ = false ∧ w.frozen? ⟨B, 3, none⟩ = false :=
  ⟨R.cell 0, R.cell 1, R.cell 2, R.cell 3, R.frozen 0, R.frozen 1, R.frozen 2, R.frozen 3⟩

theorem FOwn.res4 {W w : World} {base B : Nat} {v : Value} {vs : List Nat} (h : FOwn w base v vs) (hB : B < base) (t0 t1 t2 t3 : Value) :
    FOwn ((((w.setCell ⟨B, 0, none⟩ t0).setCell ⟨B, 1, none⟩ t1).setCell ⟨B, 2, none⟩ t2).setCell ⟨B, 3, none⟩ t3) base v vs :=
  h.other (grown_setCell (grown_setCell (grown_setCell (grown_setCell (grown_refl w (some B)) ⟨B, 0, none⟩ t0 (.inr rfl)) ⟨B, 1, none⟩ t1 (.inr rfl)) ⟨B, 2, none⟩ t2 (.inr rfl)) ⟨B, 3, none⟩ t3 (.inr rfl)) (by
    cases e : v.ownBlock with
    | none => exact .inl rfl
    | some k => exact .inr (fun e2 => by have := (h.lt k e).1; simp at e2; omega))
theorem below_res4 {W w : World} {B : Nat} (K : Below W.heap.size W w) (hB : W.heap.size ≤ B) (t0 t1 t2 t3 : Value) :
    Below W.heap.size W ((((w.setCell ⟨B, 0, none⟩ t0).setCell ⟨B, 1, none⟩ t1).setCell ⟨B, 2, none⟩ t2).setCell ⟨B, 3, none⟩ t3) :=
  (((K.setCell (by simp; omega) _).setCell (by simp; omega) _).setCell (by simp; omega) _).setCell (by simp; omega) _

end Go.Proofs.Ytcnamhmoocdccaa
