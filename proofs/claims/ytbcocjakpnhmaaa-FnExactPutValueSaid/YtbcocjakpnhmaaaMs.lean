/- Flat fields: the reference's and the program's. Under no condition. -/
import Derived.Test.YtbcocjakpnhmaaaMm
namespace Go.Proofs.Ytbcocjakpnhmaaa
open Go Go.RowKit
set_option linter.unusedVariables false
set_option linter.unusedSimpArgs false

/-- What a maker with a verdict hands back. -/
def FieldOut (x y : Int) (r ok : Bool) (n : Nat) (V : Nat → Nat) (W : World) (e : Ending) (w' : World) : Prop :=
  ∃ v vs, e = .returned (.tuple #[.agg #[.int .i64 x, .int .i64 y, .bool r, v], .bool ok]) ∧ Below W.heap.size W w' ∧ FOwn w' W.heap.size v vs ∧ vs.length = n ∧ ∀ i, i < n → Same .f32 (vs.getD i 0) (V i)

theorem FieldOut.no (W w' : World) (V : Nat → Nat) (K : Below W.heap.size W w') : FieldOut 0 0 false false 0 V W (.returned (.tuple #[.agg #[.int .i64 0, .int .i64 0, .bool false, .slice none 0 0], .bool false])) w' :=
  ⟨_, [], rfl, K, ⟨rfl, .inl ⟨rfl, rfl⟩⟩, rfl, fun i hi => absurd hi (Nat.not_lt_zero _)⟩

/-- A field that was made, handed on as the result. -/
theorem FieldOut.yes {x y : Int} {r : Bool} {n : Nat} {V : Nat → Nat} {W : World} {v : Value} {vs : List Nat} {w' : World} (K : Below W.heap.size W w') (h : FOwn w' W.heap.size v vs) (hn : vs.length = n) (hv : ∀ i, i < n → Same .f32 (vs.getD i 0) (V i)) :
    FieldOut x y r true n V W (.returned (.tuple #[.agg #[.int .i64 x, .int .i64 y, .bool r, v], .bool true])) w' := ⟨v, vs, rfl, K, h, hn, hv⟩

theorem spec_l02New (x y : Int) (r : Bool) (w : World) :
    Calls Try.prog 68 #[.int .i64 x, .int .i64 y, .bool r] w fun e w' => ∃ v, e = .returned (.agg #[.int .i64 x, .int .i64 y, .bool r, v]) ∧ Below w.heap.size w w' ∧ FOwn w' w.heap.size v [] := by
  go_enter Try.func68, Try.ntmps68
  go_wp2
  refine bodyPost_ret (v := .agg #[.int .i64 x, .int .i64 y, .bool r, .slice (some ⟨w.heap.size + 1, 0, none⟩) 0 0]) (by simp [results, Try.results68, go_sem, *]) rfl ⟨_, rfl, keep_trans (keep_own w _) (keep_own _ _), ?_⟩
  have h := FOwn.empty (w.alloc (.cells #[.int .i64 x, .int .i64 y, .bool r, .slice (some ⟨w.heap.size + 1, 0, none⟩) 0 0] 37))
  have e1 : (w.alloc (.cells #[.int .i64 x, .int .i64 y, .bool r, .slice (some ⟨w.heap.size + 1, 0, none⟩) 0 0] 37)).heap.size = w.heap.size + 1 := by simp
  rw [e1] at h
  exact h.base (by omega)

set_option maxHeartbeats 1000000 in
theorem spec_l02Flat (X Y : Nat) (r : Bool) (b : Nat) (w : World) (hX : X ≤ 16) (hY : Y ≤ 16) :
    Calls Try.prog 60 #[.int .i64 X, .int .i64 Y, .bool r, .float .f32 b] w (FieldMade X Y r (X * Y) (fun _ => b) w none) := by
  have hmul : ((X * Y : Nat) : Int) = (X : Int) * (Y : Int) := by simp
  have hle : X * Y ≤ 16 * 16 := Nat.mul_le_mul hX hY
  generalize hN : X * Y = N at *
  have HN := Lib.hid hN
  clear hN
  go_enter Try.func60, Try.ntmps60
  go_wp2_with fail
  refine (spec_l02New X Y r _).mono ?_
  rintro e w1 ⟨v0, rfl, k1, h1⟩
  have hB := Lib.hid (Going.begin X Y r (fun _ => b) rfl k1 h1)
  obtain ⟨a0, cap0, rfl, _⟩ := h1.value
  have hsz : w.heap.size < w1.heap.size := Nat.lt_of_lt_of_le (by simp) k1.size
  clear k1 h1
  go_wp2
  go_loopw [10] (fun i wr => ∃ k : Nat, k ≤ N ∧ i = .int .i64 k ∧ Going w none w.heap.size w1.heap.size X Y r (fun _ => b) k wr) (fun i _ => N - (intOf i).toNat)
  case atStart => exact ⟨0, Nat.zero_le _, rfl, hB.out⟩
  case round =>
    obtain ⟨k, hk, rfl, hgo⟩ := hrel
    by_cases hlt : k < N
    · obtain ⟨v, vs, hC, hn, hv⟩ := hgo
      have CC := Lib.hid hC
      have VV := Lib.hid hv
      have NN := Lib.hid hn
      have c3 : wr.cell? ⟨w1.heap.size, 3, none⟩ = some v := hC.cell
      have C3 := Lib.hid (hC.alloc (.cells #[.float .f32 b] 41))
      have O3 := Lib.hid (Own.alloc wr 41 #[.float .f32 b])
      have small : Hid (vs.length ≤ 1048576) := Lib.hid (by omega)
      have c6 := C3.out.cell
      clear hC hn hv
      go_wp2_with (at_builtin; refine list_push (by rfl) (.tmp 23) (.tmp 25) (by rfl) C3.out b wr.heap.size 1 (by rfl) (by rfl) O3.out small.out ?_; intro g cap w3 g3 o3 c5 f5 C4)
      have C5 := Lib.hid C4
      clear C4 c3 c6 c5 f5 C3 O3 o3
      go_wp2
      go_roundw
      case rel => exact ⟨k + 1, by omega, by go_num, ⟨_, _, C5.out, by simp [NN.out], same_snoc NN.out VV.out (Same.refl _ _)⟩⟩
      case measure => simp [intOf]; omega
    · have hk2 : k = N := by omega
      subst hk2
      obtain ⟨a, ln, cap, v, e, c0, c1, c2, c3, d0, d1, d2, d3, f0, f1, f2, f3, hfin⟩ := hgo.result (fun k e => by cases e)
      have HF := Lib.hid hfin
      clear hfin hgo
      subst e
      go_wp2
      obtain ⟨hm, g1, g2⟩ := HF.out _ rfl
      refine bodyPost_ret (v := .agg #[.int .i64 X, .int .i64 Y, .bool r, .slice a ln cap]) (by simp [results, Try.results60, go_sem, *]) rfl hm

theorem Own.zero4 {w : World} {B : Nat} (R : Own w B 37 #[.int .i64 0, .int .i64 0, .bool false, .slice none 0 0]) :
    w.cell? ⟨B, 0, none⟩ = some (.int .i64 0) ∧ w.cell? ⟨B, 1, none⟩ = some (.int .i64 0) ∧ w.cell? ⟨B, 2, none⟩ = some (.bool false) ∧ w.cell? ⟨B, 3, none⟩ = some (.slice none 0 0) ∧ w.frozen? ⟨B, 0, none⟩ = false ∧ w.frozen? ⟨B, 1, none⟩ = false ∧ w.frozen? ⟨B, 2, none⟩ = false ∧ w.frozen? ⟨B, 3, none⟩ = false :=
  ⟨R.cell 0, R.cell 1, R.cell 2, R.cell 3, R.frozen 0, R.frozen 1, R.frozen 2, R.frozen 3⟩

theorem FOwn.res4 {W w : World} {base B : Nat} {v : Value} {vs : List Nat} (h : FOwn w base v vs) (hB : B < base) (t0 t1 t2 t3 : Value) :
    FOwn ((((w.setCell ⟨B, 0, none⟩ t0).setCell ⟨B, 1, none⟩ t1).setCell ⟨B, 2, none⟩ t2).setCell ⟨B, 3, none⟩ t3) base v vs :=
  h.other (grown_setCell (grown_setCell (grown_setCell (grown_setCell (grown_refl w (some B)) ⟨B, 0, none⟩ t0 (.inr rfl)) ⟨B, 1, none⟩ t1 (.inr rfl)) ⟨B, 2, none⟩ t2 (.inr rfl)) ⟨B, 3, none⟩ t3 (.inr rfl)) (by
    cases e : v.ownBlock with
    | none => exact .inl rfl
    | some k => exact .inr (fun e2 => by have := (h.lt k e).1; simp at e2; omega))
theorem below_res4 {W w : World} {B : Nat} (K : Below W.heap.size W w) (hB : W.heap.size ≤ B) (t0 t1 t2 t3 : Value) :
    Below W.heap.size W ((((w.setCell ⟨B, 0, none⟩ t0).setCell ⟨B, 1, none⟩ t1).setCell ⟨B, 2, none⟩ t2).setCell ⟨B, 3, none⟩ t3) :=
  (((K.setCell (by simp; omega) _).setCell (by simp; omega) _).setCell (by simp; omega) _).setCell (by simp; omega) _

set_option maxHeartbeats 1000000 in
theorem spec_FlatField_yes (X Y : Nat) (r : Bool) (b : Nat) (w : World) (hs : sizeB X Y = true) :
    Calls Try.prog 27 #[.int .i64 X, .int .i64 Y, .bool r, .float .f32 b] w (FieldOut X Y r true (X * Y) (fun _ => b) w) := by
  have K := keep_own w (.cells #[.int .i64 0, .int .i64 0, .bool false, .slice none 0 0] 37)
  obtain ⟨⟨hx1, hx2⟩, hy1, hy2⟩ := size_bounds hs
  have HS := Lib.hid hs
  clear hs
  go_enter Try.func27, Try.ntmps27
  go_wp2_with fail
  refine (spec_l02Size_is HS.out _).mono ?_
  rintro e w1 ⟨rfl, rfl⟩
  go_wp2_with fail
  refine (spec_l02Flat X Y r b _ (by omega) (by omega)).mono ?_
  rintro e w2 ⟨v, vs, rfl, g, h, hn, hv⟩
  have k := below_of_grown g
  obtain ⟨d0, d1, d2, d3, f0, f1, f2, f3⟩ := ((Own.alloc w 37 #[.int .i64 0, .int .i64 0, .bool false, .slice none 0 0]).below k (by simp)).zero4
  obtain ⟨a, cap, rfl, _⟩ := h.value
  have HH := Lib.hid h
  have HK := Lib.hid (keep_trans K k)
  clear g h k K
  go_wp2
  refine bodyPost_ret (v := .tuple #[.agg #[.int .i64 X, .int .i64 Y, .bool r, .slice a vs.length cap], .bool true]) (by simp [results, Try.results27, go_sem, *]) rfl
    (FieldOut.yes (below_res4 HK.out (Nat.le_refl _) _ _ _ _) ((FOwn.res4 (W := w) HH.out (by simp) _ _ _ _).base (by simp)) hn hv)

theorem spec_FlatField_no (x y : Int) (r : Bool) (b : Nat) (V : Nat → Nat) (w : World) (hs : sizeB x y = false) :
    Calls Try.prog 27 #[.int .i64 x, .int .i64 y, .bool r, .float .f32 b] w (FieldOut 0 0 false false 0 V w) := by
  have K := keep_own w (.cells #[.int .i64 0, .int .i64 0, .bool false, .slice none 0 0] 37)
  have HS := Lib.hid hs
  clear hs
  go_enter Try.func27, Try.ntmps27
  go_wp2_with fail
  refine (spec_l02Size_is HS.out _).mono ?_
  rintro e w1 ⟨rfl, rfl⟩
  go_wp2
  refine bodyPost_ret (v := .tuple #[.agg #[.int .i64 0, .int .i64 0, .bool false, .slice none 0 0], .bool false]) (by simp [results, Try.results27, go_sem, *]) rfl (FieldOut.no _ _ _ K)

/-- The closure of FlatField. -/
theorem flat_fn (x y : Int) (b : Nat) (p : Addr) (w : World) (hp : w.cell? p = some (.float .f32 b)) :
    Calls Try.prog 62 #[.int .i64 x, .int .i64 y, .pointer (some p)] w fun e w' => e = .returned (.float .f32 b) ∧ w' = w := by
  go_enter Try.func62, Try.ntmps62
  go_wp2
  go_ret
  exact ⟨rfl, rfl⟩

set_option maxHeartbeats 1000000 in
theorem impl_FlatField_yes (X Y : Nat) (r : Bool) (b : Nat) (w : World) (hs : sizeB X Y = true) :
    Calls Try.prog 28 #[.int .i64 X, .int .i64 Y, .bool r, .float .f32 b] w (FieldOut X Y r true (X * Y) (fun _ => b) w) := by
  have hmf : ∀ (fn : Fn) (first cap : Array Value) (w : World), (Instr.makeFunc fn first cap).run Try.prog w = .ok (.func fn first cap) w := fun _ _ _ _ => rfl
  obtain ⟨⟨hx1, hx2⟩, hy1, hy2⟩ := size_bounds hs
  have hall : Hid (allIn (fun i => [(X : Int), (Y : Int)].getD i 0) 1 16 2 = true) := Lib.hid (by rw [← hs]; simp [allIn, sizeB])
  clear hs
  go_enter Try.func28, Try.ntmps28
  go_wp2_with fail
  refine (impl_areWithin 1 16 _ 2 2 (fun i => [(X : Int), (Y : Int)].getD i 0) _ ⟨.inr ⟨_, 0, rfl, by simp, ?_⟩⟩ (by omega)).mono ?_
  · intro i hi
    have : i = 0 ∨ i = 1 := by omega
    rcases this with rfl | rfl <;> go_simp
  rintro e w1 ⟨rfl, hb⟩
  rw [hall.out]
  have K1 := keep_trans (keep_trans (keep_trans (keep_own w (.cells #[.float .f32 b] 41)) (keep_own _ (.cells #[.int .i64 0, .int .i64 0, .bool false, .slice none 0 0] 37))) (keep_own _ (.cells #[.int .i64 X, .int .i64 Y] 2))) hb
  have R1 : Own w1 (w.heap.size + 1) 37 #[.int .i64 0, .int .i64 0, .bool false, .slice none 0 0] := by
    have := ((Own.alloc (w.alloc (.cells #[.float .f32 b] 41)) 37 #[.int .i64 0, .int .i64 0, .bool false, .slice none 0 0]).alloc_later (.cells #[.int .i64 X, .int .i64 Y] 2)).below hb (by simp)
    simpa using this
  have B1 : Own w1 w.heap.size 41 #[.float .f32 b] := (((Own.alloc w 41 #[.float .f32 b]).alloc_later _).alloc_later _).below hb (by simp; omega)
  have hsz := R1.lt
  have HR := Lib.hid R1
  have HB := Lib.hid B1
  have HK := Lib.hid K1
  clear hb R1 B1 K1 hall
  go_wp2_with fail
  refine (impl_made X Y r 62 #[.pointer (some ⟨w.heap.size, 0, none⟩)] (fun _ => b) none (fun _ _ => True) _ (enters_of Try.func62 (by kernel_rfl) rfl) (by omega) (by omega) (fun k e => by cases e) trivial (fun _ _ _ _ _ _ _ => trivial) ?_).mono ?_
  · intro xx yy w2 hxx hyy g _
    refine (flat_fn xx yy b ⟨w.heap.size, 0, none⟩ w2 ?_).mono ?_
    · rw [((HB.out).grown g (by simp)).cell]; rfl
    · rintro e w3 ⟨rfl, rfl⟩
      exact ⟨b, rfl, Same.refl _ _, grown_refl _ _, trivial⟩
  rintro e w2 ⟨⟨v, vs, rfl, g, h, hn, hv⟩, _⟩
  have k := below_of_grown g
  obtain ⟨d0, d1, d2, d3, f0, f1, f2, f3⟩ := (HR.out.below k hsz).zero4
  obtain ⟨a, cap, rfl, _⟩ := h.value
  have HH := Lib.hid h
  have HK2 := Lib.hid (keep_trans HK.out k)
  clear g h k HK
  go_wp2
  refine bodyPost_ret (v := .tuple #[.agg #[.int .i64 X, .int .i64 Y, .bool r, .slice a vs.length cap], .bool true]) (by simp [results, Try.results28, go_sem, *]) rfl
    (FieldOut.yes (below_res4 HK2.out (by omega) _ _ _ _) ((FOwn.res4 (W := w) HH.out (by omega) _ _ _ _).base (by omega)) hn hv)

set_option maxHeartbeats 1000000 in
theorem impl_FlatField_no (x y : Int) (r : Bool) (b : Nat) (V : Nat → Nat) (w : World) (hs : sizeB x y = false) :
    Calls Try.prog 28 #[.int .i64 x, .int .i64 y, .bool r, .float .f32 b] w (FieldOut 0 0 false false 0 V w) := by
  have hall : Hid (allIn (fun i => [x, y].getD i 0) 1 16 2 = false) := Lib.hid (by rw [← hs]; simp [allIn, sizeB])
  clear hs
  go_enter Try.func28, Try.ntmps28
  go_wp2_with fail
  refine (impl_areWithin 1 16 _ 2 2 (fun i => [x, y].getD i 0) _ ⟨.inr ⟨_, 0, rfl, by simp, ?_⟩⟩ (by omega)).mono ?_
  · intro i hi
    have : i = 0 ∨ i = 1 := by omega
    rcases this with rfl | rfl <;> go_simp
  rintro e w1 ⟨rfl, hb⟩
  rw [hall.out]
  have K1 := keep_trans (keep_trans (keep_trans (keep_own w (.cells #[.float .f32 b] 41)) (keep_own _ (.cells #[.int .i64 0, .int .i64 0, .bool false, .slice none 0 0] 37))) (keep_own _ (.cells #[.int .i64 x, .int .i64 y] 2))) hb
  have R1 : Own w1 (w.heap.size + 1) 37 #[.int .i64 0, .int .i64 0, .bool false, .slice none 0 0] := by
    have := ((Own.alloc (w.alloc (.cells #[.float .f32 b] 41)) 37 #[.int .i64 0, .int .i64 0, .bool false, .slice none 0 0]).alloc_later (.cells #[.int .i64 x, .int .i64 y] 2)).below hb (by simp)
    simpa using this
  obtain ⟨d0, d1, d2, d3, f0, f1, f2, f3⟩ := R1.zero4
  have HK := Lib.hid K1
  clear hb R1 K1 hall
  go_wp2
  refine bodyPost_ret (v := .tuple #[.agg #[.int .i64 0, .int .i64 0, .bool false, .slice none 0 0], .bool false]) (by simp [results, Try.results28, go_sem, *]) rfl (FieldOut.no _ _ _ (below_res4 HK.out (by omega) _ _ _ _))

end Go.Proofs.Ytbcocjakpnhmaaa
