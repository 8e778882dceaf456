/- Contracts on fields, second part: what the laws do with them. Under no condition. -/
import Derived.Test.YtbcocjakpnhmaaaFd
namespace Go.Proofs.Ytbcocjakpnhmaaa
open Go Go.RowKit
set_option linter.unusedVariables false
set_option linter.unusedSimpArgs false

theorem spec_ValidField (x y : Int) (r : Bool) (a : Option Addr) (len cap : Nat) (w : World) (hl : len ≤ 9223372036854775807) :
    Calls Try.prog 23 #[.agg #[.int .i64 x, .int .i64 y, .bool r, .slice a len cap]] w fun e w' => e = .returned (.bool (validB x y len)) ∧ Below w.heap.size w w' := by
  go_enter Try.func23, Try.ntmps23
  go_wp2_with fail
  refine (spec_l02Is _ x y r a len cap _ ⟨by simp, by go_simp, by go_simp, by go_simp, by go_simp⟩ hl).mono ?_
  rintro e w' ⟨n, rfl, rfl⟩
  go_wp2
  go_ret
  exact ⟨rfl, keep_drewN ((Below.refl _ _).alloc (Nat.le_refl _) _) _⟩

theorem impl_ValidField (x y : Int) (r : Bool) (a : Option Addr) (len cap : Nat) (w : World) (hl : len ≤ 9223372036854775807) :
    Calls Try.prog 25 #[.agg #[.int .i64 x, .int .i64 y, .bool r, .slice a len cap]] w fun e w' => e = .returned (.bool (validB x y len)) ∧ Below w.heap.size w w' := by
  have hall : Hid (allIn (fun i => [x, y].getD i 0) 1 16 2 = sizeB x y) := Lib.hid (by simp [allIn, sizeB])
  go_enter Try.func25, Try.ntmps25
  go_wp2_with fail
  refine (impl_areWithin 1 16 _ 2 2 (fun i => [x, y].getD i 0) _ ⟨.inr ⟨_, 0, rfl, by simp, ?_⟩⟩ (by omega)).mono ?_
  · intro i hi
    have : i = 0 ∨ i = 1 := by omega
    rcases this with rfl | rfl <;> go_simp
  rintro e w1 ⟨rfl, hb⟩
  rw [hall.out]
  have c0 : w1.cell? ⟨w.heap.size, 0, none⟩ = some (.int .i64 x) := (hb.cell (p := ⟨w.heap.size, 0, none⟩) (by simp; omega)).trans (by go_simp)
  have c1 : w1.cell? ⟨w.heap.size, 1, none⟩ = some (.int .i64 y) := (hb.cell (p := ⟨w.heap.size, 1, none⟩) (by simp; omega)).trans (by go_simp)
  have c3 : w1.cell? ⟨w.heap.size, 3, none⟩ = some (.slice a len cap) := (hb.cell (p := ⟨w.heap.size, 3, none⟩) (by simp; omega)).trans (by go_simp)
  have K : Below w.heap.size w w1 := keep_trans (((Below.refl _ _).alloc (Nat.le_refl _) _).alloc (by simp) _) hb
  clear hall hb
  cases hs : sizeB x y with
  | true =>
    obtain ⟨⟨hx1, hx2⟩, hy1, hy2⟩ := size_bounds hs
    have hm1 : 0 ≤ x * y := Int.mul_nonneg (by omega) (by omega)
    have hm2 : x * y ≤ 16 * 16 := Int.mul_le_mul hx2 hy2 (by omega) (by omega)
    have e : Hid (validB x y len = ((len : Int) == x * y)) := Lib.hid (by simp [validB, hs]; rfl)
    clear hs
    go_wp2
    go_ret
    exact ⟨ret_bool e.out.symm, K⟩
  | false =>
    have e : Hid (validB x y len = false) := Lib.hid (by simp [validB, hs])
    clear hs
    go_wp2
    go_ret
    exact ⟨ret_bool e.out.symm, K⟩

/-- How much of 2^20 a list leaves. -/
def leftV (len : Nat) : Int := if len ≤ 1048576 then 1048576 - len else -1

theorem laws_szFloat32S (a : Option Addr) (len cap : Nat) (w : World) (hl : len ≤ 9223372036854775807) :
    Calls Try.prog 55 #[.slice a len cap, .int .i64 1048576] w fun e w' => e = .returned (.int .i64 (leftV len)) ∧ w = w' := by
  by_cases h : len ≤ 1048576
  · have e : leftV len = 1048576 - len := by simp [leftV, h]
    rw [e]
    go_enter Try.func55, Try.ntmps55
    go_wp2
    go_ret
    exact ⟨rfl, rfl⟩
  · have e : leftV len = -1 := by simp [leftV, h]
    rw [e]
    go_enter Try.func55, Try.ntmps55
    go_wp2
    go_ret
    exact ⟨rfl, rfl⟩

theorem laws_szField (x y : Int) (r : Bool) (a : Option Addr) (len cap : Nat) (w : World) (hl : len ≤ 9223372036854775807) :
    Calls Try.prog 22 #[.agg #[.int .i64 x, .int .i64 y, .bool r, .slice a len cap], .int .i64 1048576] w fun e w' => e = .returned (.int .i64 (leftV len)) ∧ Below w.heap.size w w' := by
  by_cases h : len ≤ 1048576
  · have e : leftV len = 1048576 - len := by simp [leftV, h]
    have e2 := Lib.hid e
    clear e
    go_enter Try.func22, Try.ntmps22
    go_wp2_with (first | (go_at_call 55; refine (laws_szFloat32S _ _ _ _ hl).mono ?_; rintro e w' ⟨rfl, rfl⟩; rw [e2.out]))
    go_ret
    exact ⟨ret_i64 e2.out.symm, (Below.refl _ _).alloc (Nat.le_refl _) _⟩
  · have e : leftV len = -1 := by simp [leftV, h]
    have e2 := Lib.hid e
    clear e
    go_enter Try.func22, Try.ntmps22
    go_wp2_with (first | (go_at_call 55; refine (laws_szFloat32S _ _ _ _ hl).mono ?_; rintro e w' ⟨rfl, rfl⟩; rw [e2.out]))
    go_ret
    exact ⟨ret_i64 e2.out.symm, (Below.refl _ _).alloc (Nat.le_refl _) _⟩

/-- A field's copy, its list in a block of its own from block n on. -/
def FieldCopy (x y : Int) (r : Bool) (V : Nat → Value) (len : Nat) (w : World) (e : Ending) (w' : World) : Prop :=
  ∃ B cur, e = .returned (.agg #[.int .i64 x, .int .i64 y, .bool r, .slice (some ⟨B, 0, none⟩) len len]) ∧ Below w.heap.size w w' ∧ w.heap.size ≤ B ∧ Own w' B 41 cur ∧ cur.size = len ∧ ∀ i, i < len → cur[i]? = some (V i)

theorem laws_toField (x y : Int) (r : Bool) (a : Option Addr) (len cap : Nat) (xs : List Nat) (w : World) (hs : Holds w a len (fvals .f32 xs)) (hl : len ≤ 1048576) :
    Calls Try.prog 24 #[.agg #[.int .i64 x, .int .i64 y, .bool r, .slice a len cap]] w (FieldCopy x y r (fvals .f32 xs) len w) := by
  go_enter Try.func24, Try.ntmps24
  go_wp2_with fail
  refine (laws_toFloat32S a len cap xs _ (hs.below ((((Below.refl w.heap.size w).alloc (Nat.le_refl _) _).alloc (by simp) _).alloc (by simp; omega) _) (Nat.le_refl _)) hl).mono ?_
  rintro e w1 ⟨rfl, hb, cur, ho, hz, hc⟩
  have f : ∀ b i : Nat, b < w.heap.size + 1 + 1 + 1 → _ := fun b i (h : b < w.heap.size + 1 + 1 + 1) => hb.cell (p := ⟨b, i, none⟩) (by simpa using h)
  have g : ∀ b i : Nat, b < w.heap.size + 1 + 1 + 1 → _ := fun b i (h : b < w.heap.size + 1 + 1 + 1) => hb.frozen (p := ⟨b, i, none⟩) (by simpa using h)
  have c20 : w1.cell? ⟨w.heap.size + 1 + 1, 0, none⟩ = some (.int .i64 x) := (f _ 0 (by omega)).trans (by go_simp)
  have c21 : w1.cell? ⟨w.heap.size + 1 + 1, 1, none⟩ = some (.int .i64 y) := (f _ 1 (by omega)).trans (by go_simp)
  have c22 : w1.cell? ⟨w.heap.size + 1 + 1, 2, none⟩ = some (.bool r) := (f _ 2 (by omega)).trans (by go_simp)
  have c23 : w1.cell? ⟨w.heap.size + 1 + 1, 3, none⟩ = some (.slice none 0 0) := (f _ 3 (by omega)).trans (by go_simp)
  have c10 : w1.cell? ⟨w.heap.size + 1, 0, none⟩ = some (.int .i64 0) := (f _ 0 (by omega)).trans (by go_simp)
  have c11 : w1.cell? ⟨w.heap.size + 1, 1, none⟩ = some (.int .i64 0) := (f _ 1 (by omega)).trans (by go_simp)
  have c12 : w1.cell? ⟨w.heap.size + 1, 2, none⟩ = some (.bool false) := (f _ 2 (by omega)).trans (by go_simp)
  have c13 : w1.cell? ⟨w.heap.size + 1, 3, none⟩ = some (.slice none 0 0) := (f _ 3 (by omega)).trans (by go_simp)
  have z23 : w1.frozen? ⟨w.heap.size + 1 + 1, 3, none⟩ = false := (g _ 3 (by omega)).trans (by go_simp)
  have z10 : w1.frozen? ⟨w.heap.size + 1, 0, none⟩ = false := (g _ 0 (by omega)).trans (by go_simp)
  have z11 : w1.frozen? ⟨w.heap.size + 1, 1, none⟩ = false := (g _ 1 (by omega)).trans (by go_simp)
  have z12 : w1.frozen? ⟨w.heap.size + 1, 2, none⟩ = false := (g _ 2 (by omega)).trans (by go_simp)
  have z13 : w1.frozen? ⟨w.heap.size + 1, 3, none⟩ = false := (g _ 3 (by omega)).trans (by go_simp)
  have hsize : w.heap.size + 1 + 1 + 1 < w1.heap.size := by have := ho.lt; simpa using this
  have HO := Lib.hid ho
  have HZ := Lib.hid hz
  have HC := Lib.hid hc
  have HB := Lib.hid hb
  clear f g hb ho hz hc hs
  go_wp2
  refine bodyPost_ret (v := .agg #[.int .i64 x, .int .i64 y, .bool r, .slice (some ⟨w.heap.size + 1 + 1 + 1, 0, none⟩) len len]) (by simp [results, Try.results24, go_sem, *]) rfl
    ⟨w.heap.size + 1 + 1 + 1, cur, rfl, ?_, by omega, ?_, HZ.out, HC.out⟩
  · have K := keep_trans ((((Below.refl w.heap.size w).alloc (Nat.le_refl _) _).alloc (by simp) _).alloc (by simp; omega) _) HB.out
    exact ((((K.setCell (by simp; omega) _).setCell (by simp) _).setCell (by simp) _).setCell (by simp) _).setCell (by simp) _
  · have h : Own w1 (w.heap.size + 1 + 1 + 1) 41 cur := by simpa using HO.out
    exact ((((h.other (by simp) _).other (by simp) _).other (by simp) _).other (by simp) _).other (by simp) _

theorem laws_eqField (x y : Int) (r : Bool) (a b : Option Addr) (len cap cap' : Nat) (xs ys : List Nat) (w : World) (hx : Holds w a len (fvals .f32 xs)) (hy : Holds w b len (fvals .f32 ys)) (hl : len ≤ 1048576)
    (hsame : ∀ i, i < len → Same .f32 (xs.getD i 0) (ys.getD i 0)) :
    Calls Try.prog 26 #[.agg #[.int .i64 x, .int .i64 y, .bool r, .slice a len cap], .agg #[.int .i64 x, .int .i64 y, .bool r, .slice b len cap']] w fun e w' => e = .returned (.bool true) ∧ Below w.heap.size w w' := by
  have K : Below w.heap.size w ((w.alloc (.cells #[.int .i64 x, .int .i64 y, .bool r, .slice a len cap] 37)).alloc (.cells #[.int .i64 x, .int .i64 y, .bool r, .slice b len cap'] 37)) := ((Below.refl _ _).alloc (Nat.le_refl _) _).alloc (by simp) _
  have hx' := hx.keep K
  have hy' := hy.keep K
  have e1 : (x != x) = false := by simp
  have e2 : (y != y) = false := by simp
  have e3 : (r != r) = false := by simp
  clear hx hy
  go_enter Try.func26, Try.ntmps26
  go_wp2_with fail
  refine (laws_eqFloat32S _ _ len _ _ xs ys _ hx' hy' hl hsame).mono ?_
  rintro e w' ⟨n, rfl, rfl⟩
  go_wp2
  go_ret
  exact ⟨rfl, keep_drewN K _⟩

end Go.Proofs.Ytbcocjakpnhmaaa
