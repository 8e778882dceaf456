/- Discs: the program's DiscField, both ways. Under no condition. -/
import Derived.Test.YtcnamhmoocdccaaDc
namespace Go.Proofs.Ytcnamhmoocdccaa
open Go Go.RowKit
set_option linter.unusedVariables false
set_option linter.unusedSimpArgs false

structure DiscBoxes (w0 w : World) (X Y : Int) (r : Bool) (x y rad : Nat) : Prop where
  b0 : Own w (w0.heap.size) 2 #[.int .i64 X]
  b1 : Own w (w0.heap.size + 1) 2 #[.int .i64 Y]
  b2 : Own w (w0.heap.size + 1 + 1) 4 #[.bool r]
  b3 : Own w (w0.heap.size + 1 + 1 + 1) 27 #[.float .f32 x]
  b4 : Own w (w0.heap.size + 1 + 1 + 1 + 1) 27 #[.float .f32 y]
  b5 : Own w (w0.heap.size + 1 + 1 + 1 + 1 + 1) 27 #[.float .f32 rad]
  b6 : Own w (w0.heap.size + 1 + 1 + 1 + 1 + 1 + 1) 46 #[.int .i64 0, .int .i64 0, .bool false, .slice none 0 0]
theorem DiscBoxes.mk8 (w : World) (X Y : Int) (r : Bool) (x y rad : Nat) : DiscBoxes w ((((((((w.alloc (.cells #[.int .i64 X] 2)).alloc (.cells #[.int .i64 Y] 2)).alloc (.cells #[.bool r] 4)).alloc (.cells #[.float .f32 x] 27)).alloc (.cells #[.float .f32 y] 27)).alloc (.cells #[.float .f32 rad] 27)).alloc (.cells #[.int .i64 0, .int .i64 0, .bool false, .slice none 0 0] 46)).alloc (.cells #[.int .i64 X, .int .i64 Y] 2)) X Y r x y rad := by
  have s1 : (w.alloc (.cells #[.int .i64 X] 2)).heap.size = w.heap.size + 1 := by simp
  have s2 : ((w.alloc (.cells #[.int .i64 X] 2)).alloc (.cells #[.int .i64 Y] 2)).heap.size = w.heap.size + 1 + 1 := by simp
  have s3 : (((w.alloc (.cells #[.int .i64 X] 2)).alloc (.cells #[.int .i64 Y] 2)).alloc (.cells #[.bool r] 4)).heap.size = w.heap.size + 1 + 1 + 1 := by simp
  have s4 : ((((w.alloc (.cells #[.int .i64 X] 2)).alloc (.cells #[.int .i64 Y] 2)).alloc (.cells #[.bool r] 4)).alloc (.cells #[.float .f32 x] 27)).heap.size = w.heap.size + 1 + 1 + 1 + 1 := by simp
  have s5 : (((((w.alloc (.cells #[.int .i64 X] 2)).alloc (.cells #[.int .i64 Y] 2)).alloc (.cells #[.bool r] 4)).alloc (.cells #[.float .f32 x] 27)).alloc (.cells #[.float .f32 y] 27)).heap.size = w.heap.size + 1 + 1 + 1 + 1 + 1 := by simp
  have s6 : ((((((w.alloc (.cells #[.int .i64 X] 2)).alloc (.cells #[.int .i64 Y] 2)).alloc (.cells #[.bool r] 4)).alloc (.cells #[.float .f32 x] 27)).alloc (.cells #[.float .f32 y] 27)).alloc (.cells #[.float .f32 rad] 27)).heap.size = w.heap.size + 1 + 1 + 1 + 1 + 1 + 1 := by simp
  have s7 : (((((((w.alloc (.cells #[.int .i64 X] 2)).alloc (.cells #[.int .i64 Y] 2)).alloc (.cells #[.bool r] 4)).alloc (.cells #[.float .f32 x] 27)).alloc (.cells #[.float .f32 y] 27)).alloc (.cells #[.float .f32 rad] 27)).alloc (.cells #[.int .i64 0, .int .i64 0, .bool false, .slice none 0 0] 46)).heap.size = w.heap.size + 1 + 1 + 1 + 1 + 1 + 1 + 1 := by simp
  refine ⟨?_, ?_, ?_, ?_, ?_, ?_, ?_⟩
  · have h := ((((((((Own.alloc w 2 #[.int .i64 X]).alloc_later (.cells #[.int .i64 Y] 2)).alloc_later (.cells #[.bool r] 4)).alloc_later (.cells #[.float .f32 x] 27)).alloc_later (.cells #[.float .f32 y] 27)).alloc_later (.cells #[.float .f32 rad] 27)).alloc_later (.cells #[.int .i64 0, .int .i64 0, .bool false, .slice none 0 0] 46)).alloc_later (.cells #[.int .i64 X, .int .i64 Y] 2))
    exact h
  · have h := (((((((Own.alloc (w.alloc (.cells #[.int .i64 X] 2)) 2 #[.int .i64 Y]).alloc_later (.cells #[.bool r] 4)).alloc_later (.cells #[.float .f32 x] 27)).alloc_later (.cells #[.float .f32 y] 27)).alloc_later (.cells #[.float .f32 rad] 27)).alloc_later (.cells #[.int .i64 0, .int .i64 0, .bool false, .slice none 0 0] 46)).alloc_later (.cells #[.int .i64 X, .int .i64 Y] 2))
    rwa [s1] at h
  · have h := ((((((Own.alloc ((w.alloc (.cells #[.int .i64 X] 2)).alloc (.cells #[.int .i64 Y] 2)) 4 #[.bool r]).alloc_later (.cells #[.float .f32 x] 27)).alloc_later (.cells #[.float .f32 y] 27)).alloc_later (.cells #[.float .f32 rad] 27)).alloc_later (.cells #[.int .i64 0, .int .i64 0, .bool false, .slice none 0 0] 46)).alloc_later (.cells #[.int .i64 X, .int .i64 Y] 2))
    rwa [s2] at h
  · have h := (((((Own.alloc (((w.alloc (.cells #[.int .i64 X] 2)).alloc (.cells #[.int .i64 Y] 2)).alloc (.cells #[.bool r] 4)) 27 #[.float .f32 x]).alloc_later (.cells #[.float .f32 y] 27)).alloc_later (.cells #[.float .f32 rad] 27)).alloc_later (.cells #[.int .i64 0, .int .i64 0, .bool false, .slice none 0 0] 46)).alloc_later (.cells #[.int .i64 X, .int .i64 Y] 2))
    rwa [s3] at h
  · have h := ((((Own.alloc ((((w.alloc (.cells #[.int .i64 X] 2)).alloc (.cells #[.int .i64 Y] 2)).alloc (.cells #[.bool r] 4)).alloc (.cells #[.float .f32 x] 27)) 27 #[.float .f32 y]).alloc_later (.cells #[.float .f32 rad] 27)).alloc_later (.cells #[.int .i64 0, .int .i64 0, .bool false, .slice none 0 0] 46)).alloc_later (.cells #[.int .i64 X, .int .i64 Y] 2))
    rwa [s4] at h
  · have h := (((Own.alloc (((((w.alloc (.cells #[.int .i64 X] 2)).alloc (.cells #[.int .i64 Y] 2)).alloc (.cells #[.bool r] 4)).alloc (.cells #[.float .f32 x] 27)).alloc (.cells #[.float .f32 y] 27)) 27 #[.float .f32 rad]).alloc_later (.cells #[.int .i64 0, .int .i64 0, .bool false, .slice none 0 0] 46)).alloc_later (.cells #[.int .i64 X, .int .i64 Y] 2))
    rwa [s5] at h
  · have h := ((Own.alloc ((((((w.alloc (.cells #[.int .i64 X] 2)).alloc (.cells #[.int .i64 Y] 2)).alloc (.cells #[.bool r] 4)).alloc (.cells #[.float .f32 x] 27)).alloc (.cells #[.float .f32 y] 27)).alloc (.cells #[.float .f32 rad] 27)) 46 #[.int .i64 0, .int .i64 0, .bool false, .slice none 0 0]).alloc_later (.cells #[.int .i64 X, .int .i64 Y] 2))
    rwa [s6] at h
theorem DiscBoxes.below {w0 w w' : World} {X Y : Int} {r : Bool} {x y rad : Nat} (h : DiscBoxes w0 w X Y r x y rad) (k : Below w.heap.size w w') : DiscBoxes w0 w' X Y r x y rad :=
  ⟨h.b0.below k h.b0.lt, h.b1.below k h.b1.lt, h.b2.below k h.b2.lt, h.b3.below k h.b3.lt, h.b4.below k h.b4.lt, h.b5.below k h.b5.lt, h.b6.below k h.b6.lt⟩
theorem DiscBoxes.alloc {w0 w : World} {X Y : Int} {r : Bool} {x y rad : Nat} (h : DiscBoxes w0 w X Y r x y rad) (o : Obj) : DiscBoxes w0 (w.alloc o) X Y r x y rad :=
  ⟨h.b0.alloc_later o, h.b1.alloc_later o, h.b2.alloc_later o, h.b3.alloc_later o, h.b4.alloc_later o, h.b5.alloc_later o, h.b6.alloc_later o⟩
theorem DiscBoxes.drewN {w0 w : World} {X Y : Int} {r : Bool} {x y rad : Nat} (h : DiscBoxes w0 w X Y r x y rad) (n : Nat) : DiscBoxes w0 (w.drewN n) X Y r x y rad :=
  ⟨h.b0.drewN n, h.b1.drewN n, h.b2.drewN n, h.b3.drewN n, h.b4.drewN n, h.b5.drewN n, h.b6.drewN n⟩
theorem DiscBoxes.cells {w0 w : World} {X Y : Int} {r : Bool} {x y rad : Nat} (h : DiscBoxes w0 w X Y r x y rad) :
    w.cell? ⟨w0.heap.size, 0, none⟩ = some (.int .i64 X) ∧ w.cell? ⟨w0.heap.size + 1, 0, none⟩ = some (.int .i64 Y) ∧ w.cell? ⟨w0.heap.size + 1 + 1, 0, none⟩ = some (.bool r) ∧ w.cell? ⟨w0.heap.size + 1 + 1 + 1, 0, none⟩ = some (.float .f32 x) ∧ w.cell? ⟨w0.heap.size + 1 + 1 + 1 + 1, 0, none⟩ = some (.float .f32 y) ∧ w.cell? ⟨w0.heap.size + 1 + 1 + 1 + 1 + 1, 0, none⟩ = some (.float .f32 rad) :=
  ⟨by rw [h.b0.cell]; rfl, by rw [h.b1.cell]; rfl, by rw [h.b2.cell]; rfl, by rw [h.b3.cell]; rfl, by rw [h.b4.cell]; rfl, by rw [h.b5.cell]; rfl⟩
theorem keep_chain (w : World) (o0 o1 o2 o3 o4 o5 o6 o7 : Obj) : Below w.heap.size w ((((((((w.alloc o0).alloc o1).alloc o2).alloc o3).alloc o4).alloc o5).alloc o6).alloc o7) :=
  keep_trans (keep_trans (keep_trans (keep_trans (keep_trans (keep_trans (keep_trans (keep_own w o0) (keep_own _ o1)) (keep_own _ o2)) (keep_own _ o3)) (keep_own _ o4)) (keep_own _ o5)) (keep_own _ o6)) (keep_own _ o7)
theorem fin3 (x y rad : Nat) : finL [x, y, rad] 3 = (finB .f32 x && finB .f32 y && finB .f32 rad) := by simp [finL]

set_option maxRecDepth 4000 in
set_option maxHeartbeats 2000000 in
theorem impl_DiscField_yes (X Y : Nat) (r : Bool) (x y rad : Nat) (w : World) (hv : discB X Y x y rad = true) :
    Calls Try.prog 28 #[.int .i64 X, .int .i64 Y, .bool r, .float .f32 x, .float .f32 y, .float .f32 rad] w (FieldOut X Y r true (X * Y) (discV X Y r x y rad) w) := by
  have hv' : ((sizeB X Y = true ∧ finB .f32 x = true) ∧ finB .f32 y = true) ∧ finB .f32 rad = true := by simpa [discB] using hv
  have hsz0 := hv'.1.1.1
  obtain ⟨⟨hx1, hx2⟩, hy1, hy2⟩ := size_bounds hsz0
  have HS := Lib.hid hsz0
  have HF : Hid (finL [x, y, rad] 3 = true) := Lib.hid (by rw [fin3, hv'.1.1.2, hv'.1.2, hv'.2]; rfl)
  have hX16 : X ≤ 16 := by omega
  have hY16 : Y ≤ 16 := by omega
  clear hv hv' hsz0 hx1 hx2 hy1 hy2
  have hmf : ∀ (fn : Fn) (first cap : Array Value) (w : World), (Instr.makeFunc fn first cap).run Try.prog w = .ok (.func fn first cap) w := fun _ _ _ _ => rfl
  have K0 := keep_chain w (.cells #[.int .i64 X] 2) (.cells #[.int .i64 Y] 2) (.cells #[.bool r] 4) (.cells #[.float .f32 x] 27) (.cells #[.float .f32 y] 27) (.cells #[.float .f32 rad] 27) (.cells #[.int .i64 0, .int .i64 0, .bool false, .slice none 0 0] 46) (.cells #[.int .i64 X, .int .i64 Y] 2)
  have D0 := DiscBoxes.mk8 w X Y r x y rad
  have hall : Hid (allIn (fun i => [(X : Int), (Y : Int)].getD i 0) 1 16 2 = sizeB X Y) := Lib.hid (by simp [allIn, sizeB])
  go_enter Try.func28, Try.ntmps28
  go_wp2_with fail
  refine (impl_areWithin 1 16 _ 2 2 (fun i => [(X : Int), (Y : Int)].getD i 0) _ ⟨.inr ⟨_, 0, rfl, by simp, ?_⟩⟩ (by omega)).mono ?_
  · intro i hi
    have : i = 0 ∨ i = 1 := by omega
    rcases this with rfl | rfl <;> go_simp
  rintro e w1 ⟨rfl, hb⟩
  rw [hall.out]
  have K1 := keep_trans K0 hb
  have D1 := D0.below hb
  obtain ⟨c0, c1, c2, c3, c4, c5⟩ := D1.cells
  have hsz := D1.b6.lt
  clear hb K0 D0 hall
  rw [HS.out]
  have HD := Lib.hid (D1.alloc (.cells #[.float .f32 x, .float .f32 y, .float .f32 rad] 27))
  have HK := Lib.hid (keep_trans K1 (keep_own w1 (.cells #[.float .f32 x, .float .f32 y, .float .f32 rad] 27)))
  have o1 := Own.alloc w1 27 #[.float .f32 x, .float .f32 y, .float .f32 rad]
  have HH : Hid (Holds (w1.alloc (.cells #[.float .f32 x, .float .f32 y, .float .f32 rad] 27)) (some ⟨w1.heap.size, 0, none⟩) 3 (fvals .f32 [x, y, rad])) := Lib.hid (o1.holds (by
    intro i hi
    have : i = 0 ∨ i = 1 ∨ i = 2 := by omega
    rcases this with rfl | rfl | rfl <;> rfl))
  clear D1 K1 o1
  go_wp2_with fail
  refine (impl_areFinite _ 3 3 [x, y, rad] _ HH.out (by omega)).mono ?_
  rintro e w' ⟨n3, rfl, rfl⟩
  rw [HF.out]
  have HD2 := Lib.hid (HD.out.drewN n3)
  have HK2 := Lib.hid (keep_drewN HK.out n3)
  have hsz2 : w.heap.size + 1 + 1 + 1 + 1 + 1 + 1 < ((w1.alloc (.cells #[.float .f32 x, .float .f32 y, .float .f32 rad] 27)).drewN n3).heap.size := HD2.out.b6.lt
  obtain ⟨q0, q1, q2, q3, q4, q5⟩ := HD2.out.cells
  clear HD HK HH c0 c1 c2 c3 c4 c5
  generalize (w1.alloc (.cells #[.float .f32 x, .float .f32 y, .float .f32 rad] 27)).drewN n3 = w2 at *
  go_wp2_with fail
  refine (impl_made X Y r 65 #[.pointer (some ⟨w.heap.size + 1 + 1 + 1, 0, none⟩), .pointer (some ⟨w.heap.size, 0, none⟩), .pointer (some ⟨w.heap.size + 1 + 1, 0, none⟩), .pointer (some ⟨w.heap.size + 1 + 1 + 1 + 1, 0, none⟩), .pointer (some ⟨w.heap.size + 1, 0, none⟩), .pointer (some ⟨w.heap.size + 1 + 1 + 1 + 1 + 1, 0, none⟩)] (discV X Y r x y rad) none (fun _ _ => True) _ (enters_of Try.func65 (by kernel_rfl) rfl) hX16 hY16 (fun k e => by cases e) trivial (fun _ _ _ _ _ _ _ => trivial) ?_).mono ?_
  · intro xx yy w3 hxx hyy g _
    obtain ⟨t0, t1, t2, t3, t4, t5⟩ := (HD2.out.below (below_of_grown g)).cells
    refine (disc_fn X Y r x y rad xx yy _ _ _ _ _ _ w3 hX16 hY16 t3 t0 t2 t4 t1 t5).mono ?_
    rintro e w4 ⟨n, rfl, rfl⟩
    refine ⟨_, rfl, Same.of_eq ?_, grown_of_below (keep_drewN (Below.refl _ _) n), trivial⟩
    unfold discV
    rw [Nat.add_mul_mod_self_left, Nat.mod_eq_of_lt hxx, Nat.add_mul_div_left _ _ (by omega), Nat.div_eq_of_lt hxx, Nat.zero_add]
  rintro e w3 ⟨⟨v, vs, rfl, g, h, hn, hv⟩, _⟩
  have k := below_of_grown g
  obtain ⟨d0, d1, d2, d3, f0, f1, f2, f3⟩ := (HD2.out.b6.below k hsz2).zero4
  obtain ⟨a1, cp, rfl, _⟩ := h.value
  have HH := Lib.hid h
  have HK3 := Lib.hid (keep_trans HK2.out k)
  clear g h k HK2 q0 q1 q2 q3 q4 q5
  go_wp2
  refine bodyPost_ret (v := .tuple #[.agg #[.int .i64 X, .int .i64 Y, .bool r, .slice a1 vs.length cp], .bool true]) (by simp [results, Try.results28, go_sem, *]) rfl
    (FieldOut.yes (below_res4 HK3.out (by omega) _ _ _ _) ((FOwn.res4 (W := w) HH.out (by omega) _ _ _ _).base (by omega)) hn hv)

set_option maxRecDepth 4000 in
set_option maxHeartbeats 2000000 in
theorem impl_DiscField_no (X Y : Int) (r : Bool) (x y rad : Nat) (V : Nat → Nat) (w : World) (hv : discB X Y x y rad = false) :
    Calls Try.prog 28 #[.int .i64 X, .int .i64 Y, .bool r, .float .f32 x, .float .f32 y, .float .f32 rad] w (FieldOut 0 0 false false 0 V w) := by
  have hmf : ∀ (fn : Fn) (first cap : Array Value) (w : World), (Instr.makeFunc fn first cap).run Try.prog w = .ok (.func fn first cap) w := fun _ _ _ _ => rfl
  have K0 := keep_chain w (.cells #[.int .i64 X] 2) (.cells #[.int .i64 Y] 2) (.cells #[.bool r] 4) (.cells #[.float .f32 x] 27) (.cells #[.float .f32 y] 27) (.cells #[.float .f32 rad] 27) (.cells #[.int .i64 0, .int .i64 0, .bool false, .slice none 0 0] 46) (.cells #[.int .i64 X, .int .i64 Y] 2)
  have D0 := DiscBoxes.mk8 w X Y r x y rad
  have hall : Hid (allIn (fun i => [X, Y].getD i 0) 1 16 2 = sizeB X Y) := Lib.hid (by simp [allIn, sizeB])
  go_enter Try.func28, Try.ntmps28
  go_wp2_with fail
  refine (impl_areWithin 1 16 _ 2 2 (fun i => [X, Y].getD i 0) _ ⟨.inr ⟨_, 0, rfl, by simp, ?_⟩⟩ (by omega)).mono ?_
  · intro i hi
    have : i = 0 ∨ i = 1 := by omega
    rcases this with rfl | rfl <;> go_simp
  rintro e w1 ⟨rfl, hb⟩
  rw [hall.out]
  have K1 := keep_trans K0 hb
  have D1 := D0.below hb
  obtain ⟨c0, c1, c2, c3, c4, c5⟩ := D1.cells
  have hsz := D1.b6.lt
  clear hb K0 D0 hall
  cases hs : sizeB X Y with
  | true =>
    have HF : Hid (finL [x, y, rad] 3 = false) := Lib.hid (by rw [fin3]; simpa [discB, hs] using hv)
    have HD := Lib.hid (D1.alloc (.cells #[.float .f32 x, .float .f32 y, .float .f32 rad] 27))
    have HK0 := Lib.hid (keep_trans K1 (keep_own w1 (.cells #[.float .f32 x, .float .f32 y, .float .f32 rad] 27)))
    have o1 := Own.alloc w1 27 #[.float .f32 x, .float .f32 y, .float .f32 rad]
    have HH : Hid (Holds (w1.alloc (.cells #[.float .f32 x, .float .f32 y, .float .f32 rad] 27)) (some ⟨w1.heap.size, 0, none⟩) 3 (fvals .f32 [x, y, rad])) := Lib.hid (o1.holds (by
      intro i hi
      have : i = 0 ∨ i = 1 ∨ i = 2 := by omega
      rcases this with rfl | rfl | rfl <;> rfl))
    clear D1 K1 o1 hs hv
    go_wp2_with fail
    refine (impl_areFinite _ 3 3 [x, y, rad] _ HH.out (by omega)).mono ?_
    rintro e w' ⟨n3, rfl, rfl⟩
    rw [HF.out]
    obtain ⟨d0, d1, d2, d3, f0, f1, f2, f3⟩ := (HD.out.drewN n3).b6.zero4
    have HK := Lib.hid (keep_drewN HK0.out n3)
    clear HD HK0 HH c0 c1 c2 c3 c4 c5
    generalize (w1.alloc (.cells #[.float .f32 x, .float .f32 y, .float .f32 rad] 27)).drewN n3 = w2 at *
    go_wp2
    refine bodyPost_ret (v := .tuple #[.agg #[.int .i64 0, .int .i64 0, .bool false, .slice none 0 0], .bool false]) (by simp [results, Try.results28, go_sem, *]) rfl (FieldOut.no _ _ _ (below_res4 HK.out (by omega) _ _ _ _))
  | false =>
    obtain ⟨d0, d1, d2, d3, f0, f1, f2, f3⟩ := D1.b6.zero4
    have HK := Lib.hid K1
    clear hs hv D1 K1
    go_wp2
    refine bodyPost_ret (v := .tuple #[.agg #[.int .i64 0, .int .i64 0, .bool false, .slice none 0 0], .bool false]) (by simp [results, Try.results28, go_sem, *]) rfl (FieldOut.no _ _ _ (below_res4 HK.out (by omega) _ _ _ _))

end Go.Proofs.Ytcnamhmoocdccaa
