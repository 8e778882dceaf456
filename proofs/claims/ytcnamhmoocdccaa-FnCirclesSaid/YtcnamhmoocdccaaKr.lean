/- Complex numbers, gaps and bytes: the helping functions walked. Under no condition. -/
import Derived.Test.YtcnamhmoocdccaaKi
import Derived.Test.YtcnamhmoocdccaaSl
namespace Go.Proofs.Ytcnamhmoocdccaa
open Go Go.RowKit
set_option linter.unusedVariables false
set_option linter.unusedSimpArgs false
set_option exponentiation.threshold 5000

theorem conv_narrow_fin (v : Nat) (h : fover .f64 v .f32 = false) (hf : finB .f32 (fconv .f64 v .f32) = true) : ∃ (g : World → Nat), (∀ w, (convert 31 27 (.float .f64 v)).run Try.prog w = .ok (.float .f32 (fconv .f64 v .f32)) (w.drewN (g w))) := by
  obtain ⟨f, g, h1, h2⟩ := conv_narrow v h
  refine ⟨g, fun w => ?_⟩
  rw [h1 w, (h2 w).1.eq (fin_num hf)]
theorem conv_wide (x : Nat) (h : finB .f32 x = true) : ∃ (g : World → Nat), (∀ w, (convert 27 31 (.float .f32 x)).run Try.prog w = .ok (.float .f64 (fwid x)) (w.drewN (g w))) := by
  obtain ⟨f, g, h1, h2⟩ := conv_widen x
  have hn : isN .f64 (fwid x) = false := by rw [wid_isN]; exact fin_num h
  exact ⟨g, fun w => by rw [h1 w, (h2 w).1.eq hn]⟩
theorem run_exact32 (op : BinOp) (hop : isArith op = true) (t : TypeId) (x y : Nat) (h : isN .f32 (fbin op .f32 x y) = false) (w : World) : (binOp op t (.float .f32 x) (.float .f32 y)).run Try.prog w = .ok (.float .f32 (fbin op .f32 x y)) w := by
  rw [run_afv Try.prog op hop t .f32 x y w]
  have e := fbin_eq op hop .f32 x y
  unfold afv afn
  cases hb : floatBits op .f32 x y with
  | some r => rw [hb] at e; rw [e]; simp [World.drewN_zero]
  | none =>
    rw [hb] at e
    rw [e] at h
    simp [isN_nanb] at h

/-! ### Bytes. -/
set_option maxRecDepth 100000 in
theorem laws_b10Long (a : Option Addr) (n c : Nat) (b : Option Addr) (m d : Nat) (w : World) : Calls Try.prog 11 #[.slice a n c, .slice b m d] w fun e w' => e = .returned (.bool (decide (1048576 < n) || decide (1048576 < m))) ∧ w = w' := by
  by_cases h1 : 1048576 < n
  · have g1 : decide ((1048576 : Int) < (n : Int)) = true := decide_eq_true (by omega)
    rw [decide_eq_true h1]
    clear h1
    go_enter Try.func11, Try.ntmps11
    go_wp2
    go_ret
    exact ⟨rfl, rfl⟩
  · have g1 : decide ((1048576 : Int) < (n : Int)) = false := decide_eq_false (by omega)
    rw [decide_eq_false h1]
    clear h1
    by_cases h2 : 1048576 < m
    · have g2 : decide ((1048576 : Int) < (m : Int)) = true := decide_eq_true (by omega)
      rw [decide_eq_true h2]
      clear h2
      go_enter Try.func11, Try.ntmps11
      go_wp2
      go_ret
      exact ⟨rfl, rfl⟩
    · have g2 : decide ((1048576 : Int) < (m : Int)) = false := decide_eq_false (by omega)
      rw [decide_eq_false h2]
      clear h2
      go_enter Try.func11, Try.ntmps11
      go_wp2
      go_ret
      exact ⟨rfl, rfl⟩
theorem byte_at {xs : List Int} (h : ∀ x ∈ xs, (Lit.int .u8 x).wf = true) (i : Nat) : 0 ≤ xs.getD i 0 ∧ xs.getD i 0 < 256 := by
  rw [List.getD_eq_getElem?_getD]
  cases hx : xs[i]? with
  | none => exact ⟨Int.le_refl _, by decide⟩
  | some v =>
    have := h v (List.mem_of_getElem? hx)
    simp [Lit.wf, IntKind.min, IntKind.max, IntKind.signed, IntKind.bits] at this
    show 0 ≤ v ∧ v < 256
    omega
set_option maxRecDepth 100000 in
theorem laws_b10At (a : Option Addr) (len cap : Nat) (xs : List Int) (i n : Nat) (w : World) (h : IRow .u8 w a len cap xs) (hi : i ≤ 1) (h2 : 2 ≤ n) (h256 : n ≤ 256) :
    Calls Try.prog 12 #[.slice a len cap, .int .i64 (i : Int), .int .i64 (n : Int)] w fun e w' => (∃ m : Nat, m < n ∧ e = .returned (.int .i64 (m : Int))) ∧ w = w' := by
  obtain ⟨hC, hl, hcap, hmax, hwf⟩ := h
  have g1 : decide ((n : Int) ≤ 1) = false := decide_eq_false (by omega)
  have hlen : len ≤ maxLen := by omega
  unfold maxLen at hlen
  by_cases hlt : i < len
  · rcases hC.split with h0 | ⟨b, o, rfl, hb, hc⟩
    · omega
    have h1 : w.cell? ⟨b, o + i, none⟩ = some (.int .u8 (xs.getD i 0)) := hc i hlt
    have hv := byte_at hwf i
    generalize xs.getD i 0 = v at h1 hv
    have g2 : decide ((i : Int) < (len : Int)) = true := decide_eq_true (by omega)
    have hm : ∃ m : Nat, m < n ∧ Int.tmod v (n : Int) = (m : Int) := by
      refine ⟨(v % (n : Int)).toNat, ?_, ?_⟩
      · have := Int.emod_lt_of_pos v (show (0 : Int) < n by omega)
        have := Int.emod_nonneg v (show (n : Int) ≠ 0 by omega)
        omega
      · rw [Int.tmod_eq_emod_of_nonneg hv.1, Int.toNat_of_nonneg (Int.emod_nonneg v (show (n : Int) ≠ 0 by omega))]
    obtain ⟨m, hm1, hm2⟩ := hm
    have hn0 : ¬ ((n : Int) = 0) := by omega
    clear hc hC hwf hl hcap hmax hb
    go_enter Try.func12, Try.ntmps12
    go_wp2
    go_ret
    refine ⟨⟨m, hm1, ?_⟩, rfl⟩
    first | rw [← hm2] | skip
    rfl
  · have g2 : decide ((i : Int) < (len : Int)) = false := decide_eq_false (by omega)
    have hm : ∃ m : Nat, m < n ∧ Int.tmod ((i : Int) * 37 + 11) (n : Int) = (m : Int) := by
      have h0 : 0 ≤ (i : Int) * 37 + 11 := by omega
      refine ⟨(((i : Int) * 37 + 11) % (n : Int)).toNat, ?_, ?_⟩
      · have := Int.emod_lt_of_pos ((i : Int) * 37 + 11) (show (0 : Int) < n by omega)
        have := Int.emod_nonneg ((i : Int) * 37 + 11) (show (n : Int) ≠ 0 by omega)
        omega
      · rw [Int.tmod_eq_emod_of_nonneg h0, Int.toNat_of_nonneg (Int.emod_nonneg _ (show (n : Int) ≠ 0 by omega))]
    obtain ⟨m, hm1, hm2⟩ := hm
    have hn0 : ¬ ((n : Int) = 0) := by omega
    clear hC hwf hl hcap hmax
    go_enter Try.func12, Try.ntmps12
    go_wp2
    go_ret
    refine ⟨⟨m, hm1, ?_⟩, rfl⟩
    first | rw [← hm2] | skip
    rfl

/-! ### Gaps. -/
theorem laws_b10Gap (x y : Nat) (w : World) (h : isN .f64 (gapV x y) = false) : Calls Try.prog 16 #[.float .f64 x, .float .f64 y] w fun e w' => e = .returned (.float .f64 (gapV x y)) ∧ w = w' := by
  unfold gapV at h ⊢
  cases hlt : (FloatKind.f64.format.order x y == some .lt) with
  | true =>
    rw [hlt, if_pos rfl] at h
    rw [if_pos rfl]
    have r1 := fun w => run_exact .sub rfl 31 y x h w
    simp only [fbin] at r1
    clear h
    go_enter Try.func16, Try.ntmps16
    go_wp2_with fail
    go_ret
    exact ⟨rfl, rfl⟩
  | false =>
    rw [hlt] at h
    simp only [Bool.false_eq_true, if_false] at h ⊢
    have r1 := fun w => run_exact .sub rfl 31 x y h w
    simp only [fbin] at r1
    clear h
    go_enter Try.func16, Try.ntmps16
    go_wp2_with fail
    go_ret
    exact ⟨rfl, rfl⟩
theorem gap_num {a x y : Nat} (hx : Bd a x) (hy : Bd a y) (ha : a ≤ 1000) : isN .f64 (gapV x y) = false := by
  unfold gapV
  split
  · exact (hy.sub hx ha).num
  · exact (hx.sub hy ha).num
set_option maxRecDepth 100000 in
theorem laws_b10Near (a b c d : Nat) (w : World) (fa : finB .f32 a = true) (fb : finB .f32 b = true) (fc : finB .f32 c = true) (fd : finB .f32 d = true) (ba : Bd 1 (fwid a)) (bb : Bd 1 (fwid b)) (bc : Bd 1 (fwid c)) (bd : Bd 1 (fwid d))
    (h1 : leD (gapV (fwid a) (fwid c)) 4547007122018943789 = true) (h2 : leD (gapV (fwid b) (fwid d)) 4547007122018943789 = true) :
    Calls Try.prog 39 #[.complex .f32 a b, .complex .f32 c d, .float .f64 4547007122018943789] w fun e w' => ∃ n, e = .returned (.bool true) ∧ w' = w.drewN n := by
  obtain ⟨ga, ca⟩ := conv_wide a fa
  obtain ⟨gb, cb⟩ := conv_wide b fb
  obtain ⟨gc, cc⟩ := conv_wide c fc
  obtain ⟨gd, cd⟩ := conv_wide d fd
  have G1 := Lib.hid (fun w => laws_b10Gap (fwid a) (fwid c) w (gap_num ba bc (by omega)))
  have G2 := Lib.hid (fun w => laws_b10Gap (fwid b) (fwid d) w (gap_num bb bd (by omega)))
  unfold leD at h1 h2
  clear fa fb fc fd ba bb bc bd
  generalize gapV (fwid a) (fwid c) = g1 at *
  generalize gapV (fwid b) (fwid d) = g2 at *
  generalize fwid a = wa at *
  generalize fwid b = wb at *
  generalize fwid c = wc at *
  generalize fwid d = wd at *
  go_enter Try.func39, Try.ntmps39
  go_wp2_with fail
  refine (G1.out _).mono ?_
  rintro e w' ⟨rfl, rfl⟩
  go_wp2_with fail
  refine (G2.out _).mono ?_
  rintro e w' ⟨rfl, rfl⟩
  go_wp2
  go_ret
  exact ⟨_, rfl, rfl⟩

/-! ### Complex numbers. -/
theorem impl_parts (a b : Nat) (w : World) (fa : finB .f32 a = true) (fb : finB .f32 b = true) : Calls Try.prog 71 #[.complex .f32 a b] w fun e w' => ∃ n, e = .returned (.tuple #[.float .f64 (fwid a), .float .f64 (fwid b)]) ∧ w' = w.drewN n := by
  obtain ⟨ga, ca⟩ := conv_wide a fa
  obtain ⟨gb, cb⟩ := conv_wide b fb
  clear fa fb
  go_enter Try.func71, Try.ntmps71
  go_wp2_with fail
  go_ret2
  exact ⟨_, rfl, rfl⟩
theorem impl_product (x y z t : Nat) (w : World) (hx : Bd 1 x) (hy : Bd 1 y) (hz : Bd 1 z) (ht : Bd 1 t) : Calls Try.prog 72 #[.float .f64 x, .float .f64 y, .float .f64 z, .float .f64 t] w fun e w' => e = .returned (.tuple #[.float .f64 (fsub .f64 (fmul .f64 x z) (fmul .f64 y t)), .float .f64 (fadd .f64 (fmul .f64 x t) (fmul .f64 y z))]) ∧ w = w' := by
  have m1 := hx.mul hz (by omega)
  have m2 := hy.mul ht (by omega)
  have m3 := hx.mul ht (by omega)
  have m4 := hy.mul hz (by omega)
  have r1 := fun w => run_exact .mul rfl 31 x z m1.num w
  have r2 := fun w => run_exact .mul rfl 31 y t m2.num w
  have r3 := fun w => run_exact .mul rfl 31 x t m3.num w
  have r4 := fun w => run_exact .mul rfl 31 y z m4.num w
  have r5 := fun w => run_exact .sub rfl 31 (fmul .f64 x z) (fmul .f64 y t) (m1.sub m2 (by omega)).num w
  have r6 := fun w => run_exact .add rfl 31 (fmul .f64 x t) (fmul .f64 y z) (m3.add m4 (by omega)).num w
  simp only [fbin] at r1 r2 r3 r4 r5 r6
  clear m1 m2 m3 m4 hx hy hz ht
  go_enter Try.func72, Try.ntmps72
  go_wp2_with fail
  go_ret2
  exact ⟨rfl, rfl⟩
theorem impl_MulComplex (a b c d : Nat) (w : World) (fa : finB .f32 a = true) (fb : finB .f32 b = true) (fc : finB .f32 c = true) (fd : finB .f32 d = true) (ba : Bd 1 (fwid a)) (bb : Bd 1 (fwid b)) (bc : Bd 1 (fwid c)) (bd : Bd 1 (fwid d))
    (f1 : finB .f32 (mreV a b c d) = true) (f2 : finB .f32 (mimV a b c d) = true) :
    Calls Try.prog 40 #[.complex .f32 a b, .complex .f32 c d] w fun e w' => ∃ n, e = .returned (.complex .f32 (mreV a b c d) (mimV a b c d)) ∧ w' = w.drewN n := by
  have P1 := Lib.hid (fun w => impl_parts a b w fa fb)
  have P2 := Lib.hid (fun w => impl_parts c d w fc fd)
  have P3 := Lib.hid (fun w => impl_product (fwid a) (fwid b) (fwid c) (fwid d) w ba bb bc bd)
  have m1 := ba.mul bc (by omega)
  have m2 := bb.mul bd (by omega)
  have m3 := ba.mul bd (by omega)
  have m4 := bb.mul bc (by omega)
  unfold mreV mimV at *
  obtain ⟨g1, c1⟩ := conv_narrow_fin _ ((m1.sub m2 (by omega)).narrow (by omega)) f1
  obtain ⟨g2, c2⟩ := conv_narrow_fin _ ((m3.add m4 (by omega)).narrow (by omega)) f2
  clear m1 m2 m3 m4 fa fb fc fd ba bb bc bd f1 f2
  generalize fsub .f64 (fmul .f64 (fwid a) (fwid c)) (fmul .f64 (fwid b) (fwid d)) = re at *
  generalize fadd .f64 (fmul .f64 (fwid a) (fwid d)) (fmul .f64 (fwid b) (fwid c)) = im at *
  generalize fwid a = wa at *
  generalize fwid b = wb at *
  generalize fwid c = wc at *
  generalize fwid d = wd at *
  generalize fconv .f64 re .f32 = r1 at *
  generalize fconv .f64 im .f32 = r2 at *
  go_enter Try.func40, Try.ntmps40
  go_wp2_with fail
  refine (P1.out _).mono ?_
  rintro e w' ⟨n1, rfl, rfl⟩
  go_wp2_with fail
  refine (P2.out _).mono ?_
  rintro e w' ⟨n2, rfl, rfl⟩
  go_wp2_with fail
  refine (P3.out _).mono ?_
  rintro e w' ⟨rfl, rfl⟩
  go_wp2
  go_ret
  exact ⟨_, rfl, rfl⟩
theorem impl_PowerOf (a b : Nat) (w : World) (fa : finB .f32 a = true) (fb : finB .f32 b = true) (ba : Bd 1 (fwid a)) (bb : Bd 1 (fwid b)) (f1 : finB .f32 (powV a b) = true) :
    Calls Try.prog 38 #[.complex .f32 a b] w fun e w' => ∃ n, e = .returned (.float .f32 (powV a b)) ∧ w' = w.drewN n := by
  have P1 := Lib.hid (fun w => impl_parts a b w fa fb)
  have m1 := ba.mul ba (by omega)
  have m2 := bb.mul bb (by omega)
  have r1 := fun w => run_exact .mul rfl 31 (fwid a) (fwid a) m1.num w
  have r2 := fun w => run_exact .mul rfl 31 (fwid b) (fwid b) m2.num w
  have r3 := fun w => run_exact .add rfl 31 (fmul .f64 (fwid a) (fwid a)) (fmul .f64 (fwid b) (fwid b)) (m1.add m2 (by omega)).num w
  unfold powV at *
  obtain ⟨g1, c1⟩ := conv_narrow_fin _ ((m1.add m2 (by omega)).narrow (by omega)) f1
  simp only [fbin] at r1 r2 r3
  clear m1 m2 fa fb ba bb f1
  generalize fadd .f64 (fmul .f64 (fwid a) (fwid a)) (fmul .f64 (fwid b) (fwid b)) = s at *
  generalize fmul .f64 (fwid a) (fwid a) = s1 at *
  generalize fmul .f64 (fwid b) (fwid b) = s2 at *
  generalize fwid a = wa at *
  generalize fwid b = wb at *
  generalize fconv .f64 s .f32 = r at *
  go_enter Try.func38, Try.ntmps38
  go_wp2_with (first | (go_at_call 70; go_in) | (go_at_call 71; refine (P1.out _).mono ?_; rintro e w' ⟨n1, rfl, rfl⟩))
  go_ret
  exact ⟨_, rfl, rfl⟩
theorem impl_AngleOf (a b : Nat) (w : World) (f : finB .f32 (angN b a) = true) : Calls Try.prog 37 #[.complex .f32 a b] w fun e w' => ∃ n, e = .returned (.float .f32 (angN b a)) ∧ w' = w.drewN n := by
  have P1 : Hid (∀ w, Calls Try.prog 23 #[.float .f32 b, .float .f32 a] w fun e w' => ∃ n, e = .returned (.float .f32 (angN b a)) ∧ w' = w.drewN n) := Lib.hid (fun w => by
    refine (impl_AngleTurns b a w).mono ?_
    rintro e w' ⟨r, n, rfl, hr, _, rfl⟩
    rw [hr.eq (fin_num f)]
    exact ⟨_, rfl, rfl⟩)
  clear f
  generalize angN b a = v at *
  go_enter Try.func37, Try.ntmps37
  go_wp2_with fail
  refine (P1.out _).mono ?_
  rintro e w' ⟨n1, rfl, rfl⟩
  go_wp2
  go_ret
  exact ⟨_, rfl, rfl⟩
end Go.Proofs.Ytcnamhmoocdccaa
