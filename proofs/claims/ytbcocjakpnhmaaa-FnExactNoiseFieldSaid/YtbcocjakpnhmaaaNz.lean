/- Fields of noise: the numbers drawn, and the reference's NoiseField. Under no condition. -/
import Derived.Test.YtbcocjakpnhmaaaMu
import Derived.Test.YtbcocjakpnhmaaaCt
namespace Go.Proofs.Ytbcocjakpnhmaaa
open Go Go.RowKit
set_option linter.unusedVariables false
set_option linter.unusedSimpArgs false

theorem seedNext_ex (s : Nat) : ∃ n : Nat, n = (1103515245 * s + 12345) % 2147483648 := ⟨_, rfl⟩
/-- The next seed (chosen, so that no tactic unfolds it). -/
noncomputable def seedNext (s : Nat) : Nat := Classical.choose (seedNext_ex s)
theorem seedNext_eq (s : Nat) : seedNext s = (1103515245 * s + 12345) % 2147483648 := Classical.choose_spec (seedNext_ex s)
noncomputable def seedAt (s : Nat) : Nat → Nat
  | 0 => s
  | k + 1 => seedNext (seedAt s k)
theorem seedNext_le (s : Nat) : seedNext s ≤ 2147483647 := by rw [seedNext_eq]; omega
theorem seedAt_le {s : Nat} (h : s ≤ 2147483647) (k : Nat) : seedAt s k ≤ 2147483647 := by
  cases k with
  | zero => exact h
  | succ k => exact seedNext_le _
def noiseQ (s : Nat) : Nat := fdiv .f32 (floatOfInt .f32 (((s / 65536 : Nat) : Int) - 16384)) 1182793728
noncomputable def noiseV (s size k : Nat) : Nat := fmul .f32 size (noiseQ (seedAt s (k + 1)))
theorem wrap_big {n : Int} (h1 : -9223372036854775808 ≤ n) (h2 : n ≤ 9223372036854775807) : IntKind.i64.wrap n = n := by
  simp [IntKind.wrap, IntKind.bits, IntKind.signed]; omega
theorem seed_facts {s : Nat} (h : s ≤ 2147483647) : ∃ nx : Nat, nx = seedNext s ∧ nx ≤ 2147483647 ∧ IntKind.i64.wrap (1103515245 * (s : Int)) = 1103515245 * (s : Int) ∧ IntKind.i64.wrap (1103515245 * (s : Int) + 12345) = 1103515245 * (s : Int) + 12345 ∧
    (1103515245 * (s : Int) + 12345).tmod 2147483648 = (nx : Int) ∧ IntKind.i64.wrap (nx : Int) = (nx : Int) := by
  have h1 : (1103515245 * (s : Int) + 12345).tmod 2147483648 = ((seedNext s : Nat) : Int) := by
    rw [Int.tmod_eq_emod_of_nonneg (by omega)]; rw [seedNext_eq]; omega
  exact ⟨_, rfl, seedNext_le s, wrap_big (by omega) (by omega), wrap_big (by omega) (by omega), h1, wrap_big (by omega) (by have := seedNext_le s; omega)⟩
theorem draw_facts {s : Nat} (h : s ≤ 2147483647) : ∃ d : Nat, d = s / 65536 ∧ d ≤ 32767 ∧ (s : Int).tdiv 65536 = (d : Int) ∧ IntKind.i64.wrap (d : Int) = (d : Int) ∧ IntKind.i64.wrap ((d : Int) - 16384) = (d : Int) - 16384 := by
  have h1 : (s : Int).tdiv 65536 = ((s / 65536 : Nat) : Int) := by
    rw [Int.tdiv_eq_ediv_of_nonneg (by omega)]; omega
  have h2 : s / 65536 ≤ 32767 := by omega
  exact ⟨_, rfl, h2, h1, wrap_big (by omega) (by omega), wrap_big (by omega) (by omega)⟩

def noiseB (x y s : Int) : Bool := sizeB x y && inB s 0 2147483647

theorem spec_l02Seed (s : Int) (w : World) :
    Calls Try.prog 78 #[.int .i64 s] w fun e w' => e = .returned (.bool (inB s 0 2147483647)) ∧ w = w' := by
  go_enter Try.func78, Try.ntmps78
  go_wp2_with (first | (go_at_call 74; refine (spec_l00In _ _ _ _).mono ?_; rintro e w' ⟨rfl, rfl⟩))
  go_ret
  exact ⟨rfl, rfl⟩
theorem impl_isSeed (s : Int) (w : World) :
    Calls Try.prog 80 #[.int .i64 s] w fun e w' => e = .returned (.bool (inB s 0 2147483647)) ∧ w = w' := by
  go_enter Try.func80, Try.ntmps80
  go_wp2_with (first | (go_at_call 76; refine (impl_within _ _ _ _).mono ?_; rintro e w' ⟨rfl, rfl⟩))
  go_ret
  exact ⟨rfl, rfl⟩

theorem spec_l02Next (s : Nat) (hs : s ≤ 2147483647) (w : World) :
    Calls Try.prog 79 #[.int .i64 s] w fun e w' => e = .returned (.int .i64 (seedNext s : Nat)) ∧ w = w' := by
  obtain ⟨nx, e1, e2, e3, e4, e5, e6⟩ := seed_facts hs
  rw [← e1]
  clear e1
  go_enter Try.func79, Try.ntmps79
  go_wp2
  go_ret
  exact ⟨rfl, rfl⟩
theorem impl_draw (s : Nat) (hs : s ≤ 2147483647) (w : World) :
    Calls Try.prog 82 #[.int .i64 s] w fun e w' => e = .returned (.tuple #[.int .i64 (seedNext s : Nat), .int .i64 (seedNext s / 65536 : Nat)]) ∧ w = w' := by
  obtain ⟨nx, e1, e2, e3, e4, e5, e6⟩ := seed_facts hs
  rw [← e1]
  obtain ⟨d, g1, g2, g3, g4, g5⟩ := draw_facts e2
  rw [← g1]
  clear e1 g1
  go_enter Try.func82, Try.ntmps82
  go_wp2
  go_ret2
  exact ⟨rfl, rfl⟩

/-- What a maker with a number and a verdict hands back. -/
def FieldOut3 (x y : Int) (r ok : Bool) (n : Nat) (V : Nat → Nat) (sd : Int) (W : World) (e : Ending) (w' : World) : Prop :=
  ∃ v vs, e = .returned (.tuple #[.agg #[.int .i64 x, .int .i64 y, .bool r, v], .int .i64 sd, .bool ok]) ∧ Below W.heap.size W w' ∧ FOwn w' W.heap.size v vs ∧ vs.length = n ∧ ∀ i, i < n → Same .f32 (vs.getD i 0) (V i)
theorem FieldOut3.no (W w' : World) (V : Nat → Nat) (K : Below W.heap.size W w') : FieldOut3 0 0 false false 0 V 0 W (.returned (.tuple #[.agg #[.int .i64 0, .int .i64 0, .bool false, .slice none 0 0], .int .i64 0, .bool false])) w' :=
  ⟨_, [], rfl, K, ⟨rfl, .inl ⟨rfl, rfl⟩⟩, rfl, fun i hi => absurd hi (Nat.not_lt_zero _)⟩
theorem FieldOut3.yes {x y : Int} {r : Bool} {n : Nat} {V : Nat → Nat} {sd : Int} {W : World} {v : Value} {vs : List Nat} {w' : World} (K : Below W.heap.size W w') (h : FOwn w' W.heap.size v vs) (hn : vs.length = n) (hv : ∀ i, i < n → Same .f32 (vs.getD i 0) (V i)) :
    FieldOut3 x y r true n V sd W (.returned (.tuple #[.agg #[.int .i64 x, .int .i64 y, .bool r, v], .int .i64 sd, .bool true])) w' := ⟨v, vs, rfl, K, h, hn, hv⟩

set_option maxHeartbeats 1000000 in
theorem spec_NoiseField_no (x y s : Int) (r : Bool) (size : Nat) (V : Nat → Nat) (w : World) (hv : noiseB x y s = false) :
    Calls Try.prog 46 #[.int .i64 x, .int .i64 y, .bool r, .int .i64 s, .float .f32 size] w (FieldOut3 0 0 false false 0 V 0 w) := by
  have K := keep_own w (.cells #[.int .i64 0, .int .i64 0, .bool false, .slice none 0 0] 37)
  cases hs : sizeB x y with
  | true =>
    have hi : Hid (inB s 0 2147483647 = false) := Lib.hid (by simpa [noiseB, hs] using hv)
    have HS := Lib.hid hs
    clear hs hv
    go_enter Try.func46, Try.ntmps46
    go_wp2_with fail
    refine (spec_l02Size_is HS.out _).mono ?_
    rintro e w1 ⟨rfl, rfl⟩
    go_wp2_with fail
    refine (spec_l02Seed _ _).mono ?_
    rintro e w1 ⟨rfl, rfl⟩
    rw [hi.out]
    go_wp2
    refine bodyPost_ret (v := .tuple #[.agg #[.int .i64 0, .int .i64 0, .bool false, .slice none 0 0], .int .i64 0, .bool false]) (by simp [results, Try.results46, go_sem, *]) rfl (FieldOut3.no _ _ _ K)
  | false =>
    have HS := Lib.hid hs
    clear hs hv
    go_enter Try.func46, Try.ntmps46
    go_wp2_with fail
    refine (spec_l02Size_is HS.out _).mono ?_
    rintro e w1 ⟨rfl, rfl⟩
    go_wp2
    refine bodyPost_ret (v := .tuple #[.agg #[.int .i64 0, .int .i64 0, .bool false, .slice none 0 0], .int .i64 0, .bool false]) (by simp [results, Try.results46, go_sem, *]) rfl (FieldOut3.no _ _ _ K)

set_option maxHeartbeats 2000000 in
theorem spec_NoiseField_yes (X Y s : Nat) (r : Bool) (size : Nat) (w : World) (hv : noiseB X Y s = true) :
    Calls Try.prog 46 #[.int .i64 X, .int .i64 Y, .bool r, .int .i64 s, .float .f32 size] w (FieldOut3 X Y r true (X * Y) (noiseV s size) (seedAt s (X * Y) : Nat) w) := by
  obtain ⟨hsz, hsd⟩ : sizeB X Y = true ∧ inB s 0 2147483647 = true := by simpa [noiseB] using hv
  obtain ⟨⟨hx1, hx2⟩, hy1, hy2⟩ := size_bounds hsz
  have hs31 : s ≤ 2147483647 := by have : (0 : Int) ≤ s ∧ (s : Int) ≤ 2147483647 := by simpa [inB] using hsd
                                   omega
  have hmul : ((X * Y : Nat) : Int) = (X : Int) * (Y : Int) := by simp
  have hle : X * Y ≤ 16 * 16 := Nat.mul_le_mul (by omega) (by omega)
  have HS := Lib.hid hsz
  have HD := Lib.hid hsd
  generalize hN : X * Y = N at *
  clear hN hsz hsd hv
  go_enter Try.func46, Try.ntmps46
  go_wp2_with fail
  refine (spec_l02Size_is HS.out _).mono ?_
  rintro e w1 ⟨rfl, rfl⟩
  go_wp2_with fail
  refine (spec_l02Seed _ _).mono ?_
  rintro e w1 ⟨rfl, rfl⟩
  rw [HD.out]
  go_wp2_with fail
  refine (spec_l02New X Y r _).mono ?_
  rintro e w2 ⟨v0, rfl, k2, h2⟩
  have hB := Lib.hid (Going.begin (W := w) X Y r (noiseV s size) rfl k2 h2)
  obtain ⟨a0, cap0, rfl, _⟩ := h2.value
  have hsz : w.heap.size < w2.heap.size := Nat.lt_of_lt_of_le (by simp) k2.size
  clear k2 h2
  go_wp2
  go_loopw [3, 14] (fun sv i wr => ∃ k : Nat, k ≤ N ∧ i = .int .i64 k ∧ sv = .int .i64 (seedAt s k : Nat) ∧ Going w none w.heap.size w2.heap.size X Y r (noiseV s size) k wr) (fun _ i _ => N - (intOf i).toNat)
  case atStart => exact ⟨0, Nat.zero_le _, rfl, rfl, hB.out⟩
  case round =>
    obtain ⟨k, hk, rfl, rfl, hgo⟩ := hrel
    by_cases hlt : k < N
    · obtain ⟨v, vs, hC, hn, hv⟩ := hgo
      obtain ⟨sk, hsk, hskle⟩ : ∃ sk, sk = seedAt s k ∧ sk ≤ 2147483647 := ⟨_, rfl, seedAt_le hs31 k⟩
      obtain ⟨nx, hnx, hnxle⟩ : ∃ nx, nx = seedNext sk ∧ nx ≤ 2147483647 := ⟨_, rfl, seedNext_le sk⟩
      have EN : Hid (seedAt s (k + 1) = nx) := Lib.hid (by rw [hnx, hsk]; rfl)
      have HNX := Lib.hid hnx
      rw [← hsk]
      obtain ⟨d, g1, g2, g3, g4, g5⟩ := draw_facts hnxle
      have hD := run_afv Try.prog .quo rfl 41 .f32 (floatOfInt .f32 ((d : Int) - 16384)) 1182793728 wr
      have QV : Same .f32 (afv .quo .f32 (floatOfInt .f32 ((d : Int) - 16384)) 1182793728 wr) (noiseQ nx) := ⟨by unfold noiseQ; rw [← g1]; exact cn_afv .quo rfl .f32 _ _ _⟩
      generalize afv .quo .f32 (floatOfInt .f32 ((d : Int) - 16384)) 1182793728 wr = qv at hD QV
      generalize afn .quo .f32 (floatOfInt .f32 ((d : Int) - 16384)) 1182793728 = qn at hD
      have hC2 := hC.later (grown_of_below (keep_drewN (Below.refl _ _) qn)) (fun k e => by cases e)
      generalize hwz : wr.drewN qn = wz at hD hC2
      have hM := run_afv Try.prog .mul rfl 41 .f32 size qv wz
      have PV : Hid (Same .f32 (afv .mul .f32 size qv wz) (noiseV s size k)) := Lib.hid ((⟨cn_afv .mul rfl .f32 _ _ _⟩ : Same .f32 _ (fmul .f32 size qv)).trans (by unfold noiseV; rw [EN.out]; exact ⟨by rw [Same.mul (Same.refl _ size) QV]⟩))
      generalize afv .mul .f32 size qv wz = pv at hM PV
      generalize afn .mul .f32 size qv = pn at hM
      have CC := Lib.hid hC2
      have VV := Lib.hid hv
      have NN := Lib.hid hn
      have C3 := Lib.hid ((hC2.later (grown_of_below (keep_drewN (Below.refl _ _) pn)) (fun k e => by cases e)).alloc (.cells #[.float .f32 pv] 41))
      have O3 := Lib.hid (Own.alloc (wz.drewN pn) 41 #[.float .f32 pv])
      have small : Hid (vs.length ≤ 1048576) := Lib.hid (by omega)
      have c5 : wz.cell? ⟨w2.heap.size, 3, none⟩ = some v := hC2.cell
      have c3 : wr.cell? ⟨w2.heap.size, 3, none⟩ = some v := hC.cell
      have c7 := C3.out.cell
      have SK := Lib.hid hskle
      clear hC hC2 hn hv hsk hnx g1 QV hwz hskle hnxle g2 hs31
      go_wp2_with fail
      refine (spec_l02Next sk SK.out _).mono ?_
      rintro e w' ⟨rfl, rfl⟩
      rw [← HNX.out]
      go_wp2_with (at_builtin; refine list_push (by rfl) (.tmp 45) (.tmp 49) (by rfl) C3.out pv wz.heap.size 1 (by rfl) (by rfl) O3.out small.out ?_; intro g cp w3 g3 o3 c6 f5 C4)
      have C5 := Lib.hid C4
      clear C4 c3 c5 c6 c7 f5 C3 O3 o3 hM hD
      go_wp2
      go_roundw
      case rel => exact ⟨k + 1, by omega, by go_num, by rw [EN.out], ⟨_, _, C5.out, by simp [NN.out], same_snoc NN.out VV.out PV.out⟩⟩
      case measure => simp [intOf]; omega
    · have hk2 : k = N := by omega
      subst hk2
      obtain ⟨a1, ln, cp, v1, e, c0, c1, c2, c3, d0, d1, d2, d3, f0, f1, f2, f3, hfin⟩ := hgo.result (fun k e => by cases e)
      have HF := Lib.hid hfin
      clear hfin hgo
      subst e
      go_wp2
      obtain ⟨⟨v2, vs2, e2, g2, h2, hn2, hv2⟩, g1, _⟩ := HF.out _ rfl
      simp only [Ending.returned.injEq, Value.agg.injEq, Array.mk.injEq, List.cons.injEq, and_true, true_and] at e2
      subst e2
      refine bodyPost_ret (v := .tuple #[.agg #[.int .i64 X, .int .i64 Y, .bool r, .slice a1 ln cp], .int .i64 (seedAt s k : Nat), .bool true]) ?_ rfl
        (FieldOut3.yes (below_of_grown g1) h2 hn2 hv2)
      simp [results, Try.results46, go_sem, *]

end Go.Proofs.Ytbcocjakpnhmaaa
