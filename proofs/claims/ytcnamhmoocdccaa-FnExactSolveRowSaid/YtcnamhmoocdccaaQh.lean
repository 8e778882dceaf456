/- The reference's SolveRow, walked: which rows are solved, and what is handed back. Under no condition. -/
import Derived.Test.YtcnamhmoocdccaaQg
namespace Go.Proofs.Ytcnamhmoocdccaa
open Go Go.RowKit
set_option linter.unusedVariables false
set_option linter.unusedSimpArgs false

theorem longOk_parts (n : Nat) (rd : Bool) : longOk n rd = (decide ((n : Int) ≤ 64) && (decide (3 ≤ (n : Int)) || (decide ((n : Int) = 2) && !rd))) := by
  unfold longOk
  have e1 : ((n : Int) ≤ 64) ↔ n ≤ 64 := by omega
  have e2 : (3 ≤ (n : Int)) ↔ 3 ≤ n := by omega
  have e3 : ((n : Int) = 2) ↔ n = 2 := by omega
  simp only [e1, e2, e3]
set_option maxRecDepth 100000 in
theorem spec_l03Long (n : Nat) (rd : Bool) (w : World) : Calls Try.prog 67 #[.int .i64 n, .bool rd] w fun e w' => e = .returned (.bool (longOk n rd)) ∧ w = w' := by
  rw [longOk_parts]
  cases h1 : decide ((n : Int) ≤ 64) with
  | false =>
    go_enter Try.func67, Try.ntmps67
    go_wp2_with fail
    go_ret
    exact ⟨rfl, rfl⟩
  | true =>
    cases h2 : decide (3 ≤ (n : Int)) with
    | true =>
      go_enter Try.func67, Try.ntmps67
      go_wp2_with fail
      go_ret
      exact ⟨rfl, rfl⟩
    | false =>
      by_cases h3 : n = 2
      · subst h3
        clear h1 h2
        cases rd with
        | false =>
          go_enter Try.func67, Try.ntmps67
          go_wp2_with fail
          go_ret
          exact ⟨rfl, rfl⟩
        | true =>
          go_enter Try.func67, Try.ntmps67
          go_wp2_with fail
          go_ret
          exact ⟨rfl, rfl⟩
      · have h4 : ((n : Int) == 2) = false := by simp; omega
        have h5 : decide ((n : Int) = 2) = false := decide_eq_false (by omega)
        clear h3
        rw [h5]
        go_enter Try.func67, Try.ntmps67
        go_wp2_with fail
        go_ret
        exact ⟨rfl, rfl⟩
set_option maxRecDepth 100000 in
theorem spec_l03Least (s : Nat) (w : World) : Calls Try.prog 68 #[.float .f32 s] w fun e w' => ∃ n, e = .returned (.bool (mass s)) ∧ w' = w.drewN n := by
  unfold mass
  cases hf : finB .f32 s with
  | false =>
    go_enter Try.func68, Try.ntmps68
    go_wp2_with (go_at_call 51; refine (spec_l01Finite s _).mono ?_; rintro e w' ⟨n0, rfl, rfl⟩; rw [hf])
    go_ret
    exact ⟨_, rfl, rfl⟩
  | true =>
    cases hg : (FloatKind.f32.format.order s 0 == some .gt || FloatKind.f32.format.order s 0 == some .eq) with
    | false =>
      go_enter Try.func68, Try.ntmps68
      go_wp2_with (go_at_call 51; refine (spec_l01Finite s _).mono ?_; rintro e w' ⟨n0, rfl, rfl⟩; rw [hf])
      go_ret
      exact ⟨_, rfl, rfl⟩
    | true =>
      go_enter Try.func68, Try.ntmps68
      go_wp2_with (go_at_call 51; refine (spec_l01Finite s _).mono ?_; rintro e w' ⟨n0, rfl, rfl⟩; rw [hf])
      go_ret
      exact ⟨_, rfl, rfl⟩

theorem holds_congr {w : World} {a : Option Addr} {len : Nat} {V V' : Nat → Value} (h : Holds w a len V) (he : ∀ i, i < len → V i = V' i) : Holds w a len V' := by
  rcases h.cells with h0 | ⟨b, o, rfl, hb, hc⟩
  · exact ⟨.inl h0⟩
  · exact ⟨.inr ⟨b, o, rfl, hb, fun i hi => (he i hi) ▸ hc i hi⟩⟩
/-- What the walk of the reference is told. -/
def RowTold (ys : List Nat) (s : Nat) (rd : Bool) (w : World) (e : Ending) (w' : World) : Prop :=
  (∃ A c, e = .returned (.tuple #[.slice A (rowOut ys s rd).1.length c, .bool (rowOut ys s rd).2]) ∧ Holds w' A (rowOut ys s rd).1.length (fvals .f32 (rowOut ys s rd).1)) ∧ Below w.heap.size w w'
theorem RowTold.no {ys : List Nat} {s : Nat} {rd : Bool} {w w' : World} (h : (longOk ys.length rd && mass s && rowFin (nth ys) s ys.length rd) = false) (hb : Below w.heap.size w w') :
    RowTold ys s rd w (.returned (.tuple #[.slice none 0 0, .bool false])) w' := by
  have e : rowOut ys s rd = ([], false) := by unfold rowOut; rw [h]; rfl
  unfold RowTold
  rw [e]
  exact ⟨⟨none, 0, rfl, ⟨.inl rfl⟩⟩, hb⟩
theorem RowTold.yes {ys : List Nat} {s : Nat} {rd : Bool} {w w' : World} {A : Option Addr} {c : Nat} {xs : List Nat} {n : Nat} (hl : ys.length = n) (h : (longOk n rd && mass s) = true) (hf : finL xs n = true) (hb : Below w.heap.size w w')
    (ho : Holds w' A n (fvals .f32 xs)) (hx : ∀ i, i < n → Same .f32 (nth xs i) (rowV (nth ys) s n rd i)) :
    RowTold ys s rd w (.returned (.tuple #[.slice A n c, .bool true])) w' := by
  subst hl
  have hr : rowFin (nth ys) s ys.length rd = true := by rw [← finL_row hx]; exact hf
  have e : rowOut ys s rd = (rowL (nth ys) s ys.length rd, true) := by unfold rowOut; rw [h, hr]; rfl
  have hlen := rowL_length (nth ys) s ys.length rd
  unfold RowTold
  rw [e]
  simp only []
  rw [hlen]
  exact ⟨⟨_, _, rfl, holds_congr ho fun i hi => row_exact hx hr i hi⟩, hb⟩

theorem spec_l03Row (a : Option Addr) (n cap : Nat) (ys : List Nat) (s : Nat) (rd : Bool) (w : World) (hs : Holds w a n (fvals .f32 ys)) (h : longOk n rd = true) :
    Calls Try.prog 69 #[.slice a n cap, .float .f32 s, .bool rd] w fun e w' => RowIs ys s n rd w e w' := by
  cases rd with
  | true => exact spec_l03Row_round a n cap ys s w hs (longOk_round.1 h).1 (longOk_round.1 h).2
  | false => exact spec_l03Row_open a n cap ys s w hs (longOk_open.1 h).1 (longOk_open.1 h).2

set_option maxHeartbeats 1000000 in
set_option maxRecDepth 100000 in
theorem spec_SolveRow (a : Option Addr) (n cap : Nat) (ys : List Nat) (s : Nat) (rd : Bool) (w : World) (hs : Holds w a n (fvals .f32 ys)) (hl : ys.length = n) (hn : n ≤ maxLen) :
    Calls Try.prog 32 #[.slice a n cap, .float .f32 s, .bool rd] w fun e w' => RowTold ys s rd w e w' := by
  cases h1 : longOk n rd with
  | false =>
    have HH : Hid ((longOk ys.length rd && mass s && rowFin (nth ys) s ys.length rd) = false) := Lib.hid (by rw [hl, h1]; rfl)
    clear hs hl hn
    go_enter Try.func32, Try.ntmps32
    go_wp2_with (go_at_call 67; refine (spec_l03Long n rd _).mono ?_; rw [h1]; rintro e w' ⟨rfl, rfl⟩)
    go_ret2
    exact RowTold.no HH.out (below_drewN (Below.refl _ _) 0)
  | true =>
    cases h2 : mass s with
    | false =>
      have HH : Hid ((longOk ys.length rd && mass s && rowFin (nth ys) s ys.length rd) = false) := Lib.hid (by rw [h2, Bool.and_false]; rfl)
      clear hs hl hn
      go_enter Try.func32, Try.ntmps32
      go_wp2_with (first | (go_at_call 67; refine (spec_l03Long n rd _).mono ?_; rw [h1]; rintro e w' ⟨rfl, rfl⟩) | (go_at_call 68; refine (spec_l03Least s _).mono ?_; rw [h2]; rintro e w' ⟨n0, rfl, rfl⟩))
      go_ret2
      exact RowTold.no HH.out (below_drewN (Below.refl _ _) _)
    | true =>
      have HS := Lib.hid hs
      have HL := Lib.hid hl
      have HM : Hid ((longOk n rd && mass s) = true) := Lib.hid (by rw [h1, h2]; rfl)
      have HN := Lib.hid (longOk_two h1)
      clear hs hl hn
      go_enter Try.func32, Try.ntmps32
      go_wp2_with (first | (go_at_call 67; refine (spec_l03Long n rd _).mono ?_; rw [h1]; rintro e w' ⟨rfl, rfl⟩) | (go_at_call 68; refine (spec_l03Least s _).mono ?_; rw [h2]; rintro e w' ⟨n0, rfl, rfl⟩) | (go_at_call 69; refine (spec_l03Row a n cap ys s rd _ (HS.out.drewN _) h1).mono ?_; rintro e w4 ⟨⟨A, c, xs, rfl, hx, hv⟩, hb⟩; have HX := Lib.hid (And.intro hx (And.intro hv hb)); clear hx hv hb))
      go_loopw [26] (fun c26 wr => ∃ k m : Nat, k ≤ n ∧ c26 = .int .i64 (k : Int) ∧ wr = w4.drewN m ∧ Hid (finL xs k = true)) (fun c26 _ => n - (intOf c26).toNat)
      case atStart => exact ⟨0, 0, by omega, rfl, rfl, Lib.hid rfl⟩
      case round =>
        obtain ⟨k, m, hk, rfl, rfl, HF⟩ := hrel
        have h64 : n ≤ 64 := HN.out.2
        by_cases hlt : k < n
        · obtain ⟨b, o, rfl, c0⟩ : ∃ b o, A = some ⟨b, o, none⟩ ∧ w4.cell? ⟨b, o + k, none⟩ = some (.float .f32 (nth xs k)) := by
            rcases HX.out.1.split with h0 | ⟨b, o, e, hb, hc⟩
            · omega
            · exact ⟨b, o, e, hc k hlt⟩
          cases hf : finB .f32 (nth xs k) with
          | true =>
            obtain ⟨el, hel⟩ : ∃ el, el = nth xs k := ⟨_, rfl⟩
            rw [← hel] at c0
            have HE : Hid (finB .f32 el = true) := Lib.hid (hel ▸ hf)
            have HK := Lib.hid hf
            clear hf hel
            go_wp2_with (go_at_call 51; refine (spec_l01Finite _ _).mono ?_; rw [HE.out]; rintro e w' ⟨n1, rfl, rfl⟩)
            go_roundw
            case rel => exact ⟨k + 1, _, by omega, by go_num, rfl, Lib.hid (by unfold finL; rw [HF.out]; exact HK.out)⟩
            case measure => simp [intOf]; omega
          | false =>
            have HB : Hid (Below w.heap.size w w4) := Lib.hid (keep_trans (below_drewN (Below.refl _ _) _) HX.out.2.2)
            have HH : Hid ((longOk ys.length rd && mass s && rowFin (nth ys) s ys.length rd) = false) := Lib.hid (by
              rw [HL.out, ← finL_row HX.out.2.1, finL_false hlt hf, Bool.and_false])
            obtain ⟨el, hel⟩ : ∃ el, el = nth xs k := ⟨_, rfl⟩
            rw [← hel] at c0
            have HE : Hid (finB .f32 el = false) := Lib.hid (hel ▸ hf)
            clear hf hel
            go_wp2_with (go_at_call 51; refine (spec_l01Finite _ _).mono ?_; rw [HE.out]; rintro e w' ⟨n1, rfl, rfl⟩)
            go_ret2
            exact RowTold.no HH.out (below_drewN HB.out _)
        · have hk2 : k = n := by omega
          subst hk2
          have HB : Hid (Below w.heap.size w w4) := Lib.hid (keep_trans (below_drewN (Below.refl _ _) _) HX.out.2.2)
          go_wp2
          go_ret2
          exact RowTold.yes HL.out HM.out HF.out (below_drewN HB.out _) (HX.out.1.drewN _) HX.out.2.1
end Go.Proofs.Ytcnamhmoocdccaa
