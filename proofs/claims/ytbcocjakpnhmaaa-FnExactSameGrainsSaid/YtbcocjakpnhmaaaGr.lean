/- Contracts on lists of whole numbers and on grains. Under no condition. -/
import Derived.Test.YtbcocjakpnhmaaaFe
namespace Go.Proofs.Ytbcocjakpnhmaaa
open Go Go.RowKit
set_option linter.unusedVariables false
set_option linter.unusedSimpArgs false

def eqL (len len' : Nat) (xs ys : List Int) : Bool := decide (len = len' ∧ ∀ i, i < len → xs.getD i 0 = ys.getD i 0)
theorem eqL_snoc {k : Nat} {xs ys : List Int} (h : ∀ i, i < k → xs.getD i 0 = ys.getD i 0) (e : xs.getD k 0 = ys.getD k 0) : ∀ i, i < k + 1 → xs.getD i 0 = ys.getD i 0 := by
  intro i hi
  by_cases hk : i = k
  · subst hk; exact e
  · exact h i (by omega)
theorem eqL_no {k len : Nat} {xs ys : List Int} (hk : k < len) (h : ¬ xs.getD k 0 = ys.getD k 0) : eqL len len xs ys = false := by
  unfold eqL; rw [decide_eq_false_iff_not]; exact fun g => h (g.2 k hk)
theorem eqL_yes {len : Nat} {xs ys : List Int} (h : ∀ i, i < len → xs.getD i 0 = ys.getD i 0) : eqL len len xs ys = true := by
  unfold eqL; rw [decide_eq_true_eq]; exact ⟨rfl, h⟩

set_option maxHeartbeats 1000000 in
theorem laws_eqInt64S (a b : Option Addr) (len len' cap cap' : Nat) (xs ys : List Int) (w : World) (hx : Holds w a len (ivals .i64 xs)) (hy : Holds w b len' (ivals .i64 ys)) (hl : len ≤ 9223372036854775807) (hl' : len' ≤ 9223372036854775807) :
    Calls Try.prog 52 #[.slice a len cap, .slice b len' cap'] w fun e w' => ∃ n, e = .returned (.bool (eqL len len' xs ys)) ∧ w' = w.drewN n := by
  by_cases hne : len = len'
  · subst hne
    have HX := Lib.hid hx.split
    have HY := Lib.hid hy.split
    clear hx hy
    go_enter Try.func52, Try.ntmps52
    go_wp2
    go_loopw [5] (fun i wr => ∃ k : Nat, k ≤ len ∧ i = .int .i64 k ∧ Hid (∀ i, i < k → xs.getD i 0 = ys.getD i 0) ∧ ∃ n, wr = w.drewN n) (fun i _ => len - (intOf i).toNat)
    case atStart => exact ⟨0, Nat.zero_le _, rfl, Lib.hid (fun i h => absurd h (Nat.not_lt_zero _)), 0, rfl⟩
    case round =>
      obtain ⟨k, hk, rfl, hall, n, rfl⟩ := hrel
      by_cases hlt : k < len
      · rcases HX.out with h0 | ⟨bx, ox, rfl, hbx, hcx⟩
        · omega
        rcases HY.out with h0 | ⟨bY, oY, rfl, hby, hcy⟩
        · omega
        have h1 : w.cell? ⟨bx, ox + k, none⟩ = some (.int .i64 (xs.getD k 0)) := hcx k hlt
        have h2 : w.cell? ⟨bY, oY + k, none⟩ = some (.int .i64 (ys.getD k 0)) := hcy k hlt
        clear HX HY hcx hcy
        by_cases hE : xs.getD k 0 = ys.getD k 0
        · have HN := Lib.hid (eqL_snoc hall.out hE)
          rw [← hE] at h2
          clear hE
          generalize xs.getD k 0 = x at h1 h2
          have hb : (x != x) = false := by simp
          go_wp2
          all_goals (try go_region)
          all_goals
            go_wp2
            go_roundw
            case rel => exact ⟨k + 1, by omega, by go_num, HN, _, rfl⟩
            case measure => simp [intOf]; omega
        · have HF := Lib.hid (eqL_no hlt hE)
          have hb : (xs.getD k 0 != ys.getD k 0) = true := by simpa using hE
          clear hE
          generalize xs.getD k 0 = x at h1 hb
          generalize ys.getD k 0 = y at h2 hb
          go_wp2
          all_goals (try go_region)
          all_goals
            go_wp2
            go_ret
            exact ⟨_, ret_bool HF.out.symm, rfl⟩
      · have hk2 : k = len := by omega
        subst hk2
        have HT := Lib.hid (eqL_yes hall.out)
        go_wp2
        go_ret
        exact ⟨_, ret_bool HT.out.symm, rfl⟩
  · have hb : ((len : Int) != (len' : Int)) = true := by rw [bne_iff_ne]; omega
    have HF : Hid (eqL len len' xs ys = false) := Lib.hid (by simp [eqL, hne])
    go_enter Try.func52, Try.ntmps52
    go_wp2
    go_ret
    exact ⟨0, ret_bool HF.out.symm, rfl⟩

set_option maxHeartbeats 1000000 in
theorem spec_l00Same (a b : Option Addr) (len len' cap cap' : Nat) (xs ys : List Int) (w : World) (hx : Holds w a len (ivals .i64 xs)) (hy : Holds w b len' (ivals .i64 ys)) (hl : len ≤ 9223372036854775807) (hl' : len' ≤ 9223372036854775807) :
    Calls Try.prog 49 #[.slice a len cap, .slice b len' cap'] w fun e w' => ∃ n, e = .returned (.bool (eqL len len' xs ys)) ∧ w' = w.drewN n := by
  by_cases hne : len = len'
  · subst hne
    have HX := Lib.hid hx.split
    have HY := Lib.hid hy.split
    clear hx hy
    go_enter Try.func49, Try.ntmps49
    go_wp2
    go_loopw [5] (fun i wr => ∃ k : Nat, k ≤ len ∧ i = .int .i64 k ∧ Hid (∀ i, i < k → xs.getD i 0 = ys.getD i 0) ∧ ∃ n, wr = w.drewN n) (fun i _ => len - (intOf i).toNat)
    case atStart => exact ⟨0, Nat.zero_le _, rfl, Lib.hid (fun i h => absurd h (Nat.not_lt_zero _)), 0, rfl⟩
    case round =>
      obtain ⟨k, hk, rfl, hall, n, rfl⟩ := hrel
      by_cases hlt : k < len
      · rcases HX.out with h0 | ⟨bx, ox, rfl, hbx, hcx⟩
        · omega
        rcases HY.out with h0 | ⟨bY, oY, rfl, hby, hcy⟩
        · omega
        have h1 : w.cell? ⟨bx, ox + k, none⟩ = some (.int .i64 (xs.getD k 0)) := hcx k hlt
        have h2 : w.cell? ⟨bY, oY + k, none⟩ = some (.int .i64 (ys.getD k 0)) := hcy k hlt
        clear HX HY hcx hcy
        by_cases hE : xs.getD k 0 = ys.getD k 0
        · have HN := Lib.hid (eqL_snoc hall.out hE)
          rw [← hE] at h2
          clear hE
          generalize xs.getD k 0 = x at h1 h2
          have hb : (x != x) = false := by simp
          go_wp2
          all_goals (try go_region)
          all_goals
            go_wp2
            go_roundw
            case rel => exact ⟨k + 1, by omega, by go_num, HN, _, rfl⟩
            case measure => simp [intOf]; omega
        · have HF := Lib.hid (eqL_no hlt hE)
          have hb : (xs.getD k 0 != ys.getD k 0) = true := by simpa using hE
          clear hE
          generalize xs.getD k 0 = x at h1 hb
          generalize ys.getD k 0 = y at h2 hb
          go_wp2
          all_goals (try go_region)
          all_goals
            go_wp2
            go_ret
            exact ⟨_, ret_bool HF.out.symm, rfl⟩
      · have hk2 : k = len := by omega
        subst hk2
        have HT := Lib.hid (eqL_yes hall.out)
        go_wp2
        go_ret
        exact ⟨_, ret_bool HT.out.symm, rfl⟩
  · have hb : ((len : Int) != (len' : Int)) = true := by rw [bne_iff_ne]; omega
    have HF : Hid (eqL len len' xs ys = false) := Lib.hid (by simp [eqL, hne])
    go_enter Try.func49, Try.ntmps49
    go_wp2
    go_ret
    exact ⟨0, ret_bool HF.out.symm, rfl⟩

set_option maxHeartbeats 1000000 in
theorem slices_Equal (a b : Option Addr) (len len' cap cap' : Nat) (xs ys : List Int) (w : World) (hx : Holds w a len (ivals .i64 xs)) (hy : Holds w b len' (ivals .i64 ys)) (hl : len ≤ 9223372036854775807) (hl' : len' ≤ 9223372036854775807) :
    Calls Try.prog 51 #[.slice a len cap, .slice b len' cap'] w fun e w' => ∃ n, e = .returned (.bool (eqL len len' xs ys)) ∧ w' = w.drewN n := by
  by_cases hne : len = len'
  · subst hne
    have HX := Lib.hid hx.split
    have HY := Lib.hid hy.split
    clear hx hy
    go_enter Try.func51, Try.ntmps51
    go_wp2
    go_loopw [13] (fun i wr => ∃ k : Nat, k ≤ len ∧ i = .int .i64 k ∧ Hid (∀ i, i < k → xs.getD i 0 = ys.getD i 0) ∧ ∃ n, wr = w.drewN n) (fun i _ => len - (intOf i).toNat)
    case atStart => exact ⟨0, Nat.zero_le _, rfl, Lib.hid (fun i h => absurd h (Nat.not_lt_zero _)), 0, rfl⟩
    case round =>
      obtain ⟨k, hk, rfl, hall, n, rfl⟩ := hrel
      by_cases hlt : k < len
      · rcases HX.out with h0 | ⟨bx, ox, rfl, hbx, hcx⟩
        · omega
        rcases HY.out with h0 | ⟨bY, oY, rfl, hby, hcy⟩
        · omega
        have h1 : w.cell? ⟨bx, ox + k, none⟩ = some (.int .i64 (xs.getD k 0)) := hcx k hlt
        have h2 : w.cell? ⟨bY, oY + k, none⟩ = some (.int .i64 (ys.getD k 0)) := hcy k hlt
        clear HX HY hcx hcy
        by_cases hE : xs.getD k 0 = ys.getD k 0
        · have HN := Lib.hid (eqL_snoc hall.out hE)
          rw [← hE] at h2
          clear hE
          generalize xs.getD k 0 = x at h1 h2
          have hb : (x != x) = false := by simp
          go_wp2
          all_goals (try go_region)
          all_goals
            go_wp2
            go_roundw
            case rel => exact ⟨k + 1, by omega, by go_num, HN, _, rfl⟩
            case measure => simp [intOf]; omega
        · have HF := Lib.hid (eqL_no hlt hE)
          have hb : (xs.getD k 0 != ys.getD k 0) = true := by simpa using hE
          clear hE
          generalize xs.getD k 0 = x at h1 hb
          generalize ys.getD k 0 = y at h2 hb
          go_wp2
          all_goals (try go_region)
          all_goals
            go_wp2
            go_ret
            exact ⟨_, ret_bool HF.out.symm, rfl⟩
      · have hk2 : k = len := by omega
        subst hk2
        have HT := Lib.hid (eqL_yes hall.out)
        go_wp2
        go_ret
        exact ⟨_, ret_bool HT.out.symm, rfl⟩
  · have hb : ((len : Int) != (len' : Int)) = true := by rw [bne_iff_ne]; omega
    have HF : Hid (eqL len len' xs ys = false) := Lib.hid (by simp [eqL, hne])
    go_enter Try.func51, Try.ntmps51
    go_wp2
    go_ret
    exact ⟨0, ret_bool HF.out.symm, rfl⟩
theorem infoi64 : (Try.prog.info? 2).map (fun i => (i.zero, i.size, i.bytes)) = some (some (.int .i64 0), 1, 8) := by kernel_rfl

theorem mk_i64 (n : Nat) (h : n ≤ 1048576) (w : World) : (Instr.makeSlice 22 (.int .i64 n) (.int .i64 n)).run Try.prog w = .ok (.slice (some ⟨w.heap.size, 0, none⟩) n n) (w.alloc (.cells (Array.replicate n (.int .i64 0)) 2)) := by
  obtain ⟨i0, hi, hz0, hz1, hz2⟩ := info_parts infoi64
  rw [run_make w 22 2 i0 (.int .i64 0) Try.underlying22 hi hz0 .i64 .i64 n n (by omega) (by omega) (by rw [hz2]; omega) (by omega)]
  rw [Int.toNat_natCast, hz1, Nat.mul_one]
  have e : madeCells (Value.cells (.int .i64 0)) n = Array.replicate n (.int .i64 0) := by
    apply Array.ext
    · simp [madeCells]
    · intro i h1 h2
      have h0 : i % 1 = 0 := Nat.mod_one i
      simp [madeCells, Value.cells, h0]
  first | rw [← e] | (rw [← e]; rfl)

theorem laws_toInt64S (a : Option Addr) (len cap : Nat) (xs : List Int) (w : World) (hs : Holds w a len (ivals .i64 xs)) (hl : len ≤ 1048576) :
    Calls Try.prog 50 #[.slice a len cap] w (CopyOf 2 (ivals .i64 xs) len w) := by
  have hmk := mk_i64 len hl
  have H := Lib.hid hs.split
  clear hs
  go_enter Try.func50, Try.ntmps50
  go_wp2
  go_loopw [4] (fun i wr => ∃ k : Nat, k ≤ len ∧ i = .int .i64 k ∧ Below w.heap.size w wr ∧ ∃ cur, Own wr w.heap.size 2 cur ∧ cur.size = len ∧ ∀ j, j < k → cur[j]? = some (ivals .i64 xs j)) (fun i _ => len - (intOf i).toNat)
  case atStart => exact ⟨0, Nat.zero_le _, rfl, (Below.refl _ _).alloc (Nat.le_refl _) _, _, Own.alloc _ _ _, by simp, fun j hj => absurd hj (Nat.not_lt_zero _)⟩
  case round =>
    obtain ⟨k, hk, rfl, hb, cur, hown, hsz, hcur⟩ := hrel
    by_cases hlt : k < len
    · rcases H.out with h0 | ⟨b, o, rfl, hbl, hc⟩
      · omega
      · have hck : wr.cell? ⟨b, o + k, none⟩ = some (.int .i64 (xs.getD k 0)) := by
          exact (hb.cell (p := ⟨b, o + k, none⟩) hbl).trans (hc k hlt)
        obtain ⟨v0, hv0⟩ := getD_lt (xs := cur) (i := k) (by omega)
        have hcB : wr.cell? ⟨w.heap.size, k, none⟩ = some v0 := by rw [hown.cell, hv0]
        have hfB : wr.frozen? ⟨w.heap.size, k, none⟩ = false := hown.frozen k
        have HOWN := Lib.hid hown
        have HB := Lib.hid hb
        have HS := Lib.hid hsz
        have HC := Lib.hid hcur
        clear hown hb hsz hcur hc hmk hv0
        go_wp2
        go_roundw
        case rel =>
          refine ⟨k + 1, by omega, by go_num, HB.out.setCell (by simp) _, _, HOWN.out.set _ _, by simp [HS.out], ?_⟩
          intro j hj
          rw [Array.getElem?_setIfInBounds]
          by_cases e : k = j
          · subst e
            have : k < cur.size := by rw [HS.out]; exact hlt
            simp [this, ivals]
          · rw [if_neg e]; exact HC.out j (by omega)
        case measure => simp [intOf]; omega
    · have hk2 : k = len := by omega
      subst hk2
      have HOWN := Lib.hid hown
      have HB := Lib.hid hb
      have HS := Lib.hid hsz
      have HC := Lib.hid hcur
      clear hown hb hsz hcur
      go_wp2
      go_ret
      exact ⟨rfl, HB.out, cur, HOWN.out, HS.out, HC.out⟩

/-- Grains in memory. -/
structure GrainsAt (w : World) (b : Nat) (x y : Int) (s : Value) : Prop where
  lt : b < w.heap.size
  x : w.cell? ⟨b, 0, none⟩ = some (.int .i64 x)
  y : w.cell? ⟨b, 1, none⟩ = some (.int .i64 y)
  s : w.cell? ⟨b, 2, none⟩ = some s

theorem GrainsAt.keep {w w' : World} {b : Nat} {x y : Int} {s : Value} (h : GrainsAt w b x y s) (k : Below w.heap.size w w') : GrainsAt w' b x y s :=
  ⟨Nat.lt_of_lt_of_le h.lt k.size, (k.cell (p := ⟨b, 0, none⟩) h.lt).trans h.x, (k.cell (p := ⟨b, 1, none⟩) h.lt).trans h.y, (k.cell (p := ⟨b, 2, none⟩) h.lt).trans h.s⟩
theorem GrainsAt.drewN {w : World} {b : Nat} {x y : Int} {s : Value} (h : GrainsAt w b x y s) (n : Nat) : GrainsAt (w.drewN n) b x y s := ⟨h.lt, h.x, h.y, h.s⟩
theorem gbox_in (w : World) (x y : Int) (s : Value) (t : TypeId) : GrainsAt (w.alloc (.cells #[.int .i64 x, .int .i64 y, s] t)) w.heap.size x y s :=
  ⟨by simp, by go_simp, by go_simp, by go_simp⟩

/-- How much of a budget a list leaves. -/
def leftI (l : Int) (len : Nat) : Int := if (len : Int) ≤ l then l - len else -1

theorem laws_szInt64S (a : Option Addr) (len cap : Nat) (l : Int) (w : World) (hl : len ≤ 9223372036854775807) (h0 : 0 ≤ l) (h1 : l ≤ 1048576) :
    Calls Try.prog 48 #[.slice a len cap, .int .i64 l] w fun e w' => e = .returned (.int .i64 (leftI l len)) ∧ w = w' := by
  by_cases h : (len : Int) ≤ l
  · have e : leftI l len = l - len := by simp [leftI, h]
    rw [e]
    go_enter Try.func48, Try.ntmps48
    go_wp2
    go_ret
    exact ⟨rfl, rfl⟩
  · have e : leftI l len = -1 := by simp [leftI, h]
    rw [e]
    go_enter Try.func48, Try.ntmps48
    go_wp2
    go_ret
    exact ⟨rfl, rfl⟩

theorem laws_szGrains (x y : Int) (a : Option Addr) (len cap : Nat) (l : Int) (w : World) (hl : len ≤ 9223372036854775807) (h0 : 0 ≤ l) (h1 : l ≤ 1048576) :
    Calls Try.prog 15 #[.agg #[.int .i64 x, .int .i64 y, .slice a len cap], .int .i64 l] w fun e w' => e = .returned (.int .i64 (leftI l len)) ∧ Below w.heap.size w w' := by
  by_cases h : (len : Int) ≤ l
  · have e2 : Hid (leftI l len = l - len) := Lib.hid (by simp [leftI, h])
    go_enter Try.func15, Try.ntmps15
    go_wp2_with (first | (go_at_call 48; refine (laws_szInt64S _ _ _ _ _ hl h0 h1).mono ?_; rintro e w' ⟨rfl, rfl⟩; rw [e2.out]))
    go_ret
    exact ⟨ret_i64 e2.out.symm, (Below.refl _ _).alloc (Nat.le_refl _) _⟩
  · have e2 : Hid (leftI l len = -1) := Lib.hid (by simp [leftI, h])
    go_enter Try.func15, Try.ntmps15
    go_wp2_with (first | (go_at_call 48; refine (laws_szInt64S _ _ _ _ _ hl h0 h1).mono ?_; rintro e w' ⟨rfl, rfl⟩; rw [e2.out]))
    go_ret
    exact ⟨ret_i64 e2.out.symm, (Below.refl _ _).alloc (Nat.le_refl _) _⟩

def GrainsCopy (x y : Int) (V : Nat → Value) (len : Nat) (w : World) (e : Ending) (w' : World) : Prop :=
  ∃ B cur, e = .returned (.agg #[.int .i64 x, .int .i64 y, .slice (some ⟨B, 0, none⟩) len len]) ∧ Below w.heap.size w w' ∧ w.heap.size ≤ B ∧ Own w' B 2 cur ∧ cur.size = len ∧ ∀ i, i < len → cur[i]? = some (V i)

theorem laws_toGrains (x y : Int) (a : Option Addr) (len cap : Nat) (xs : List Int) (w : World) (hs : Holds w a len (ivals .i64 xs)) (hl : len ≤ 1048576) :
    Calls Try.prog 17 #[.agg #[.int .i64 x, .int .i64 y, .slice a len cap]] w (GrainsCopy x y (ivals .i64 xs) len w) := by
  go_enter Try.func17, Try.ntmps17
  go_wp2_with fail
  refine (laws_toInt64S a len cap xs _ (hs.below ((((Below.refl w.heap.size w).alloc (Nat.le_refl _) _).alloc (by simp) _).alloc (by simp; omega) _) (Nat.le_refl _)) hl).mono ?_
  rintro e w1 ⟨rfl, hb, cur, ho, hz, hc⟩
  have f : ∀ b i : Nat, b < w.heap.size + 1 + 1 + 1 → _ := fun b i (h : b < w.heap.size + 1 + 1 + 1) => hb.cell (p := ⟨b, i, none⟩) (by simpa using h)
  have g : ∀ b i : Nat, b < w.heap.size + 1 + 1 + 1 → _ := fun b i (h : b < w.heap.size + 1 + 1 + 1) => hb.frozen (p := ⟨b, i, none⟩) (by simpa using h)
  have c20 : w1.cell? ⟨w.heap.size + 1 + 1, 0, none⟩ = some (.int .i64 x) := (f _ 0 (by omega)).trans (by go_simp)
  have c21 : w1.cell? ⟨w.heap.size + 1 + 1, 1, none⟩ = some (.int .i64 y) := (f _ 1 (by omega)).trans (by go_simp)
  have c23 : w1.cell? ⟨w.heap.size + 1 + 1, 2, none⟩ = some (.slice none 0 0) := (f _ 2 (by omega)).trans (by go_simp)
  have c10 : w1.cell? ⟨w.heap.size + 1, 0, none⟩ = some (.int .i64 0) := (f _ 0 (by omega)).trans (by go_simp)
  have c11 : w1.cell? ⟨w.heap.size + 1, 1, none⟩ = some (.int .i64 0) := (f _ 1 (by omega)).trans (by go_simp)
  have c13 : w1.cell? ⟨w.heap.size + 1, 2, none⟩ = some (.slice none 0 0) := (f _ 2 (by omega)).trans (by go_simp)
  have z23 : w1.frozen? ⟨w.heap.size + 1 + 1, 2, none⟩ = false := (g _ 2 (by omega)).trans (by go_simp)
  have z10 : w1.frozen? ⟨w.heap.size + 1, 0, none⟩ = false := (g _ 0 (by omega)).trans (by go_simp)
  have z11 : w1.frozen? ⟨w.heap.size + 1, 1, none⟩ = false := (g _ 1 (by omega)).trans (by go_simp)
  have z13 : w1.frozen? ⟨w.heap.size + 1, 2, none⟩ = false := (g _ 2 (by omega)).trans (by go_simp)
  have hsize : w.heap.size + 1 + 1 + 1 < w1.heap.size := by have := ho.lt; simpa using this
  have HO := Lib.hid ho
  have HZ := Lib.hid hz
  have HC := Lib.hid hc
  have HB := Lib.hid hb
  clear f g hb ho hz hc hs
  go_wp2
  refine bodyPost_ret (v := .agg #[.int .i64 x, .int .i64 y, .slice (some ⟨w.heap.size + 1 + 1 + 1, 0, none⟩) len len]) (by simp [results, Try.results17, go_sem, *]) rfl
    ⟨w.heap.size + 1 + 1 + 1, cur, rfl, ?_, by omega, ?_, HZ.out, HC.out⟩
  · have K := keep_trans ((((Below.refl w.heap.size w).alloc (Nat.le_refl _) _).alloc (by simp) _).alloc (by simp; omega) _) HB.out
    exact (((K.setCell (by simp; omega) _).setCell (by simp) _).setCell (by simp) _).setCell (by simp) _
  · have h : Own w1 (w.heap.size + 1 + 1 + 1) 2 cur := by simpa using HO.out
    exact (((h.other (by simp) _).other (by simp) _).other (by simp) _).other (by simp) _

theorem laws_eqGrains (x y : Int) (a b : Option Addr) (len cap cap' : Nat) (xs ys : List Int) (w : World) (hx : Holds w a len (ivals .i64 xs)) (hy : Holds w b len (ivals .i64 ys)) (hl : len ≤ 1048576)
    (hsame : ∀ i, i < len → xs.getD i 0 = ys.getD i 0) :
    Calls Try.prog 19 #[.agg #[.int .i64 x, .int .i64 y, .slice a len cap], .agg #[.int .i64 x, .int .i64 y, .slice b len cap']] w fun e w' => e = .returned (.bool true) ∧ Below w.heap.size w w' := by
  have K : Below w.heap.size w ((w.alloc (.cells #[.int .i64 x, .int .i64 y, .slice a len cap] 27)).alloc (.cells #[.int .i64 x, .int .i64 y, .slice b len cap'] 27)) := ((Below.refl _ _).alloc (Nat.le_refl _) _).alloc (by simp) _
  have hx' := hx.keep K
  have hy' := hy.keep K
  have e1 : (x != x) = false := by simp
  have e2 : (y != y) = false := by simp
  have HT := Lib.hid (eqL_yes hsame)
  clear hx hy hsame
  go_enter Try.func19, Try.ntmps19
  go_wp2_with fail
  refine (laws_eqInt64S _ _ len len _ _ xs ys _ hx' hy' (by omega) (by omega)).mono ?_
  rintro e w' ⟨n, rfl, rfl⟩
  rw [HT.out]
  go_wp2
  go_ret
  exact ⟨rfl, keep_drewN K _⟩


end Go.Proofs.Ytbcocjakpnhmaaa
