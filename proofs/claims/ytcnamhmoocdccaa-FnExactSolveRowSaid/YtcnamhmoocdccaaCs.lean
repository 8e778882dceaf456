/- Contracts of the functions on lists of 32-bit numbers: copies, comparison, sums. Under no condition. -/
import Derived.Test.YtcnamhmoocdccaaCd
import Derived.Test.YtcnamhmoocdccaaSl
import Derived.Deep.RegionWith
import Derived.Lib.Hide
namespace Go.Proofs.Ytcnamhmoocdccaa
open Go Go.RowKit
set_option linter.unusedVariables false
set_option linter.unusedSimpArgs false

theorem infof32 : (Try.prog.info? 27).map (fun i => (i.zero, i.size, i.bytes)) = some (some (.float .f32 0), 1, 4) := by kernel_rfl

theorem mk_f32 (n : Nat) (h : n ≤ 1048576) (w : World) : (Instr.makeSlice 25 (.int .i64 n) (.int .i64 n)).run Try.prog w = .ok (.slice (some ⟨w.heap.size, 0, none⟩) n n) (w.alloc (.cells (Array.replicate n (.float .f32 0)) 27)) := by
  obtain ⟨i0, hi, hz0, hz1, hz2⟩ := info_parts infof32
  rw [run_make w 25 27 i0 (.float .f32 0) Try.underlying25 hi hz0 .i64 .i64 n n (by omega) (by omega) (by rw [hz2]; omega) (by omega)]
  rw [Int.toNat_natCast, hz1, Nat.mul_one]
  have e : madeCells (Value.cells (.float .f32 0)) n = Array.replicate n (.float .f32 0) := by
    apply Array.ext
    · simp [madeCells]
    · intro i h1 h2
      have h0 : i % 1 = 0 := Nat.mod_one i
      simp [madeCells, Value.cells, h0]
  first | rw [← e] | (rw [← e]; rfl)

theorem getD_lt {α : Type} {xs : Array α} {i : Nat} (h : i < xs.size) : ∃ v, xs[i]? = some v := ⟨xs[i], by simp [h]⟩

/-- A copy of a list in a block of its own. -/
def CopyOf (E : TypeId) (V : Nat → Value) (len : Nat) (w : World) (e : Ending) (w' : World) : Prop :=
  e = .returned (.slice (some ⟨w.heap.size, 0, none⟩) len len) ∧ Below w.heap.size w w' ∧ ∃ cur, Own w' w.heap.size E cur ∧ cur.size = len ∧ ∀ i, i < len → cur[i]? = some (V i)

theorem laws_toFloat32S (a : Option Addr) (len cap : Nat) (xs : List Nat) (w : World) (hs : Holds w a len (fvals .f32 xs)) (hl : len ≤ 1048576) :
    Calls Try.prog 33 #[.slice a len cap] w (CopyOf 27 (fvals .f32 xs) len w) := by
  have hmk := mk_f32 len hl
  have H := Lib.hid hs.split
  clear hs
  go_enter Try.func33, Try.ntmps33
  go_wp2
  go_loopw [4] (fun i wr => ∃ k : Nat, k ≤ len ∧ i = .int .i64 k ∧ Below w.heap.size w wr ∧ ∃ cur, Own wr w.heap.size 27 cur ∧ cur.size = len ∧ ∀ j, j < k → cur[j]? = some (fvals .f32 xs j)) (fun i _ => len - (intOf i).toNat)
  case atStart => exact ⟨0, Nat.zero_le _, rfl, (Below.refl _ _).alloc (Nat.le_refl _) _, _, Own.alloc _ _ _, by simp, fun j hj => absurd hj (Nat.not_lt_zero _)⟩
  case round =>
    obtain ⟨k, hk, rfl, hb, cur, hown, hsz, hcur⟩ := hrel
    by_cases hlt : k < len
    · rcases H.out with h0 | ⟨b, o, rfl, hbl, hc⟩
      · omega
      · have hck : wr.cell? ⟨b, o + k, none⟩ = some (.float .f32 (xs.getD k 0)) := by
          exact (hb.cell (p := ⟨b, o + k, none⟩) hbl).trans (hc k hlt)
        obtain ⟨v0, hv0⟩ := getD_lt (xs := cur) (i := k) (by omega)
        have hcB : wr.cell? ⟨w.heap.size, k, none⟩ = some v0 := by rw [hown.cell, hv0]
        have hfB : wr.frozen? ⟨w.heap.size, k, none⟩ = false := hown.frozen k
        have HOWN := Lib.hid hown
        have HB := Lib.hid hb
        have HS := Lib.hid hsz
        have HC := Lib.hid hcur
        clear hown hb hsz hcur hc hmk hv0
        go_wp2
        go_roundw
        case rel =>
          refine ⟨k + 1, by omega, by go_num, HB.out.setCell (by simp) _, _, HOWN.out.set _ _, by simp [HS.out], ?_⟩
          intro j hj
          rw [Array.getElem?_setIfInBounds]
          by_cases e : k = j
          · subst e
            have : k < cur.size := by rw [HS.out]; exact hlt
            simp [this, fvals]
          · rw [if_neg e]; exact HC.out j (by omega)
        case measure => simp [intOf]; omega
    · have hk2 : k = len := by omega
      subst hk2
      have HOWN := Lib.hid hown
      have HB := Lib.hid hb
      have HS := Lib.hid hsz
      have HC := Lib.hid hcur
      clear hown hb hsz hcur
      go_wp2
      go_ret
      exact ⟨rfl, HB.out, cur, HOWN.out, HS.out, HC.out⟩

/-- A 32-bit number made a 64-bit one, whatever the world. -/
theorem conv_wid (x : Nat) : ∃ (v n : World → Nat), (∀ w, (convert 27 31 (.float .f32 x)).run Try.prog w = .ok (.float .f64 (v w)) (w.drewN (n w))) ∧ ∀ w, Same .f64 (v w) (fwid x) := by
  have h : ∀ w, ∃ p : Nat × Nat, (convert 27 31 (.float .f32 x)).run Try.prog w = .ok (.float .f64 p.1) (w.drewN p.2) ∧ Same .f64 p.1 (fwid x) := by
    intro w
    obtain ⟨r, n, h1, h2, _⟩ := run_fconv (P := Try.prog) 27 31 .f32 .f64 (by decide) x w (by rw [Try.underlying27]; rfl) Try.underlying31
    exact ⟨(r, n), h1, h2 (fover_wid x)⟩
  obtain ⟨f, hf⟩ := Classical.skolem.1 h
  exact ⟨fun w => (f w).1, fun w => (f w).2, fun w => (hf w).1, fun w => (hf w).2⟩

set_option maxHeartbeats 4000000 in
theorem laws_eqFloat32S (a b : Option Addr) (len cap cap' : Nat) (xs ys : List Nat) (w : World) (hx : Holds w a len (fvals .f32 xs)) (hy : Holds w b len (fvals .f32 ys)) (hl : len ≤ 1048576)
    (hsame : ∀ i, i < len → Same .f32 (xs.getD i 0) (ys.getD i 0)) :
    Calls Try.prog 34 #[.slice a len cap, .slice b len cap'] w fun e w' => ∃ n, e = .returned (.bool true) ∧ w' = w.drewN n := by
  have HX := Lib.hid hx.split
  have HY := Lib.hid hy.split
  have HE := Lib.hid hsame
  clear hx hy hsame
  go_enter Try.func34, Try.ntmps34
  go_wp2
  go_loopw [5] (fun i wr => ∃ k : Nat, k ≤ len ∧ i = .int .i64 k ∧ ∃ n, wr = w.drewN n) (fun i _ => len - (intOf i).toNat)
  case atStart => exact ⟨0, Nat.zero_le _, rfl, 0, rfl⟩
  case round =>
    obtain ⟨k, hk, rfl, n, rfl⟩ := hrel
    by_cases hlt : k < len
    · rcases HX.out with h0 | ⟨bx, ox, rfl, hbx, hcx⟩
      · omega
      rcases HY.out with h0 | ⟨bY, oY, rfl, hby, hcy⟩
      · omega
      have h1 : w.cell? ⟨bx, ox + k, none⟩ = some (.float .f32 (xs[k]?.getD 0)) := hcx k hlt
      have h2 : w.cell? ⟨bY, oY + k, none⟩ = some (.float .f32 (ys[k]?.getD 0)) := hcy k hlt
      have h3 : Same .f32 (xs[k]?.getD 0) (ys[k]?.getD 0) := HE.out k hlt
      clear HX HY HE hcx hcy
      generalize xs[k]?.getD 0 = x at *
      generalize ys[k]?.getD 0 = y at *
      obtain ⟨v1, n1, c1, s1⟩ := conv_wid x
      obtain ⟨v2, n2, c2, s2⟩ := conv_wid y
      have S12 : Hid (∀ w1 w2, Same .f64 (v1 w1) (v2 w2)) := Lib.hid fun w1 w2 => (s1 w1).trans ((⟨by unfold fwid; rw [h3.conv]⟩ : Same .f64 (fwid x) (fwid y)).trans (s2 w2).symm)
      clear s1 s2 h3
      go_wp2
      go_region_with (first | (go_at_call 19; refine (sameFloat_true _ _ _ ?_).mono ?_; (exact S12.out _ _); rintro e w' ⟨n5, rfl, rfl⟩))
      all_goals
        go_wp2
        go_roundw
        case rel => exact ⟨k + 1, by omega, by go_num, _, rfl⟩
        case measure => simp [intOf]; omega
    · have hk2 : k = len := by omega
      subst hk2
      go_wp2
      go_ret
      exact ⟨_, rfl, rfl⟩

end Go.Proofs.Ytcnamhmoocdccaa
