/- Contracts of the functions on lists of 32-bit numbers: copies, comparison, sums. Under no condition. -/
import Derived.Test.YtpjhgfeibkldmaaGreatDoorCd
import Derived.Test.YtpjhgfeibkldmaaGreatDoorSl
import Derived.Deep.RegionWith
import Derived.Lib.Hide
namespace Go.Proofs.YtpjhgfeibkldmaaGreatDoor
open Go Go.RowKit
set_option linter.unusedVariables false
set_option linter.unusedSimpArgs false

theorem infof32 : (Tryz.prog.info? 28).map (fun i => (i.zero, i.size, i.bytes)) = some (some (.float .f32 0), 1, 4) := by kernel_rfl

theorem mk_f32 (n : Nat) (h : n ≤ 1048576) (w : World) : (Instr.makeSlice 52 (.int .i64 n) (.int .i64 n)).run Tryz.prog w = .ok (.slice (some ⟨w.heap.size, 0, none⟩) n n) (w.alloc (.cells (Array.replicate n (.float .f32 0)) 28)) := by
  obtain ⟨i0, hi, hz0, hz1, hz2⟩ := info_parts infof32
  rw [run_make w 52 28 i0 (.float .f32 0) Tryz.underlying52 hi hz0 .i64 .i64 n n (by omega) (by omega) (by rw [hz2]; omega) (by omega)]
  rw [Int.toNat_natCast, hz1, Nat.mul_one]
  have e : madeCells (Value.cells (.float .f32 0)) n = Array.replicate n (.float .f32 0) := by
    apply Array.ext
    · simp [madeCells]
    · intro i h1 h2
      have h0 : i % 1 = 0 := Nat.mod_one i
      simp [madeCells, Value.cells, h0]
  first | rw [← e] | (rw [← e]; rfl)

theorem getD_lt {α : Type} {xs : Array α} {i : Nat} (h : i < xs.size) : ∃ v, xs[i]? = some v := ⟨xs[i], by simp [h]⟩

/-- A copy of a list in a block of its own. -/
def CopyOf (E : TypeId) (V : Nat → Value) (len : Nat) (w : World) (e : Ending) (w' : World) : Prop :=
  e = .returned (.slice (some ⟨w.heap.size, 0, none⟩) len len) ∧ Below w.heap.size w w' ∧ ∃ cur, Own w' w.heap.size E cur ∧ cur.size = len ∧ ∀ i, i < len → cur[i]? = some (V i)

/-- A 32-bit number made a 64-bit one, whatever the world. -/
theorem conv_wid (x : Nat) : ∃ (v n : World → Nat), (∀ w, (convert 28 46 (.float .f32 x)).run Tryz.prog w = .ok (.float .f64 (v w)) (w.drewN (n w))) ∧ ∀ w, Same .f64 (v w) (fwid x) := by
  have h : ∀ w, ∃ p : Nat × Nat, (convert 28 46 (.float .f32 x)).run Tryz.prog w = .ok (.float .f64 p.1) (w.drewN p.2) ∧ Same .f64 p.1 (fwid x) := by
    intro w
    obtain ⟨r, n, h1, h2, _⟩ := run_fconv (P := Tryz.prog) 28 46 .f32 .f64 (by decide) x w (by rw [Tryz.underlying28]; rfl) Tryz.underlying46
    exact ⟨(r, n), h1, h2 (fover_wid x)⟩
  obtain ⟨f, hf⟩ := Classical.skolem.1 h
  exact ⟨fun w => (f w).1, fun w => (f w).2, fun w => (hf w).1, fun w => (hf w).2⟩

end Go.Proofs.YtpjhgfeibkldmaaGreatDoor

