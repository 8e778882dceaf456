/- The eight digits of a number: the program's and the reference's. The table of trailing zeros reads as the program's text lays it. -/
import Derived.Test.YtpjhgfeibkldmaaGreatDoorHf
import Derived.Test.YtpjhgfeibkldmaaGreatDoorSh
namespace Go.Proofs.YtpjhgfeibkldmaaGreatDoor
open Go Go.RowKit Go.Proofs.YtpjhgfeibkldmaaGreatDoorW.PrintWords Go.Proofs.YtpjhgfeibkldmaaGreatDoorW.PrintLast Go.Proofs.YtpjhgfeibkldmaaGreatDoorW.PrintMore
set_option linter.unusedVariables false
set_option linter.unusedSimpArgs false

theorem repeat_zeros (n : Nat) : Lib.repeatL [48] n = List.replicate n 48 := by
  induction n with
  | zero => rfl
  | succ n ih => rw [Lib.repeatL, ih, List.replicate_succ]; rfl
theorem formatInt16a (u : Nat) (hu : u < 4294967296) (w : World) (hT : Tz w) :
    Calls Tryz.prog 86 #[.int .i64 (u : Int), .int .i64 16] w fun e w' => e = .returned (.string ⟨(hexL u).toArray⟩) ∧ Below w.heap.size w w' := by
  have h1 : decide ((u : Int) < 0) = false := decide_eq_false (by omega)
  have h2 : IntKind.u64.wrap (u : Int) = (u : Int) := by
    unfold IntKind.wrap; simp [IntKind.bits, IntKind.signed]; omega
  go_enter Tryz.func86, Tryz.ntmps86
  go_wp2_with (go_at_call 102; refine (formatBits16 u hu _ hT).mono ?_; rintro e w' ⟨rfl, hb⟩)
  go_ret
  exact ⟨rfl, hb⟩
theorem formatInt16 (u : Nat) (hu : u < 4294967296) (w : World) (hT : Tz w) :
    Calls Tryz.prog 73 #[.int .i64 (u : Int), .int .i64 16] w fun e w' => e = .returned (.string ⟨(hexL u).toArray⟩) ∧ Below w.heap.size w w' := by
  go_enter Tryz.func73, Tryz.ntmps73
  go_wp2_with (go_at_call 86; refine (formatInt16a u hu _ hT).mono ?_; rintro e w' ⟨rfl, hb⟩)
  go_ret
  exact ⟨rfl, hb⟩
theorem impl_digits (x : Nat) (hx : x < 2 ^ 32) (w : World) (hT : Tz w) :
    Calls Tryz.prog 47 #[.float .f32 x] w fun e w' => e = .returned (.string (hexT x)) ∧ Below w.heap.size w w' := by
  have hb := bitsOf_lt x hx
  obtain ⟨u, hu⟩ : ∃ u : Nat, bitsOf x = (u : Int) := ⟨(bitsOf x).toNat, by omega⟩
  have hlt : u < 4294967296 := by omega
  obtain ⟨hl, hp⟩ := hexL_pad 7 u hlt
  have ht : hexT x = ⟨(hexK 8 u).toArray⟩ := by unfold hexT; rw [hu]; rfl
  rw [ht, ← hp]
  obtain ⟨D, hD⟩ : ∃ D, D = hexL u := ⟨_, rfl⟩
  have HF : Aside0 (∀ w : World, Tz w → Calls Tryz.prog 73 #[.int .i64 (u : Int), .int .i64 16] w fun e w' => e = .returned (.string ⟨D.toArray⟩) ∧ Below w.heap.size w w') := ⟨fun w h => by rw [hD]; exact formatInt16 u hlt w h⟩
  rw [← hD] at hl ⊢
  clear hp ht hb hD
  have HT := Aside0.mk hT
  have hs : (⟨D.toArray⟩ : ByteArray).size = D.length := ba_size D
  have h0 : (8 : Int) - (D.length : Int) = ((8 - D.length : Nat) : Int) := by omega
  go_enter Tryz.func47, Tryz.ntmps47
  go_wp2_with (first | (go_at_call 21; refine (impl_BitsOf x _ hx).mono ?_; rw [hu]; rintro e w' ⟨rfl, rfl⟩) | (go_at_call 73; refine (HF.out _ HT.out).mono ?_; rintro e w' ⟨rfl, hb⟩; have HB := Aside0.mk hb; clear hb))
  refine (Tryz.strings_Repeat ⟨#[48]⟩ (8 - D.length) _ (by omega) (by show 1 * (8 - D.length) ≤ _; omega)).mono ?_
  rintro e w2 ⟨rfl, hb2⟩
  have HB2 := Aside0.mk (below_step HB.out hb2)
  clear hb2 HB
  rw [show (⟨#[48]⟩ : ByteArray).data.toList = [48] from rfl, repeat_zeros]
  have hs2 : (⟨(List.replicate (8 - D.length) (48 : UInt8)).toArray⟩ : ByteArray).size = 8 - D.length := by rw [ba_size, List.length_replicate]
  have ha := ba_append (List.replicate (8 - D.length) 48) D
  have hz : 8 - D.length + D.length ≤ 9223372036854775807 := by omega
  go_wp2
  go_ret
  refine ⟨?_, HB2.out⟩
  rw [← ha, List.toArray_replicate]
  rfl

/-! ### The reference -/
theorem wraps_i64 (n : Int) (h₀ : 0 ≤ n) (h₁ : n < 2 ^ 32) : IntKind.i64.wrap n = n := by rw [IntKind.wrap_i64]; omega
theorem and15 (x : Int) (h0 : 0 ≤ x) (h1 : x < 4294967296) : bits .and .i64 x 15 = x % 16 := bits_mask .i64 32 (by decide) wraps_i64 4 (by decide) x h0 h1
/-- The bytes laid so far, as whole numbers. -/
def hexI (l : List UInt8) : List Int := l.map fun b => (b.toNat : Int)
theorem dig16 (d : Nat) (h : d < 16) : ∀ h2 : d < (⟨#[48, 49, 50, 51, 52, 53, 54, 55, 56, 57, 97, 98, 99, 100, 101, 102]⟩ : ByteArray).size, ((⟨#[48, 49, 50, 51, 52, 53, 54, 55, 56, 57, 97, 98, 99, 100, 101, 102]⟩ : ByteArray)[d]'h2) = hexD d := by
  have : ∀ d : Fin 16, (⟨#[48, 49, 50, 51, 52, 53, 54, 55, 56, 57, 97, 98, 99, 100, 101, 102]⟩ : ByteArray)[d.val]'(Nat.lt_of_lt_of_le d.isLt (by decide)) = hexD d.val := by decide
  exact fun h2 => this ⟨d, h⟩
end Go.Proofs.YtpjhgfeibkldmaaGreatDoor

