/- strconv.FormatInt at base 16, walked: the digits of a number. The table of trailing zeros reads as the program's text lays it. -/
import Derived.Test.YtpjhgfeibkldmaaGreatDoorZa
import Derived.Test.YtpjhgfeibkldmaaGreatDoorSl
import Derived.Test.YtpjhgfeibkldmaaGreatDoorRows
import Derived.Lib.LaidTab
import Derived.Stop.LaidErr
import Derived.Lib.Hide
import Derived.Lib.LazyBuf
namespace Go.Proofs.YtpjhgfeibkldmaaGreatDoor
open Go Go.RowKit Go.Proofs.YtpjhgfeibkldmaaGreatDoorW.PrintWords Go.Proofs.YtpjhgfeibkldmaaGreatDoorW.PrintLast Go.Proofs.YtpjhgfeibkldmaaGreatDoorW.PrintMore
set_option linter.unusedVariables false
set_option linter.unusedSimpArgs false

/-- The one entry of the table that base 16 needs. -/
def Tz (w : World) : Prop := w.cell? ⟨6, 15, none⟩ = some (.int .u8 4)
theorem Tz.on {w w' : World} (h : Tz w) (hb : Below w.heap.size w w') : Tz w' := (hb.cell (World.block_lt_of_cell? w _ h)).trans h
def tz64 : List Int := [0, 1, 56, 2, 57, 49, 28, 3, 61, 58, 42, 50, 38, 29, 17, 4, 62, 47, 59, 36, 45, 43, 51, 22, 53, 39, 33, 30, 24, 18, 12, 5, 63, 55, 48, 27, 60, 41, 37, 16, 46, 35, 44, 21, 52, 32, 23, 11, 54, 26, 40, 15, 34, 20, 31, 10, 25, 14, 19, 9, 13, 8, 7, 6]
theorem tz_data {H : Type} : (Rows.laid_math_bits_deBruijn64tab : DataW H) = Lib.tabData .u8 tz64 := by rfl
theorem tz_type : (Tryz.prog.globals[6]?).map (·.type) = some 159 := by kernel_rfl
theorem tz_of {x : String × DataW Unit} {rest : List (String × DataW Unit)} {W : World} (h : laidMet Tryz.prog (x :: ("math/bits.deBruijn64tab", Rows.laid_math_bits_deBruijn64tab) :: rest) W) : Tz W := by
  have h3 := h.tail
  rw [tz_data] at h3
  have hg : Tryz.prog.globalNamed "math/bits.deBruijn64tab" = some 6 := by kernel_rfl
  exact Lib.TabIs.cell (Lib.tabIs_of_head hg tz_type Tryz.underlying159 Tryz.underlying5 (by kernel_rfl) (by kernel_rfl) h3) hg 15 (by decide)

theorem tz_16a (w : World) (h : Tz w) : Calls Tryz.prog 134 #[.int .u64 16] w fun e w' => e = .returned (.int .i64 4) ∧ w = w' := by
  have h1 : w.cell? ⟨6, 15, none⟩ = some (.int .u8 4) := h
  have e2 : bits BinOp.and IntKind.u64 16 (IntKind.u64.wrap (-16)) = 16 := by decide
  have e3 : IntKind.u64.wrap (16 * 285870213051353865) = 4573923408821661840 := by decide
  go_enter Tryz.func134, Tryz.ntmps134
  go_wp2
  go_ret
  exact ⟨rfl, rfl⟩
theorem tz_16 (w : World) (h : Tz w) : Calls Tryz.prog 123 #[.int .u64 16] w fun e w' => e = .returned (.int .i64 4) ∧ w = w' := by
  go_enter Tryz.func123, Tryz.ntmps123
  go_wp2_with (go_at_call 134; refine (tz_16a _ h).mono ?_; rintro e w' ⟨rfl, rfl⟩)
  go_ret
  exact ⟨rfl, rfl⟩
theorem pow2_16 (w : World) : Calls Tryz.prog 122 #[.int .i64 16] w fun e w' => e = .returned (.bool true) ∧ w = w' := by
  go_enter Tryz.func122, Tryz.ntmps122
  go_wp2
  go_ret
  exact ⟨rfl, rfl⟩

/-- The buffer's cells: j digits are laid at its end. -/
def buf (tail : List UInt8) : Array Value := (List.replicate (65 - tail.length) (Value.int .u8 0) ++ tail.map fun b => Value.int .u8 (b.toNat : Int)).toArray
theorem buf_size (tail : List UInt8) (h : tail.length ≤ 65) : (buf tail).size = 65 := by simp [buf]; omega
theorem buf_set (tail : List UInt8) (b : UInt8) (h : tail.length ≤ 64) : (buf tail).setIfInBounds (64 - tail.length) (.int .u8 (b.toNat : Int)) = buf (b :: tail) := by
  unfold buf
  rw [List.setIfInBounds_toArray, List.length_cons, show 65 - tail.length = (64 - tail.length) + 1 by omega, List.replicate_succ', List.append_assoc, List.set_append_right _ _ (by simp), List.length_replicate, Nat.sub_self]
  rw [show 65 - (tail.length + 1) = 64 - tail.length by omega]
  rfl
theorem buf_nil : Array.replicate 65 (Value.int .u8 0) = buf [] := by rfl
theorem hexD_byte (d : Nat) (h : d < 16) : (hexD d).toNat = if d < 10 then 48 + d else 87 + d := by
  unfold hexD
  split
  · rw [UInt8.toNat_ofNat', Nat.mod_eq_of_lt (by omega)]
  · rw [UInt8.toNat_ofNat', Nat.mod_eq_of_lt (by omega)]

theorem dig_at (d : Nat) (h : d < 16) (h2 : d < (⟨#[48, 49, 50, 51, 52, 53, 54, 55, 56, 57, 97, 98, 99, 100, 101, 102, 103, 104, 105, 106, 107, 108, 109, 110, 111, 112, 113, 114, 115, 116, 117, 118, 119, 120, 121, 122]⟩ : ByteArray).size) : (⟨#[48, 49, 50, 51, 52, 53, 54, 55, 56, 57, 97, 98, 99, 100, 101, 102, 103, 104, 105, 106, 107, 108, 109, 110, 111, 112, 113, 114, 115, 116, 117, 118, 119, 120, 121, 122]⟩ : ByteArray)[d]'h2 = hexD d := by
  have : ∀ d : Fin 16, (⟨#[48, 49, 50, 51, 52, 53, 54, 55, 56, 57, 97, 98, 99, 100, 101, 102, 103, 104, 105, 106, 107, 108, 109, 110, 111, 112, 113, 114, 115, 116, 117, 118, 119, 120, 121, 122]⟩ : ByteArray)[d.val]'(Nat.lt_of_lt_of_le d.isLt (by decide)) = hexD d.val := by decide
  exact this ⟨d, h⟩
theorem zc : Tryz.zeroCells140 = buf [] := by kernel_rfl
theorem buf_slice (b i : Nat) (h1 : 1 ≤ i) (h2 : i ≤ 65) (w : World) : (Instr.sliceAt 140 (.pointer (some ⟨b, 0, none⟩)) (some (.int .i64 ((i : Int) - 1))) none none).run Tryz.prog w = .ok (.slice (some ⟨b, i - 1, none⟩) (66 - i) (66 - i)) w := by
  have ht : Tryz.prog.underlying 140 = some (.array (Tryz.prog.arrayLen 140) (Tryz.prog.elem 140)) := by kernel_rfl
  have hal : Tryz.prog.arrayLen 140 = 65 := by kernel_rfl
  have hel : Tryz.prog.elem 140 = 5 := by kernel_rfl
  rw [run_sliceAt_array_l w 140 ⟨b, 0, none⟩ ht .i64 ((i : Int) - 1) (by omega) (by rw [hal]; omega), hal, hel]
  have e : ((i : Int) - 1).toNat = i - 1 := by omega
  have hs : (sizeOf 5).run Tryz.prog w = .ok 1 w := by go_simp
  rw [hs, e]
  have n : ¬ (65 = i - 1) := by omega
  have a : (⟨b, 0, none⟩ : Addr).add ((i - 1) * 1) = ⟨b, i - 1, none⟩ := by
    rw [Nat.mul_one]; unfold Addr.add; split
    · rename_i h0; rw [h0]
    · simp
  simp only [Result.andThen, slicedAt, if_neg n, a, show 65 - (i - 1) = 66 - i by omega]
theorem buf_text (b i : Nat) (tail : List UInt8) (w : World) (h1 : 58 ≤ i) (h2 : i ≤ 65) (hi : i = 65 - tail.length) (ho : Own w b 140 (buf tail)) (x : UInt8) :
    (convert 22 9 (.slice (some ⟨b, i - 1, none⟩) (66 - i) (66 - i))).run Tryz.prog (w.setCell ⟨b, i - 1, none⟩ (.int .u8 (x.toNat : Int))) = .ok (.string ⟨(x :: tail).toArray⟩) (w.setCell ⟨b, i - 1, none⟩ (.int .u8 (x.toNat : Int))) := by
  have ho2 := ho.set (i - 1) (.int .u8 (x.toNat : Int))
  have e2 : 64 - tail.length = i - 1 := by omega
  rw [← e2, buf_set _ _ (by omega), e2] at ho2
  have hl : 66 - i = ((x :: tail).map fun b => (b.toNat : Int)).length := by rw [List.length_map, List.length_cons]; omega
  have hc : Kd.C (Kd.int .u8) (w.setCell ⟨b, i - 1, none⟩ (.int .u8 (x.toNat : Int))) (some ⟨b, i - 1, none⟩) (66 - i) ((x :: tail).map fun b => (b.toNat : Int)) := by
    refine Kd.C_of_reads (d := (0 : Int)) ⟨hl.symm, by omega, fun hn => ⟨_, rfl, fun j hj => ?_⟩⟩
    have a : (⟨b, i - 1, none⟩ : Addr).add j = ⟨b, i - 1 + j, none⟩ := by
      unfold Addr.add; split
      · rename_i h0; rw [h0]; rfl
      · rfl
    have hj2 : j < (x :: tail).length := by rw [hl, List.length_map] at hj; exact hj
    rw [a, ho2.cell]
    unfold buf
    rw [List.getElem?_toArray, List.getElem?_append_right (by rw [List.length_replicate, List.length_cons]; omega), List.length_replicate, List.length_cons]
    rw [show i - 1 + j - (65 - (tail.length + 1)) = j by omega, List.getD_eq_getElem?_getD, List.getElem?_map, List.getElem?_map, List.getElem?_eq_getElem hj2]
    rfl
  have := Kd.C_string (P := Tryz.prog) (c := 66 - i) Tryz.underlying22 Tryz.underlying5 Tryz.underlying9 hc
  rw [Lib.Lz.strOfNums_map (x :: tail)] at this
  exact this
set_option maxRecDepth 100000 in
theorem formatBits16 (u : Nat) (hu : u < 4294967296) (w : World) (hT : Tz w) :
    Calls Tryz.prog 102 #[.slice none 0 0, .int .u64 u, .int .i64 16, .bool false, .bool false] w fun e w' => e = .returned (.tuple #[.slice none 0 0, .string ⟨(hexL u).toArray⟩]) ∧ Below w.heap.size w w' := by
  have HT := Aside0.mk hT
  clear hT
  go_enter Tryz.func102, Tryz.ntmps102
  go_wp2_with (first | (go_at_call 122; refine (pow2_16 _).mono ?_; rintro e w' ⟨rfl, rfl⟩) | (go_at_call 123; refine (tz_16 _ (HT.out.on ((Below.refl _ _).alloc (Nat.le_refl _) _))).mono ?_; rintro e w' ⟨rfl, rfl⟩))
  go_loopw [1, 13] (fun c1 c13 w' => ∃ (v i : Nat) (tail : List UInt8), c1 = .int .u64 (v : Int) ∧ c13 = .int .i64 (i : Int) ∧ 58 ≤ i ∧ i ≤ 65 ∧ Aside0 (i = 65 - tail.length) ∧ Aside0 (v < 16 ^ (i - 57)) ∧ Aside0 (hexL u = hexL v ++ tail) ∧ Below w.heap.size w w' ∧ Own w' w.heap.size 140 (buf tail)) (fun c1 _ _ => (intOf c1).toNat)
  case atStart => exact ⟨u, 65, [], rfl, rfl, by omega, by omega, ⟨rfl⟩, ⟨by omega⟩, ⟨by simp⟩, (Below.refl _ _).alloc (Nat.le_refl _) _, by rw [zc]; exact Own.alloc _ _ _⟩
  case round =>
    obtain ⟨v, i, tail, rfl, rfl, hi1, hi2, HJ, HV, HX, hb, hown⟩ := hrel
    obtain ⟨y0, hy0⟩ : ∃ y, (buf tail)[i - 1]? = some y := ⟨(buf tail)[i - 1]'(by rw [buf_size _ (by have := HJ.out; omega)]; omega), by simp⟩
    have hcB : wr.cell? ⟨w.heap.size, i - 1, none⟩ = some y0 := by rw [hown.cell, hy0]
    have hfB : wr.frozen? ⟨w.heap.size, i - 1, none⟩ = false := hown.frozen _
    have HB := Aside0.mk hb
    have HO := Aside0.mk hown
    have hvlt : v < 4294967296 := Nat.lt_of_lt_of_le HV.out (Nat.pow_le_pow_right (by decide) (show i - 57 ≤ 8 by omega))
    have hbit : bits BinOp.and IntKind.u64 (v : Int) 15 = ((v % 16 : Nat) : Int) := by
      have := bits_and_u64_nat v 15 (by omega) (by decide)
      rw [show (15 : Int) = ((15 : Nat) : Int) from rfl, this, show (15 : Nat) = 2 ^ 4 - 1 from rfl, Nat.and_two_pow_sub_one_eq_mod]
    clear hb hown HT hy0
    by_cases hv : v < 16
    · have h1 : decide ((v : Int) ≥ 16) = false := decide_eq_false (by omega)
      have h2 : decide ((16 : Int) ≤ (v : Int)) = false := decide_eq_false (by omega)
      have hsl := buf_slice w.heap.size i (by omega) hi2
      have htx := buf_text w.heap.size i tail wr hi1 hi2 HJ.out HO.out
      have h36 : v < 36 := by omega
      clear hbit
      go_wp2
      go_ret2
      refine ⟨?_, HB.out.setCell (by simp) _⟩
      rw [HX.out, hexL_last v hv, dig_at v hv]
      rfl
    · have h1 : decide ((v : Int) ≥ 16) = true := decide_eq_true (by omega)
      have h2 : decide ((16 : Int) ≤ (v : Int)) = true := decide_eq_true (by omega)
      have h3 : v % 16 < 36 := by omega
      have h4 := Nat.mod_lt v (show 0 < 16 by decide)
      go_wp2
      go_roundw
      case measure => simp [intOf]; omega
      case rel =>
        have e1 : (65 - (hexD (v % 16) :: tail).length) = i - 1 := by have := HJ.out; simp only [List.length_cons]; omega
        have e2 : 64 - tail.length = i - 1 := by have := HJ.out; omega
        rw [dig_at (v % 16) h4]
        refine ⟨v / 16, i - 1, hexD (v % 16) :: tail, by rw [Int.natCast_ediv]; rfl, by rw [Int.natCast_sub (by omega)]; rfl, ?_, by omega, ⟨e1.symm⟩, ⟨?_⟩, ⟨?_⟩, HB.out.setCell (by simp) _, ?_⟩
        · rcases Nat.lt_or_ge i 59 with h | h
          · have h5 := HV.out
            have h6 : i = 58 := by omega
            subst h6
            simp at h5; omega
          · omega
        · have h5 := HV.out
          have h6 : i - 57 = (i - 1 - 57) + 1 := by
            rcases Nat.lt_or_ge i 59 with h | h
            · have h6 : i = 58 := by omega
              subst h6
              simp at h5; omega
            · omega
          rw [h6, Nat.pow_succ] at h5; omega
        · rw [HX.out, hexL_step v hv, List.append_assoc]; rfl
        · have := HO.out.set (i - 1) (.int .u8 ((hexD (v % 16)).toNat : Int))
          rw [← e2, buf_set _ _ (by omega), e2] at this
          exact this
end Go.Proofs.YtpjhgfeibkldmaaGreatDoor

