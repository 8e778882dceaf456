/- The eight digits of a number: the program's and the reference's. The table of trailing zeros reads as the program's text lays it. -/
import Derived.Test.YtmfaickanmdfnaaDoorHf
import Derived.Test.YtmfaickanmdfnaaDoorSh
namespace Go.Proofs.YtmfaickanmdfnaaDoor
open Go Go.RowKit Go.Proofs.YtmfaickanmdfnaaDoorW.PrintWords Go.Proofs.YtmfaickanmdfnaaDoorW.PrintLast Go.Proofs.YtmfaickanmdfnaaDoorW.PrintMore
set_option linter.unusedVariables false
set_option linter.unusedSimpArgs false

theorem repeat_zeros (n : Nat) : Lib.repeatL [48] n = List.replicate n 48 := by
  induction n with
  | zero => rfl
  | succ n ih => rw [Lib.repeatL, ih, List.replicate_succ]; rfl
theorem formatInt16a (u : Nat) (hu : u < 4294967296) (w : World) (hT : Tz w) :
    Calls Tryd.prog 55 #[.int .i64 (u : Int), .int .i64 16] w fun e w' => e = .returned (.string ⟨(hexL u).toArray⟩) ∧ Below w.heap.size w w' := by
  have h1 : decide ((u : Int) < 0) = false := decide_eq_false (by omega)
  have h2 : IntKind.u64.wrap (u : Int) = (u : Int) := by
    unfold IntKind.wrap; simp [IntKind.bits, IntKind.signed]; omega
  go_enter Tryd.func55, Tryd.ntmps55
  go_wp2_with (go_at_call 75; refine (formatBits16 u hu _ hT).mono ?_; rintro e w' ⟨rfl, hb⟩)
  go_ret
  exact ⟨rfl, hb⟩
theorem formatInt16 (u : Nat) (hu : u < 4294967296) (w : World) (hT : Tz w) :
    Calls Tryd.prog 36 #[.int .i64 (u : Int), .int .i64 16] w fun e w' => e = .returned (.string ⟨(hexL u).toArray⟩) ∧ Below w.heap.size w w' := by
  go_enter Tryd.func36, Tryd.ntmps36
  go_wp2_with (go_at_call 55; refine (formatInt16a u hu _ hT).mono ?_; rintro e w' ⟨rfl, hb⟩)
  go_ret
  exact ⟨rfl, hb⟩
theorem impl_digits (x : Nat) (hx : x < 2 ^ 32) (w : World) (hT : Tz w) :
    Calls Tryd.prog 43 #[.float .f32 x] w fun e w' => e = .returned (.string (hexT x)) ∧ Below w.heap.size w w' := by
  have hb := bitsOf_lt x hx
  obtain ⟨u, hu⟩ : ∃ u : Nat, bitsOf x = (u : Int) := ⟨(bitsOf x).toNat, by omega⟩
  have hlt : u < 4294967296 := by omega
  obtain ⟨hl, hp⟩ := hexL_pad 7 u hlt
  have ht : hexT x = ⟨(hexK 8 u).toArray⟩ := by unfold hexT; rw [hu]; rfl
  rw [ht, ← hp]
  obtain ⟨D, hD⟩ : ∃ D, D = hexL u := ⟨_, rfl⟩
  have HF : Aside0 (∀ w : World, Tz w → Calls Tryd.prog 36 #[.int .i64 (u : Int), .int .i64 16] w fun e w' => e = .returned (.string ⟨D.toArray⟩) ∧ Below w.heap.size w w') := ⟨fun w h => by rw [hD]; exact formatInt16 u hlt w h⟩
  rw [← hD] at hl ⊢
  clear hp ht hb hD
  have HT := Aside0.mk hT
  have hs : (⟨D.toArray⟩ : ByteArray).size = D.length := ba_size D
  have h0 : (8 : Int) - (D.length : Int) = ((8 - D.length : Nat) : Int) := by omega
  go_enter Tryd.func43, Tryd.ntmps43
  go_wp2_with (first | (go_at_call 61; refine (impl_BitsOf x _ hx).mono ?_; rw [hu]; rintro e w' ⟨rfl, rfl⟩) | (go_at_call 36; refine (HF.out _ HT.out).mono ?_; rintro e w' ⟨rfl, hb⟩; have HB := Aside0.mk hb; clear hb))
  refine (Tryd.strings_Repeat ⟨#[48]⟩ (8 - D.length) _ (by omega) (by show 1 * (8 - D.length) ≤ _; omega)).mono ?_
  rintro e w2 ⟨rfl, hb2⟩
  have HB2 := Aside0.mk (below_step HB.out hb2)
  clear hb2 HB
  rw [show (⟨#[48]⟩ : ByteArray).data.toList = [48] from rfl, repeat_zeros]
  have hs2 : (⟨(List.replicate (8 - D.length) (48 : UInt8)).toArray⟩ : ByteArray).size = 8 - D.length := by rw [ba_size, List.length_replicate]
  have ha := ba_append (List.replicate (8 - D.length) 48) D
  have hz : 8 - D.length + D.length ≤ 9223372036854775807 := by omega
  go_wp2
  go_ret
  refine ⟨?_, HB2.out⟩
  rw [← ha, List.toArray_replicate]
  rfl

/-! ### The reference -/
theorem wraps_i64 (n : Int) (h₀ : 0 ≤ n) (h₁ : n < 2 ^ 32) : IntKind.i64.wrap n = n := by rw [IntKind.wrap_i64]; omega
theorem and15 (x : Int) (h0 : 0 ≤ x) (h1 : x < 4294967296) : bits .and .i64 x 15 = x % 16 := bits_mask .i64 32 (by decide) wraps_i64 4 (by decide) x h0 h1
/-- The bytes laid so far, as whole numbers. -/
def hexI (l : List UInt8) : List Int := l.map fun b => (b.toNat : Int)
theorem dig16 (d : Nat) (h : d < 16) : ∀ h2 : d < (⟨#[48, 49, 50, 51, 52, 53, 54, 55, 56, 57, 97, 98, 99, 100, 101, 102]⟩ : ByteArray).size, ((⟨#[48, 49, 50, 51, 52, 53, 54, 55, 56, 57, 97, 98, 99, 100, 101, 102]⟩ : ByteArray)[d]'h2) = hexD d := by
  have : ∀ d : Fin 16, (⟨#[48, 49, 50, 51, 52, 53, 54, 55, 56, 57, 97, 98, 99, 100, 101, 102]⟩ : ByteArray)[d.val]'(Nat.lt_of_lt_of_le d.isLt (by decide)) = hexD d.val := by decide
  exact fun h2 => this ⟨d, h⟩
set_option maxRecDepth 100000 in
theorem spec_l01Hex (x : Nat) (hx : x < 2 ^ 32) (w : World) :
    Calls Tryd.prog 60 #[.float .f32 x] w fun e w' => e = .returned (.string (hexT x)) ∧ Below w.heap.size w w' := by
  have hb := bitsOf_lt x hx
  obtain ⟨u, hu⟩ : ∃ u : Nat, bitsOf x = (u : Int) := ⟨(bitsOf x).toNat, by omega⟩
  have hlt : u < 4294967296 := by omega
  have ht : hexT x = ⟨(hexK 8 u).toArray⟩ := by unfold hexT; rw [hu]; rfl
  rw [ht]
  clear ht hb
  have HB := Aside0.mk (Below.refl w.heap.size w)
  go_enter Tryd.func60, Tryd.ntmps60
  go_wp2_with (first | (go_at_call 68; refine (spec_l01Bits x _ hx).mono ?_; rw [hu]; rintro e w' ⟨rfl, rfl⟩) | ((with_reducible refine gate_dst (N := 8) rfl ?_); refine Kd.R_lit (Kd.int .u8) _ 5 ?hg (N := 8) ?hd (xs := ([] : List Int)) (inner := []) (ok := fun _ => True) (okp := fun _ => True) ?hr ?hp (fun _ hk => hk) trivial (Below.refl _ _) (Nat.le_refl _) (by simp) ?_; (case hd => rfl); (case hg => rfl); (case hr => first | (go_simp; done) | (go_simp; rfl)); (case hp => exact (Reps.none _ _)); intro v104 w2 ho3 hb hg_ hnew_; clear hg_ hnew_; have HO := Aside0.mk ho3; have HB2 := Aside0.mk hb; clear ho3 hb HB))
  go_loopg [4, 5] 9 (fun kq v4 v5 w' => ∃ (j : Nat) (k : Int), j ≤ 8 ∧ v5 = .int .i64 k ∧ Aside0 (k = 28 - 4 * (j : Int)) ∧ Aside0 (kq + j = 9) ∧ Aside0 (Kd.R (Kd.int .u8) 5 w' w.heap.size (fun _ => True) v4 (hexI (hexK j (u / 16 ^ (8 - j))))) ∧ Aside0 (Below w.heap.size w w'))
  case atStart => exact ⟨0, 28, by omega, rfl, ⟨rfl⟩, ⟨rfl⟩, HO, HB2⟩
  case round =>
    clear HO HB2
    obtain ⟨j, k, hj, rfl, HJ, HK, HO, HB⟩ := hrel
    cases gk with
    | zero => exact absurd HK.out (by omega)
    | succ k1 =>
      by_cases h8 : j = 8
      · subst h8
        have hcv := own_string (P := Tryd.prog) Tryd.underlying71 Tryd.underlying5 Tryd.underlying9 (Kd.own_of_R HO.out)
        have h1 : decide (k ≥ 0) = false := decide_eq_false (by have := HJ.out; omega)
        have h2 : decide ((0 : Int) ≤ k) = false := decide_eq_false (by have := HJ.out; omega)
        go_wp2
        go_ret
        refine ⟨?_, HB.out⟩
        have e := Lib.Lz.strOfNums_map (hexK 8 u)
        rw [← e]
        rfl
      · have hk0 : 0 ≤ k := by have := HJ.out; omega
        have hk28 : k ≤ 28 := by have := HJ.out; omega
        have h1 : decide (k ≥ 0) = true := decide_eq_true hk0
        have h2 : decide ((0 : Int) ≤ k) = true := decide_eq_true hk0
        have hw : IntKind.u64.wrap k = k := by unfold IntKind.wrap; simp [IntKind.bits, IntKind.signed]; omega
        obtain ⟨d, hd, HD, hsh⟩ : ∃ d : Nat, d < 16 ∧ Aside0 (hexK (j + 1) (u / 16 ^ (8 - (j + 1))) = hexK j (u / 16 ^ (8 - j)) ++ [hexD d]) ∧ bits .and .i64 ((u : Int) / 2 ^ k.toNat) 15 = (d : Int) := by
          refine ⟨u / 16 ^ (7 - j) % 16, Nat.mod_lt _ (by decide), ⟨?_⟩, ?_⟩
          · have e : 16 ^ (8 - j) = 16 ^ (7 - j) * 16 := by rw [← Nat.pow_succ]; congr 1; omega
            rw [hexK, show 8 - (j + 1) = 7 - j by omega, Nat.div_div_eq_div_mul, ← e]
          · have e1 : k.toNat = 4 * (7 - j) := by have := HJ.out; omega
            have e2 : (2 : Int) ^ k.toNat = ((16 ^ (7 - j) : Nat) : Int) := by
              rw [e1, Int.pow_mul, Int.natCast_pow]; rfl
            have hq2 := Nat.div_le_self u (16 ^ (7 - j))
            rw [e2, ← Int.natCast_ediv]
            generalize u / 16 ^ (7 - j) = q at hq2 ⊢
            rw [and15 _ (by omega) (by omega)]
            omega
        have HLen : Aside0 ((hexI (hexK j (u / 16 ^ (8 - j)))).length ≤ 8) := ⟨by unfold hexI; rw [List.length_map, hexK_len]; exact hj⟩
        have HN : Aside0 (hexI (hexK (j + 1) (u / 16 ^ (8 - (j + 1)))) = hexI (hexK j (u / 16 ^ (8 - j))) ++ [((hexD d).toNat : Int)]) := ⟨by rw [HD.out]; unfold hexI; rw [List.map_append]; rfl⟩
        obtain ⟨L, hL⟩ : ∃ y, y = hexI (hexK j (u / 16 ^ (8 - j))) := ⟨_, rfl⟩
        rw [← hL] at HO HN HLen
        have hdig := dig16 d hd
        clear HD hL
        go_wp2_with (first | ((with_reducible refine gate_builtin (b := .append) (xs := #[.tmp 13, .tmp 20]) rfl ?_); at_builtin; refine Kd.R_append (Kd.int .u8) (w0 := w) w.heap.size rfl (.tmp 13) (.tmp 20) 71 5 (.int .u8 0) 1 rfl Tryd.underlying71 Pr.info5 rfl (by decide) (by omega) u4 L ((hexD d).toNat : Int) [.int .u8 ((hexD d).toNat : Int)] (fun _ => True) (fun _ => False) rfl rfl ?aP (fun _ hk => hk.elim) ?aF ?aO ?aB ?aS ?aL ?_; (case aP => exact rfl); (case aB => exact (by repeat (first | (with_reducible first | exact HB.out | apply below_alloc | apply pw_below_drewN | apply below_drew1) | exact HB.out))); (case aF => exact (fun _ _ => trivial)); (case aO => exact (by (with_reducible repeat (first | apply Kd.R_alloc | apply Kd.R_drewN | apply Kd.R_drew)); exact HO.out)); (case aS => exact (below_size (by repeat (first | (with_reducible first | exact HB.out | apply below_alloc | apply pw_below_drewN | apply below_drew1) | exact HB.out)))); (case aL => have := HLen.out; omega); intro v130 w11 ho hb hg hat; rw [← HN.out] at ho; have n0_ := Aside0.mk (hb); have n1_ := Aside0.mk (ho); clear HB; clear HO; have HB := n0_; have HO := n1_; clear n0_ n1_; clear ho hb hg hat))
        go_roundg k1
        case measure => omega
        case rel => exact ⟨j + 1, k - 4, by omega, rfl, ⟨by have := HJ.out; omega⟩, ⟨by have := HK.out; omega⟩, HO, HB⟩
end Go.Proofs.YtmfaickanmdfnaaDoor
