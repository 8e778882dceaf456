/- ReadComplex: eight digits read by the reference. Under no condition. -/
import Derived.Test.YtmfaickanmdfnaaDoorHu
namespace Go.Proofs.YtmfaickanmdfnaaDoor
open Go Go.RowKit Go.Proofs.YtmfaickanmdfnaaDoorW.PrintWords Go.Proofs.YtmfaickanmdfnaaDoorW.PrintLast Go.Proofs.YtmfaickanmdfnaaDoorW.PrintMore
set_option linter.unusedVariables false
set_option linter.unusedSimpArgs false

set_option maxHeartbeats 4000000 in
set_option maxRecDepth 100000 in
theorem spec_l01Digits (P : ByteArray) (h8 : P.size = 8) (w : World) :
    Calls Tryd.prog 71 #[.string P] w fun e w' => (∃ x, e = .returned (.tuple #[.float .f32 (x : Nat), .bool (rdH P).isSome]) ∧ (∀ y, rdH P = some y → x = y)) ∧ w = w' := by
  go_enter Tryd.func71, Tryd.ntmps71
  go_wp2
  have HV0 : Aside0 (hv (P.data.toList.take 0) = 0) := ⟨rfl⟩
  go_loopg [4, 5] 9 (fun kq v4 v5 w' => ∃ k n : Nat, k ≤ 8 ∧ v4 = .int .i64 (n : Int) ∧ v5 = .int .i64 (k : Int) ∧ Aside0 (n = hv (P.data.toList.take k)) ∧ n < 16 ^ k ∧ Aside0 (∀ c ∈ P.data.toList.take k, VD c.toNat) ∧ Aside0 (kq + k = 9) ∧ w' = w)
  case atStart => exact ⟨0, 0, by omega, rfl, rfl, ⟨rfl⟩, by decide, ⟨fun c hc => by simp at hc⟩, ⟨rfl⟩, rfl⟩
  case round =>
    obtain ⟨k, n, hk, rfl, rfl, HN, hn, HV, HK2, rfl⟩ := hrel
    have hn32 : n < 4294967296 := Nat.lt_of_lt_of_le hn (Nat.pow_le_pow_right (n := 16) (by decide) hk)
    cases gk with
    | zero => exact absurd HK2.out (by omega)
    | succ k2 =>
      by_cases hk8 : k < 8
      · have hkl : k < P.data.toList.length := by rw [data_length]; omega
        have b1 : decide ((k : Int) < (P.size : Int)) = true := decide_eq_true (by omega)
        have HNx := Aside0.mk (hv_take hkl)
        have HVx : Aside0 (VD (P.data.toList[k]).toNat → ∀ c ∈ P.data.toList.take (k + 1), VD c.toNat) := ⟨take_valid hkl HV.out⟩
        have HNo : Aside0 (¬ VD (P.data.toList[k]).toNat → NoHex P) := ⟨no_digit hkl⟩
        have hbt := bt_list P k hkl
        have hbt2 : ∀ h : k < P.size, ((P[k]'h).toNat : Int) = bt P (k : Int) := fun h => bt_at P (k : Int) h
        have hcl : (P.data.toList[k]).toNat < 256 := (P.data.toList[k]).toNat_lt
        obtain ⟨c, hcc⟩ : ∃ c, c = (P.data.toList[k]).toNat := ⟨_, rfl⟩
        rw [← hcc] at hbt HNx HVx HNo hcl
        have q3 := eq_true (show (k : Int) < (P.size : Int) by omega)
        have q4 := eq_true (show k < P.size by omega)
        clear hcc hkl
        by_cases hA : 48 ≤ c ∧ c ≤ 57
        · have d1 : decide ((c : Int) ≥ 48) = true := decide_eq_true (by omega)
          have d1' : decide ((48 : Int) ≤ (c : Int)) = true := decide_eq_true (by omega)
          have d2 : decide ((c : Int) ≤ 57) = true := decide_eq_true (by omega)
          have d3 : decide ((c : Int) ≥ 97) = false := decide_eq_false (by omega)
          have d3' : decide ((97 : Int) ≤ (c : Int)) = false := decide_eq_false (by omega)
          obtain ⟨D, hD⟩ : ∃ D : Nat, D = c - 48 := ⟨_, rfl⟩
          have w1 : IntKind.u8.wrap ((c : Int) - 48) = (D : Int) := by rw [IntKind.wrap_u8]; omega
          have d4 : decide ((D : Int) < 0) = false := decide_eq_false (by omega)
          have HD := Aside0.mk ((dig_lo c hA).trans hD.symm)
          have HV2 := Aside0.mk (HVx.out (Or.inl hA))
          have hD16 : D < 16 := by omega
          clear HVx HNo hA hD hcl
          go_wp2
          go_roundg k2
          case measure => omega
          case rel => exact ⟨k + 1, n * 16 + D, by omega, by first | rfl | (congr 1; omega) | (push_cast; congr 1; omega), by go_num, ⟨by rw [HNx.out, HD.out, HN.out]⟩, by rw [Nat.pow_succ]; omega, HV2, ⟨by have := HK2.out; omega⟩, rfl⟩
        · by_cases hB : 97 ≤ c ∧ c ≤ 102
          · have d1 : decide ((c : Int) ≥ 48) = true := decide_eq_true (by omega)
            have d1' : decide ((48 : Int) ≤ (c : Int)) = true := decide_eq_true (by omega)
            have d2 : decide ((c : Int) ≤ 57) = false := decide_eq_false (by omega)
            have d3 : decide ((c : Int) ≥ 97) = true := decide_eq_true (by omega)
            have d3' : decide ((97 : Int) ≤ (c : Int)) = true := decide_eq_true (by omega)
            have d5 : decide ((c : Int) ≤ 102) = true := decide_eq_true (by omega)
            obtain ⟨D, hD⟩ : ∃ D : Nat, D = c - 97 := ⟨_, rfl⟩
            have w1 : IntKind.u8.wrap ((c : Int) - 97) = (D : Int) := by rw [IntKind.wrap_u8]; omega
            have hDh : digV c = c - 87 := dig_hi ⟨c, hcl⟩ hB
            have HD : Aside0 (digV c = D + 10) := ⟨by rw [hDh, hD]; omega⟩
            have d4 : decide ((D : Int) + 10 < 0) = false := decide_eq_false (by omega)
            have HV2 := Aside0.mk (HVx.out (Or.inr hB))
            have hD16 : D < 6 := by omega
            clear HVx HNo hA hB hD hcl hDh
            go_wp2
            go_roundg k2
            case measure => omega
            case rel => exact ⟨k + 1, n * 16 + (D + 10), by omega, by first | rfl | (congr 1; omega) | (push_cast; congr 1; omega), by go_num, ⟨by rw [HNx.out, HD.out, HN.out]⟩, by rw [Nat.pow_succ]; omega, HV2, ⟨by have := HK2.out; omega⟩, rfl⟩
          · by_cases h48 : c < 48
            · have d1 : decide ((c : Int) ≥ 48) = false := decide_eq_false (by omega)
              have d1' : decide ((48 : Int) ≤ (c : Int)) = false := decide_eq_false (by omega)
              have d3 : decide ((c : Int) ≥ 97) = false := decide_eq_false (by omega)
              have d3' : decide ((97 : Int) ≤ (c : Int)) = false := decide_eq_false (by omega)
              have HF : Aside0 (rdH P = none) := ⟨rdH_no P (HNo.out (by unfold VD; omega))⟩
              clear HVx HNo HNx hA hB hcl h48
              go_wp2
              go_ret2
              exact ⟨⟨0, by rw [HF.out]; rfl, fun y hy => by rw [HF.out] at hy; cases hy⟩, rfl⟩
            · have d1 : decide ((c : Int) ≥ 48) = true := decide_eq_true (by omega)
              have d1' : decide ((48 : Int) ≤ (c : Int)) = true := decide_eq_true (by omega)
              have d2 : decide ((c : Int) ≤ 57) = false := decide_eq_false (by omega)
              by_cases h97 : c < 97
              · have d3 : decide ((c : Int) ≥ 97) = false := decide_eq_false (by omega)
                have d3' : decide ((97 : Int) ≤ (c : Int)) = false := decide_eq_false (by omega)
                have HF : Aside0 (rdH P = none) := ⟨rdH_no P (HNo.out (by unfold VD; omega))⟩
                clear HVx HNo HNx hA hB hcl h48 h97
                go_wp2
                go_ret2
                exact ⟨⟨0, by rw [HF.out]; rfl, fun y hy => by rw [HF.out] at hy; cases hy⟩, rfl⟩
              · have d3 : decide ((c : Int) ≥ 97) = true := decide_eq_true (by omega)
                have d3' : decide ((97 : Int) ≤ (c : Int)) = true := decide_eq_true (by omega)
                have d5 : decide ((c : Int) ≤ 102) = false := decide_eq_false (by omega)
                have HF : Aside0 (rdH P = none) := ⟨rdH_no P (HNo.out (by unfold VD; omega))⟩
                clear HVx HNo HNx hA hB hcl h48 h97
                go_wp2
                go_ret2
                exact ⟨⟨0, by rw [HF.out]; rfl, fun y hy => by rw [HF.out] at hy; cases hy⟩, rfl⟩
      · have hk8' : k = 8 := by omega
        subst hk8'
        have b1 : decide (((8 : Nat) : Int) < (P.size : Int)) = false := decide_eq_false (by omega)
        have b2 : (P.size : Int) = 8 := by omega
        have hall : P.data.toList.take 8 = P.data.toList := List.take_of_length_le (by rw [data_length]; omega)
        have HRd : Aside0 (rdH P = if bitsOf n = (n : Int) then some n else none) := ⟨by rw [HN.out, hall]; exact rdH_valid h8 (by have := HV.out; rwa [hall] at this)⟩
        have hn2 : n < 2 ^ 32 := hn32
        clear hall HN HV HK2 hn hk hk8
        by_cases hbn : bitsOf n = (n : Int)
        · have HF : Aside0 (rdH P = some n) := ⟨by rw [HRd.out, if_pos hbn]⟩
          have HBn := Aside0.mk hbn
          clear HRd hbn
          go_wp2_with (first | (go_at_call 67; refine (from_calls n hn32 _).mono ?_; rintro e w' ⟨rfl, rfl⟩) | (go_at_call 68; refine (spec_l01Bits n _ hn2).mono ?_; rw [HBn.out]; rintro e w' ⟨rfl, rfl⟩))
          go_ret2
          exact ⟨⟨n, by rw [HF.out]; rfl, fun y hy => by rw [HF.out] at hy; injection hy⟩, rfl⟩
        · have HF : Aside0 (rdH P = none) := ⟨by rw [HRd.out, if_neg hbn]⟩
          have e1 : (bitsOf n != (n : Int)) = true := bne_iff_ne.2 hbn
          have e2 : (bitsOf n == (n : Int)) = false := beq_eq_false_iff_ne.2 hbn
          clear HRd hbn
          go_wp2_with (first | (go_at_call 67; refine (from_calls n hn32 _).mono ?_; rintro e w' ⟨rfl, rfl⟩) | (go_at_call 68; refine (spec_l01Bits n _ hn2).mono ?_; rintro e w' ⟨rfl, rfl⟩))
          go_ret2
          exact ⟨⟨0, by rw [HF.out]; rfl, fun y hy => by rw [HF.out] at hy; cases hy⟩, rfl⟩
end Go.Proofs.YtmfaickanmdfnaaDoor
