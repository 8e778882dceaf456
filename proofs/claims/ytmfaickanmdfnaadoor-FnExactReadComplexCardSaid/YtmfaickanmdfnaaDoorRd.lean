/- What the reference computes when it reads a decimal numeral, and that the library's parser gives the same. Under no condition. -/
import Derived.Test.YtmfaickanmdfnaaDoorPl
import Derived.Lib.ParseIntBCases
namespace Go.Proofs.YtmfaickanmdfnaaDoor
open Go Go.RowKit Go.Proofs.YtmfaickanmdfnaaDoorW.PrintWords
set_option linter.unusedVariables false
set_option linter.unusedSimpArgs false

/-- What is read from a text: the one number from -10^15 to 10^15 whose numeral it is, or none. -/
def rdB (s : ByteArray) : Int × Bool :=
  match Lib.parseIntB 64 s.data.toList with
  | .ok v => if decT v = s ∧ smallB v = true then (v, true) else (0, false)
  | _ => (0, false)

theorem small_iff (n : Int) : smallB n = true ↔ -1000000000000000 ≤ n ∧ n ≤ 1000000000000000 := by unfold smallB; exact decide_eq_true_iff

theorem byte_dig (d : Nat) (h : d < 10) : (UInt8.ofNat (48 + d)).toNat = 48 + d := by
  have e : (48 + d) % 256 = 48 + d := Nat.mod_eq_of_lt (by omega)
  simp [UInt8.toNat_ofNat, e]
theorem pm_app (M : Nat) (b : List UInt8) : ∀ (a : List UInt8) (acc v : Nat), Lib.parseUintM M acc a = .ok v → Lib.parseUintM M acc (a ++ b) = Lib.parseUintM M v b
  | [], acc, v, h => by
    simp only [Lib.parseUintM] at h
    injection h with h
    rw [h]; rfl
  | c :: r, acc, v, h => by
    rw [Lib.parseUintM] at h
    rw [List.cons_append, Lib.parseUintM]
    split at h
    · rename_i h1
      rw [if_pos h1]
      split at h
      · cases h
      · rename_i h2
        rw [if_neg h2]
        split at h
        · cases h
        · rename_i h3
          rw [if_neg h3]
          exact pm_app M b r _ v h
    · cases h
theorem pm_one (acc d : Nat) (ha : acc ≤ 1000000000000000) (h : d < 10) : Lib.parseUintM 18446744073709551615 acc [UInt8.ofNat (48 + d)] = .ok (acc * 10 + d) := by
  rw [Lib.parseUintM, byte_dig d h, if_pos (by omega), if_neg (by omega), if_neg (by omega), show 48 + d - 48 = d by omega]
  rfl
theorem pm_dec (m : Nat) : m ≤ 1000000000000000 → Lib.parseUintM 18446744073709551615 0 (Lib.decDigits m) = .ok m := by
  induction m using Nat.strongRecOn with
  | _ m ih =>
    intro hm
    by_cases h : m < 10
    · rw [Lib.decDigits, dif_pos h, pm_one 0 m (by omega) h]; congr 1; omega
    · rw [Lib.decDigits, dif_neg h, pm_app _ _ _ 0 (m / 10) (ih (m / 10) (by omega) (by omega)), pm_one _ _ (by omega) (Nat.mod_lt _ (by decide))]
      congr 1; omega
theorem dec_ne (m : Nat) : Lib.decDigits m ≠ [] := by
  rw [Lib.decDigits]; split <;> simp
theorem pu_dec (m : Nat) (hm : m ≤ 1000000000000000) : Lib.parseUintB 64 (Lib.decDigits m) = .ok m := by
  unfold Lib.parseUintB
  rw [if_neg (dec_ne m)]
  exact pm_dec m hm
/-- The first digit's byte. -/
theorem dec_head (m : Nat) : ∃ (c : UInt8) (r : List UInt8), Lib.decDigits m = c :: r ∧ 48 ≤ c.toNat ∧ c.toNat ≤ 57 := by
  induction m using Nat.strongRecOn with
  | _ m ih =>
    by_cases h : m < 10
    · rw [Lib.decDigits, dif_pos h]; exact ⟨_, [], rfl, by rw [byte_dig m h]; omega, by rw [byte_dig m h]; omega⟩
    · obtain ⟨c, r, e, h1, h2⟩ := ih (m / 10) (by omega)
      rw [Lib.decDigits, dif_neg h, e]
      exact ⟨c, _, rfl, h1, h2⟩
theorem pi_itoa (n : Int) (h : smallB n = true) : Lib.parseIntB 64 (Lib.itoa n) = .ok n := by
  obtain ⟨h1, h2⟩ := (small_iff n).1 h
  unfold Lib.itoa
  by_cases hn : n < 0
  · rw [if_pos hn, Lib.parseIntB_minus, pu_dec _ (by omega)]
    simp only [Lib.signedC]
    rw [if_neg (by rw [show (2 : Nat) ^ (64 - 1) = 9223372036854775808 by decide]; omega)]
    congr 1; omega
  · rw [if_neg hn]
    obtain ⟨c, r, e, h3, h4⟩ := dec_head n.toNat
    have hp := pu_dec n.toNat (by omega)
    rw [e] at hp ⊢
    rw [Lib.parseIntB_plain 64 c r (by omega) (by omega), hp]
    simp only [Lib.signlessC]
    rw [if_neg (by rw [show (2 : Nat) ^ (64 - 1) = 9223372036854775808 by decide]; omega)]
    congr 1; omega
theorem rdB_some (n : Int) (h : smallB n = true) : rdB (decT n) = (n, true) := by
  unfold rdB
  have e : (decT n).data.toList = Lib.itoa n := rfl
  rw [e, pi_itoa n h]
  exact if_pos ⟨rfl, h⟩
theorem rdB_none (s : ByteArray) (h : ¬ ∃ n, smallB n = true ∧ decT n = s) : rdB s = (0, false) := by
  unfold rdB
  split
  · rename_i v _
    rw [if_neg (fun h2 => h ⟨v, h2.2, h2.1⟩)]
  · rfl

/-! ### The reference -/
theorem j2_told (s : ByteArray) (x : Int) : ∃ k, Pr.spec_l01Value.j2 k s x = some (if decT x = s ∧ smallB x = true then (x, true) else (0, false)) := by
  by_cases hb : smallB x = true
  · obtain ⟨h1, h2⟩ := (small_iff x).1 hb
    obtain ⟨k, hk⟩ := dec_told x (by omega) (by omega)
    refine ⟨k + 1, ?_⟩
    rw [Pr.spec_l01Value.j2, in_small, Option.bind_some, if_pos hb, hk, Option.bind_some]
    by_cases e : decT x = s
    · rw [if_pos (by rw [e]), if_pos ⟨e, hb⟩]
    · rw [if_neg, if_neg (fun h => e h.1)]
      intro h
      rw [Lib.toList_data, Lib.toList_data] at h
      exact e (WideShapes.bytes_inj h)
  · refine ⟨1, ?_⟩
    rw [Pr.spec_l01Value.j2, in_small, Option.bind_some, if_neg hb, if_neg (fun h => hb h.2)]

/-- One byte more: a digit counts, another byte does not. -/
def dstep (x : Int) (b : UInt8) : Int := if 48 ≤ b.toNat ∧ b.toNat ≤ 57 then wrap64 (wrap64 (10 * x) + ((b.toNat : Int) - 48) % 256) else x
def dval (x : Int) (l : List UInt8) : Int := l.foldl dstep x
/-- Behind the loop. -/
def dfin (k : Nat) (s : ByteArray) (y : Int) : Option (Int × Bool) := if bt s 0 = 45 then Pr.spec_l01Value.j2 k s (wrap64 (-y)) else Pr.spec_l01Value.j2 k s y
theorem bt_list (s : ByteArray) (i : Nat) (h : i < s.data.toList.length) : bt s (i : Int) = ((s.data.toList[i]).toNat : Int) := by
  have hs : i < s.size := by rw [← data_length]; exact h
  unfold bt
  rw [dif_pos (by rw [Int.toNat_natCast]; exact hs)]
  rfl
theorem value_run (s : ByteArray) (hs : s.size ≤ 1048576) (h0 : 0 < s.size) (k : Nat) : ∀ (m i : Nat) (x : Int), i + m = s.size →
    Pr.spec_l01Value.l0 (k + m + 1) s x (i : Int) = dfin k s (dval x (s.data.toList.drop i))
  | 0, i, x, h => by
    rw [Nat.add_zero, Pr.spec_l01Value.l0, if_neg (by omega), if_pos (by omega), List.drop_of_length_le (by rw [data_length]; omega)]
    rfl
  | m + 1, i, x, h => by
    have hi : i < s.data.toList.length := by rw [data_length]; omega
    rw [show k + (m + 1) + 1 = (k + m + 1) + 1 from rfl, Pr.spec_l01Value.l0, if_pos (by omega), if_pos (by omega), bt_list s i hi, wrap_nat i (by omega)]
    rw [List.drop_eq_getElem_cons hi]
    have ih := fun x => value_run s hs h0 k m (i + 1) x (by omega)
    generalize s.data.toList[i] = b
    unfold dval
    rw [List.foldl_cons]
    unfold dstep
    by_cases c1 : 48 ≤ b.toNat
    · rw [if_pos (by omega)]
      by_cases c2 : b.toNat ≤ 57
      · rw [if_pos (by omega), if_pos ⟨c1, c2⟩]; exact ih _
      · rw [if_neg (by omega), if_neg (fun h => c2 h.2)]; exact ih _
    · rw [if_neg (by omega), if_neg (fun h => c1 h.1)]; exact ih _
theorem dval_dec (m : Nat) : m ≤ 1000000000000000 → dval 0 (Lib.decDigits m) = m := by
  induction m using Nat.strongRecOn with
  | _ m ih =>
    intro hm
    have one : ∀ (x : Nat) (d : Nat), x ≤ 1000000000000000 → d < 10 → dval (x : Int) [UInt8.ofNat (48 + d)] = ((x * 10 + d : Nat) : Int) := by
      intro x d hx hd
      unfold dval dstep
      rw [List.foldl_cons, List.foldl_nil, byte_dig d hd, if_pos (by omega), wrap_small (10 * (x : Int)) (by omega) (by omega)]
      rw [Int.emod_eq_of_lt (by omega) (by omega), wrap_small _ (by omega) (by omega)]
      omega
    by_cases h : m < 10
    · rw [Lib.decDigits, dif_pos h]
      have := one 0 m (by omega) h
      rw [Nat.zero_mul, Nat.zero_add] at this
      exact this
    · rw [Lib.decDigits, dif_neg h]
      have e : dval 0 (Lib.decDigits (m / 10) ++ [UInt8.ofNat (48 + m % 10)]) = dval (dval 0 (Lib.decDigits (m / 10))) [UInt8.ofNat (48 + m % 10)] := by
        unfold dval; rw [List.foldl_append]
      rw [e, ih (m / 10) (by omega) (by omega), one _ _ (by omega) (Nat.mod_lt _ (by decide))]
      congr 1; omega
theorem dec_len : ∀ (d m : Nat), m < 10 ^ (d + 1) → (Lib.decDigits m).length ≤ d + 1
  | 0, m, h => by
    have hm : m < 10 := by simpa using h
    rw [Lib.decDigits, dif_pos hm]; simp
  | d + 1, m, h => by
    by_cases hm : m < 10
    · rw [Lib.decDigits, dif_pos hm]; simp
    · have := dec_len d (m / 10) (by rw [Nat.pow_succ] at h; omega)
      rw [Lib.decDigits, dif_neg hm, List.length_append, List.length_singleton]; omega
theorem decT_size (n : Int) (h : smallB n = true) : 1 ≤ (decT n).size ∧ (decT n).size ≤ 17 := by
  obtain ⟨h1, h2⟩ := (small_iff n).1 h
  unfold decT
  rw [ba_size]
  unfold Lib.itoa
  by_cases hn : n < 0
  · have := dec_len 15 n.natAbs (by omega)
    rw [if_pos hn, List.length_cons]; omega
  · have := dec_len 15 n.toNat (by omega)
    have h3 := List.length_pos_iff.2 (dec_ne n.toNat)
    rw [if_neg hn]; omega
theorem dfin_dec (n : Int) (h : smallB n = true) (k : Nat) : dfin k (decT n) (dval 0 (decT n).data.toList) = Pr.spec_l01Value.j2 k (decT n) n := by
  obtain ⟨h1, h2⟩ := (small_iff n).1 h
  have hs := (decT_size n h).1
  have e : (decT n).data.toList = Lib.itoa n := rfl
  have hb := bt_list (decT n) 0 (by rw [data_length]; omega)
  have hb' : bt (decT n) 0 = (((decT n).data.toList[0]'(by rw [data_length]; omega)).toNat : Int) := hb
  unfold dfin
  rw [hb']
  by_cases hn : n < 0
  · have e2 : (decT n).data.toList = 45 :: Lib.decDigits n.natAbs := by rw [e]; unfold Lib.itoa; rw [if_pos hn]
    simp only [e2, List.getElem_cons_zero]
    rw [if_pos (by decide)]
    have : dval 0 (45 :: Lib.decDigits n.natAbs) = dval 0 (Lib.decDigits n.natAbs) := rfl
    rw [this, dval_dec _ (by omega), wrap_small _ (by omega) (by omega)]
    congr 1; omega
  · obtain ⟨c, r, e3, h3, h4⟩ := dec_head n.toNat
    have e2 : (decT n).data.toList = Lib.decDigits n.toNat := by rw [e]; unfold Lib.itoa; rw [if_neg hn]
    have hd := dval_dec n.toNat (by omega)
    rw [e3] at e2 hd
    simp only [e2, List.getElem_cons_zero]
    rw [if_neg (by omega), hd]
    congr 1; omega
theorem value_told (s : ByteArray) (hs : s.size ≤ 1048576) : ∃ k, Pr.spec_l01Value.f k s = some (rdB s) := by
  by_cases h : ∃ n, smallB n = true ∧ decT n = s
  · obtain ⟨n, hn, rfl⟩ := h
    obtain ⟨h1, h2⟩ := decT_size n hn
    obtain ⟨k, hk⟩ := j2_told (decT n) n
    refine ⟨k + (decT n).size + 1 + 1, ?_⟩
    unfold Pr.spec_l01Value.f
    have r := value_run (decT n) hs (by omega) k (decT n).size 0 0 (by omega)
    rw [if_neg (by omega), Pr.spec_l01Value.j0, if_neg (by simp; omega)]
    rw [List.drop_zero, dfin_dec n hn k, hk, if_pos ⟨rfl, hn⟩] at r
    rw [rdB_some n hn]
    exact r
  · rw [rdB_none s h]
    by_cases h1 : (s.size : Int) < 1
    · exact ⟨1, by unfold Pr.spec_l01Value.f; rw [if_pos h1]; rfl⟩
    · by_cases h2 : (s.size : Int) > 17
      · refine ⟨1, ?_⟩
        unfold Pr.spec_l01Value.f
        rw [if_neg h1, decide_eq_true h2]; rfl
      · have none : ∀ x, (if decT x = s ∧ smallB x = true then (x, true) else ((0 : Int), false)) = (0, false) := fun x => if_neg (fun e => h ⟨x, e.2, e.1⟩)
        have fin : ∃ k, dfin k s (dval 0 s.data.toList) = some (0, false) := by
          unfold dfin
          by_cases hb : bt s 0 = 45
          · obtain ⟨k, hk⟩ := j2_told s (wrap64 (-(dval 0 s.data.toList)))
            exact ⟨k, by rw [if_pos hb, hk, none]⟩
          · obtain ⟨k, hk⟩ := j2_told s (dval 0 s.data.toList)
            exact ⟨k, by rw [if_neg hb, hk, none]⟩
        obtain ⟨k, hk⟩ := fin
        refine ⟨k + s.size + 1 + 1, ?_⟩
        unfold Pr.spec_l01Value.f
        have r := value_run s hs (by omega) k s.size 0 0 (by omega)
        rw [List.drop_zero, hk] at r
        rw [if_neg h1, Pr.spec_l01Value.j0, if_neg (by simp; omega)]
        exact r
end Go.Proofs.YtmfaickanmdfnaaDoor
