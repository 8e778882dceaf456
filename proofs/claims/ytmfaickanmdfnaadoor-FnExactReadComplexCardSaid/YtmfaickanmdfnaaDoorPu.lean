/- strconv.ParseUint at base 16 and 32 bits, walked: whatever the text, it ends; and of eight digits it gives their number. The library's errors read as the program's text lays them. -/
import Derived.Test.YtmfaickanmdfnaaDoorHn
import Derived.Test.YtmfaickanmdfnaaDoorRe
import Derived.Test.YtmfaickanmdfnaaDoorRl
import Derived.Test.YtmfaickanmdfnaaDoorSk
namespace Go.Proofs.YtmfaickanmdfnaaDoor
open Go Go.RowKit Go.Proofs.YtmfaickanmdfnaaDoorW.PrintWords Go.Proofs.YtmfaickanmdfnaaDoorW.PrintLast Go.Proofs.YtmfaickanmdfnaaDoorW.PrintMore
set_option linter.unusedVariables false
set_option linter.unusedSimpArgs false

/-- A byte's value as a digit; 99: none. -/
def digV (c : Nat) : Nat := if 48 ≤ c ∧ c ≤ 57 then c - 48 else if 97 ≤ (c ||| 32) ∧ (c ||| 32) ≤ 122 then (c ||| 32) - 87 else 99
theorem digV_hex : ∀ d : Fin 16, digV (hexD d.val).toNat = d.val := by decide
theorem hexK_at : ∀ (k u i : Nat) (h : i < (hexK k u).length), (hexK k u)[i] = hexD (u / 16 ^ (k - 1 - i) % 16)
  | 0, u, i, h => by simp [hexK] at h
  | k + 1, u, i, h => by
    rw [hexK_len] at h
    by_cases hi : i < k
    · have h2 : i < (hexK k (u / 16)).length := by rw [hexK_len]; exact hi
      have e : k + 1 - 1 - i = (k - 1 - i) + 1 := by omega
      simp only [hexK]
      rw [List.getElem_append_left h2, hexK_at k (u / 16) i h2, e, Nat.div_div_eq_div_mul, Nat.pow_succ, Nat.mul_comm 16]
    · have hi2 : i = k := by omega
      subst hi2
      simp only [hexK]
      rw [List.getElem_append_right (by rw [hexK_len]; exact Nat.le_refl _)]
      simp [hexK_len]
theorem lowC : ∀ c : Fin 256, bits .or .u8 (c.val : Int) 32 = ((c.val ||| 32 : Nat) : Int) := by decide +kernel
theorem lower_calls (c : Nat) (hc : c < 256) (w : World) : Calls Tryd.prog 102 #[.int .u8 (c : Int)] w fun e w' => e = .returned (.int .u8 ((c ||| 32 : Nat) : Int)) ∧ w = w' := by
  have h1 := lowC ⟨c, hc⟩
  simp only at h1
  go_enter Tryd.func102, Tryd.ntmps102
  go_wp2
  go_ret
  exact ⟨rfl, rfl⟩

/-- What the digits so far spell, if the whole is a number's eight digits. -/
def Good (s : ByteArray) (n i : Nat) : Prop := ∀ N, N < 4294967296 → s = mkB (hexK 8 N) → n = N / 16 ^ (8 - i)
/-- The text is no number's eight digits. -/
def NoHex (s : ByteArray) : Prop := ∀ N, N < 4294967296 → s ≠ mkB (hexK 8 N)
theorem mkB_size (l : List UInt8) : (mkB l).size = l.length := ba_size l
theorem good_digit {s : ByteArray} {i N : Nat} (hi : i < s.size) (h : s = mkB (hexK 8 N)) : i < 8 ∧ digV (s.data.toList.getD i 0).toNat = N / 16 ^ (7 - i) % 16 := by
  have hs : s.size = 8 := by rw [h, mkB_size, hexK_len]
  refine ⟨by omega, ?_⟩
  have e : s.data.toList = hexK 8 N := by rw [h]; rfl
  have hl : i < (hexK 8 N).length := by rw [hexK_len]; omega
  rw [e, List.getD_eq_getElem?_getD, List.getElem?_eq_getElem hl, Option.getD_some, hexK_at 8 N i hl]
  exact digV_hex ⟨_, Nat.mod_lt _ (by decide)⟩
theorem pow_step (i : Nat) (h : i < 8) : 16 ^ (8 - i) = 16 ^ (7 - i) * 16 := by
  rw [show 8 - i = (7 - i) + 1 by omega, Nat.pow_succ]
theorem Good.next {s : ByteArray} {n i : Nat} (h : Good s n i) (hi : i < s.size) : Good s (n * 16 + digV (s.data.toList.getD i 0).toNat) (i + 1) := by
  intro N hN hs
  obtain ⟨h8, hd⟩ := good_digit hi hs
  rw [h N hN hs, hd, pow_step i h8, show 8 - (i + 1) = 7 - i by omega, ← Nat.div_div_eq_div_mul]
  omega
theorem bad_digit {s : ByteArray} {i : Nat} (hi : i < s.size) (hd : 16 ≤ digV (s.data.toList.getD i 0).toNat) : NoHex s := by
  intro N hN hs
  obtain ⟨h8, h⟩ := good_digit hi hs
  have := Nat.mod_lt (N / 16 ^ (7 - i)) (show 0 < 16 by decide)
  omega
theorem bad_range {s : ByteArray} {n i : Nat} (h : Good s n i) (hi : i < s.size) (hd : 4294967295 < n * 16 + digV (s.data.toList.getD i 0).toNat) : NoHex s := by
  intro N hN hs
  have h2 := h.next hi N hN hs
  have := Nat.div_le_self N (16 ^ (8 - (i + 1)))
  omega
/-- What ParseUint gives. -/
structure PRes (s : ByteArray) (u : Nat) (er : Value) : Prop where
  kinds : er = .nilIface ∨ er = .iface 105 (.int .i64 1) ∨ er = .iface 105 (.int .i64 2)
  good : ∀ N, N < 4294967296 → s = mkB (hexK 8 N) → u = N ∧ er = .nilIface
  lt : u < 18446744073709551616

set_option maxHeartbeats 4000000 in
set_option maxRecDepth 100000 in
theorem parse16a (s : ByteArray) (hs : s.size ≤ 1048576) (w : World) :
    Calls Tryd.prog 84 #[.string s, .int .i64 16, .int .i64 32] w fun e w' => (∃ u er, e = .returned (.tuple #[.int .u64 (u : Nat), er]) ∧ PRes s u er) ∧ Below w.heap.size w w' := by
  by_cases h0 : s.size = 0
  · have hl : s.data.toList = [] := List.eq_nil_of_length_eq_zero (by rw [data_length]; exact h0)
    have c0 : s.toList = [] := by rw [Lib.toList_data]; exact hl
    have c1 : (s.toList == ([] : List UInt8)) = true := beq_iff_eq.2 c0
    have HN : Aside0 (NoHex s) := ⟨fun N hN e => by
      have : s.size = 8 := by rw [e, mkB_size, hexK_len]
      omega⟩
    go_enter Tryd.func84, Tryd.ntmps84
    go_wp2
    go_ret2
    exact ⟨⟨0, _, rfl, ⟨.inr (.inr rfl), fun N hN e => absurd e (HN.out N hN), by decide⟩⟩, Below.refl _ _⟩
  · have c0 : s.toList ≠ [] := by
      rw [Lib.toList_data]
      intro e
      have := congrArg List.length e
      rw [data_length] at this
      exact h0 this
    have c1 : (s.toList == ([] : List UInt8)) = false := beq_eq_false_iff_ne.2 c0
    have hcv := Lib.run_convert_string_bytes (P := Tryd.prog) w 9 71 5 s Tryd.underlying9 Tryd.underlying71 Tryd.underlying5
    have HCell := Aside0.mk (Lib.bytesWorld_cell w 5 s)
    have HBw := Aside0.mk (Lib.bytesWorld_below w 5 s)
    obtain ⟨W1, hW1⟩ : ∃ W1, W1 = Lib.bytesWorld w 5 s := ⟨_, rfl⟩
    rw [← hW1] at hcv HCell HBw
    have HG0 : Aside0 (Good s 0 0) := ⟨fun N hN e => by rw [Nat.div_eq_of_lt (by simpa using hN)]⟩
    clear hW1
    go_enter Tryd.func84, Tryd.ntmps84
    go_wp2
    go_loop [12, 13, 101] (fun c12 c13 c101 => ∃ i n : Nat, i ≤ s.size ∧ c12 = .bool false ∧ c13 = .int .u64 (n : Int) ∧ c101 = .int .i64 (i : Int) ∧ n ≤ 4294967295 ∧ Aside0 (Good s n i)) (fun _ _ c101 => s.size - (intOf c101).toNat)
    case atStart => exact ⟨0, 0, by omega, rfl, rfl, rfl, by omega, HG0⟩
    case round =>
      clear HG0
      obtain ⟨i, n, hi, rfl, rfl, rfl, hn, HG⟩ := hrel
      by_cases hlt : i < s.size
      · have hc := HCell.out i hlt
        have p2 : decide ((i : Int) < (s.size : Int)) = true := decide_eq_true (by omega)
        have HNx := Aside0.mk (HG.out.next hlt)
        have HBd : Aside0 (16 ≤ digV (s.data.toList.getD i 0).toNat → NoHex s) := ⟨bad_digit hlt⟩
        have HBr : Aside0 (4294967295 < n * 16 + digV (s.data.toList.getD i 0).toNat → NoHex s) := ⟨bad_range HG.out hlt⟩
        have hcl : (s.data.toList.getD i 0).toNat < 256 := (s.data.toList.getD i 0).toNat_lt
        obtain ⟨c, hcc⟩ : ∃ c, c = (s.data.toList.getD i 0).toNat := ⟨_, rfl⟩
        rw [← hcc] at hc HNx HBd HBr hcl
        clear hcc HCell hcv
        have hcut : decide ((n : Int) ≥ 1152921504606846976) = false := decide_eq_false (by omega)
        have hcut' : decide ((1152921504606846976 : Int) ≤ (n : Int)) = false := decide_eq_false (by omega)
        obtain ⟨m, hm⟩ : ∃ m : Nat, m = n * 16 := ⟨_, rfl⟩
        have w1 : IntKind.u64.wrap ((n : Int) * 16) = (m : Int) := by unfold IntKind.wrap; simp [IntKind.bits, IntKind.signed]; omega
        obtain ⟨q, hq⟩ : ∃ q : Nat, q = m + digV c := ⟨_, rfl⟩
        rw [← hm, ← hq] at HBr HNx
        by_cases hd : 48 ≤ c ∧ c ≤ 57
        · have hD : digV c = c - 48 := by unfold digV; rw [if_pos hd]
          obtain ⟨D, hDe⟩ : ∃ D : Nat, D = c - 48 := ⟨_, rfl⟩
          have d0 : ((c : Int) == 95) = false := beq_eq_false_iff_ne.2 (by omega)
          have d1 : decide ((48 : Int) ≤ (c : Int)) = true := decide_eq_true (by omega)
          have d2 : decide ((c : Int) ≤ 57) = true := decide_eq_true (by omega)
          have d3 : IntKind.u8.wrap ((c : Int) - 48) = (D : Int) := by rw [IntKind.wrap_u8]; omega
          have d4 : decide ((D : Int) ≥ 16) = false := decide_eq_false (by omega)
          have d4' : decide ((16 : Int) ≤ (D : Int)) = false := decide_eq_false (by omega)
          have w2 : IntKind.u64.wrap ((m : Int) + (D : Int)) = (q : Int) := by unfold IntKind.wrap; simp [IntKind.bits, IntKind.signed]; omega
          have d5 : decide ((q : Int) < (m : Int)) = false := decide_eq_false (by omega)
          have hmq : m ≤ q := by omega
          have w3 : IntKind.u64.wrap (D : Int) = (D : Int) := by unfold IntKind.wrap; simp [IntKind.bits, IntKind.signed]; omega
          by_cases hr : 4294967295 < q
          · have d6 : decide ((q : Int) > 4294967295) = true := decide_eq_true (by omega)
            have d6' : decide ((4294967295 : Int) < (q : Int)) = true := decide_eq_true (by omega)
            have HN := Aside0.mk (HBr.out hr)
            clear HBd HBr HNx hm hq hD hDe HG hd hr hn hcl
            go_wp2
            go_ret2
            exact ⟨⟨4294967295, _, rfl, ⟨.inr (.inl rfl), fun N hN e => absurd e (HN.out N hN), by decide⟩⟩, HBw.out⟩
          · have d6 : decide ((q : Int) > 4294967295) = false := decide_eq_false (by omega)
            have d6' : decide ((4294967295 : Int) < (q : Int)) = false := decide_eq_false (by omega)
            have HR := Aside0.mk hr
            clear HBd HBr hm hq hD hDe HG hd hr hn hcl
            go_wp2
            go_round
            case rel => exact ⟨i + 1, q, by omega, rfl, rfl, by go_num, by have := HR.out; omega, HNx⟩
            case measure => simp [intOf]; omega
        · obtain ⟨L, hLe⟩ : ∃ L : Nat, L = c ||| 32 := ⟨_, rfl⟩
          have hL256 : L < 256 := by rw [hLe]; exact Nat.or_lt_two_pow (n := 8) hcl (by decide)
          have hDv : digV c = if 97 ≤ L ∧ L ≤ 122 then L - 87 else 99 := by unfold digV; rw [if_neg hd, hLe]
          have HLe := Aside0.mk hLe
          clear hLe
          by_cases h48 : c < 48
          · have d0 : ((c : Int) == 95) = false := beq_eq_false_iff_ne.2 (by omega)
            have d1 : decide ((48 : Int) ≤ (c : Int)) = false := decide_eq_false (by omega)
            have hL64 : L < 64 := by rw [HLe.out]; exact Nat.or_lt_two_pow (n := 6) (by omega) (by decide)
            have d2 : decide ((97 : Int) ≤ (L : Int)) = false := decide_eq_false (by omega)
            have HN := Aside0.mk (HBd.out (by rw [hDv, if_neg (by omega)]; omega))
            clear h48 hL64 hDv
            clear HBd HBr HNx hm hq HG hd hn
            go_wp2_with (first | (go_at_call 102; refine (lower_calls c hcl _).mono ?_; rw [← HLe.out]; rintro e w' ⟨rfl, rfl⟩))
            go_ret2
            exact ⟨⟨0, _, rfl, ⟨.inr (.inr rfl), fun N hN e => absurd e (HN.out N hN), by decide⟩⟩, HBw.out⟩
          · have d1 : decide ((48 : Int) ≤ (c : Int)) = true := decide_eq_true (by omega)
            have d2 : decide ((c : Int) ≤ 57) = false := decide_eq_false (by omega)
            by_cases h95 : c = 95
            · have hL : L = 127 := by rw [HLe.out, h95]; decide
              have HN := Aside0.mk (HBd.out (by rw [hDv, if_neg (by omega)]; omega))
              have d0 : ((c : Int) == 95) = true := beq_iff_eq.2 (by omega)
              have d3 : decide ((97 : Int) ≤ (L : Int)) = true := decide_eq_true (by omega)
              have d4 : decide ((L : Int) ≤ 122) = false := decide_eq_false (by omega)
              clear h95 hL
              clear h48 hDv
              clear HBd HBr HNx hm hq HG hd hn
              go_wp2_with (first | (go_at_call 102; refine (lower_calls c hcl _).mono ?_; rw [← HLe.out]; rintro e w' ⟨rfl, rfl⟩))
              go_ret2
              exact ⟨⟨0, _, rfl, ⟨.inr (.inr rfl), fun N hN e => absurd e (HN.out N hN), by decide⟩⟩, HBw.out⟩
            · have d0 : ((c : Int) == 95) = false := beq_eq_false_iff_ne.2 (by omega)
              by_cases hl1 : L < 97
              · have d3 : decide ((97 : Int) ≤ (L : Int)) = false := decide_eq_false (by omega)
                have HN := Aside0.mk (HBd.out (by rw [hDv, if_neg (by omega)]; omega))
                clear h48 hDv h95 hl1
                clear HBd HBr HNx hm hq HG hd hn
                go_wp2_with (first | (go_at_call 102; refine (lower_calls c hcl _).mono ?_; rw [← HLe.out]; rintro e w' ⟨rfl, rfl⟩))
                go_ret2
                exact ⟨⟨0, _, rfl, ⟨.inr (.inr rfl), fun N hN e => absurd e (HN.out N hN), by decide⟩⟩, HBw.out⟩
              · have d3 : decide ((97 : Int) ≤ (L : Int)) = true := decide_eq_true (by omega)
                by_cases hl2 : 122 < L
                · have d4 : decide ((L : Int) ≤ 122) = false := decide_eq_false (by omega)
                  have HN := Aside0.mk (HBd.out (by rw [hDv, if_neg (by omega)]; omega))
                  clear h48 hDv h95 hl1 hl2
                  clear HBd HBr HNx hm hq HG hd hn
                  go_wp2_with (first | (go_at_call 102; refine (lower_calls c hcl _).mono ?_; rw [← HLe.out]; rintro e w' ⟨rfl, rfl⟩))
                  go_ret2
                  exact ⟨⟨0, _, rfl, ⟨.inr (.inr rfl), fun N hN e => absurd e (HN.out N hN), by decide⟩⟩, HBw.out⟩
                · have d4 : decide ((L : Int) ≤ 122) = true := decide_eq_true (by omega)
                  obtain ⟨L1, hL1⟩ : ∃ L1 : Nat, L1 = L - 97 := ⟨_, rfl⟩
                  obtain ⟨D, hDe⟩ : ∃ D : Nat, D = L - 87 := ⟨_, rfl⟩
                  have hD : digV c = D := by rw [hDv, if_pos (by omega), hDe]
                  have e1 : IntKind.u8.wrap ((L : Int) - 97) = (L1 : Int) := by rw [IntKind.wrap_u8]; omega
                  have e2 : IntKind.u8.wrap ((L1 : Int) + 10) = (D : Int) := by rw [IntKind.wrap_u8]; omega
                  by_cases hd16 : 16 ≤ D
                  · have d5 : decide ((D : Int) ≥ 16) = true := decide_eq_true (by omega)
                    have d5' : decide ((16 : Int) ≤ (D : Int)) = true := decide_eq_true (by omega)
                    have HN := Aside0.mk (HBd.out (by rw [hD]; exact hd16))
                    clear h48 hDv h95 hl1 hl2 hD hDe hL1 hd16
                    clear HBd HBr HNx hm hq HG hd hn
                    go_wp2_with (first | (go_at_call 102; refine (lower_calls c hcl _).mono ?_; rw [← HLe.out]; rintro e w' ⟨rfl, rfl⟩))
                    go_ret2
                    exact ⟨⟨0, _, rfl, ⟨.inr (.inr rfl), fun N hN e => absurd e (HN.out N hN), by decide⟩⟩, HBw.out⟩
                  · have d5 : decide ((D : Int) ≥ 16) = false := decide_eq_false (by omega)
                    have d5' : decide ((16 : Int) ≤ (D : Int)) = false := decide_eq_false (by omega)
                    have w2 : IntKind.u64.wrap ((m : Int) + (D : Int)) = (q : Int) := by unfold IntKind.wrap; simp [IntKind.bits, IntKind.signed]; omega
                    have hmq : m ≤ q := by omega
                    have d7 : decide ((q : Int) < (m : Int)) = false := decide_eq_false (by omega)
                    have w3 : IntKind.u64.wrap (D : Int) = (D : Int) := by unfold IntKind.wrap; simp [IntKind.bits, IntKind.signed]; omega
                    by_cases hr : 4294967295 < q
                    · have d6 : decide ((q : Int) > 4294967295) = true := decide_eq_true (by omega)
                      have d6' : decide ((4294967295 : Int) < (q : Int)) = true := decide_eq_true (by omega)
                      have HN := Aside0.mk (HBr.out hr)
                      clear HBd HBr HNx hm hq HG hd hn h48 hDv h95 hl1 hl2 hD hDe hL1 hd16 hr
                      go_wp2_with (first | (go_at_call 102; refine (lower_calls c hcl _).mono ?_; rw [← HLe.out]; rintro e w' ⟨rfl, rfl⟩))
                      go_ret2
                      exact ⟨⟨4294967295, _, rfl, ⟨.inr (.inl rfl), fun N hN e => absurd e (HN.out N hN), by decide⟩⟩, HBw.out⟩
                    · have d6 : decide ((q : Int) > 4294967295) = false := decide_eq_false (by omega)
                      have d6' : decide ((4294967295 : Int) < (q : Int)) = false := decide_eq_false (by omega)
                      have HR := Aside0.mk hr
                      clear HBd HBr hm hq HG hd hn h48 hDv h95 hl1 hl2 hD hDe hL1 hd16 hr
                      go_wp2_with (first | (go_at_call 102; refine (lower_calls c hcl _).mono ?_; rw [← HLe.out]; rintro e w' ⟨rfl, rfl⟩))
                      go_round
                      case rel => exact ⟨i + 1, q, by omega, rfl, rfl, by go_num, by have := HR.out; omega, HNx⟩
                      case measure => simp [intOf]; omega
      · have hi2 : i = s.size := by omega
        subst hi2
        clear HCell hcv
        go_wp2
        go_ret2
        exact ⟨⟨n, _, rfl, ⟨.inl rfl, fun N hN e => ⟨by
          have h1 := HG.out N hN e
          have h8 : s.size = 8 := by rw [e, mkB_size, hexK_len]
          rw [h1, h8]; simp, rfl⟩, by omega⟩⟩, HBw.out⟩
end Go.Proofs.YtmfaickanmdfnaaDoor
