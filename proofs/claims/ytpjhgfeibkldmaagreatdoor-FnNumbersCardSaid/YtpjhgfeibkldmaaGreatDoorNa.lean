/- Numbers written and read back, in plain words. Under no condition. -/
import Derived.Test.YtpjhgfeibkldmaaGreatDoorHr
import Derived.Test.YtpjhgfeibkldmaaGreatDoorCd
namespace Go.Proofs.YtpjhgfeibkldmaaGreatDoor
open Go Go.RowKit
set_option linter.unusedVariables false
set_option linter.unusedSimpArgs false

theorem cut_word : ∀ (w r cur : List UInt8), 44 ∉ w → cutFrom cur (w ++ r) = cutFrom (cur ++ w) r
  | [], r, cur, _ => by simp
  | c :: t, r, cur, h => by
    have hc : ¬ c = 44 := fun e => h (by rw [e]; exact List.mem_cons_self ..)
    rw [List.cons_append, cutFrom, if_neg hc, cut_word t r (cur ++ [c]) (fun hm => h (List.mem_cons_of_mem _ hm)), List.append_assoc]
    rfl
theorem cut_tail : ∀ (ws : List (List UInt8)) (w cur : List UInt8), 44 ∉ w → (∀ x ∈ ws, 44 ∉ x) → cutFrom cur (w ++ Lib.joinTail [44] ws) = (cur ++ w) :: ws
  | [], w, cur, h, _ => by
    have e : Lib.joinTail [44] [] = [] := rfl
    rw [e, cut_word w [] cur h]; rfl
  | y :: r, w, cur, h, hs => by
    have e : Lib.joinTail [44] (y :: r) = 44 :: (y ++ Lib.joinTail [44] r) := rfl
    rw [e, cut_word w _ cur h, cutFrom, if_pos rfl, cut_tail r y [] (hs y (List.mem_cons_self ..)) (fun x hx => hs x (List.mem_cons_of_mem _ hx))]
    rfl
theorem cut_join (w : List UInt8) (ws : List (List UInt8)) (h : ∀ x ∈ w :: ws, 44 ∉ x) : cutFrom [] (Lib.join (w :: ws) [44]) = w :: ws := by
  rw [Lib.join_cons, cut_tail ws w [] (h w (List.mem_cons_self ..)) (fun x hx => h x (List.mem_cons_of_mem _ hx))]
  rfl
theorem hexD_ne (d : Nat) (h : d < 16) : hexD d ≠ 44 := by
  have : ∀ d : Fin 16, hexD d.val ≠ 44 := by decide
  exact this ⟨d, h⟩
theorem hexK_ne : ∀ (k u : Nat), (44 : UInt8) ∉ hexK k u
  | 0, _ => by simp [hexK]
  | k + 1, u => by
    rw [hexK, List.mem_append, List.mem_singleton]
    rintro (h | h)
    · exact hexK_ne k _ h
    · exact hexD_ne (u % 16) (Nat.mod_lt _ (by decide)) h.symm
/-- A number's bits, of all that are none the same. -/
def canon (x : Nat) : Nat := (bitsOf x).toNat
theorem canon_lt {x : Nat} (h : x < 2 ^ 32) : canon x < 4294967296 := by
  have := bitsOf_lt x h
  unfold canon; omega
theorem canon_bits {x : Nat} (h : x < 2 ^ 32) : bitsOf (canon x) = (canon x : Int) ∧ bitsOf (canon x) = bitsOf x := by
  unfold canon
  cases hn : isN .f32 x with
  | true =>
    have e : bitsOf x = 2143289344 := by simp [bitsOf, hn]
    rw [e]
    decide
  | false =>
    have e : bitsOf x = (x : Int) := bitsOf_num hn
    rw [e]
    have e2 : ((x : Int)).toNat = x := by omega
    rw [e2]
    exact ⟨e, e⟩
theorem rdH_canon {x : Nat} (h : x < 2 ^ 32) : rdH (mkB (hexB x)) = some (canon x) := by
  have e : mkB (hexB x) = mkB (hexK 8 (canon x)) := rfl
  rw [e, rdH_hex (canon x) (canon_lt h), if_pos (canon_bits h).1]
theorem readH_canon : ∀ (xs : List Nat), (∀ x ∈ xs, x < 2 ^ 32) → readH ((xs.map hexB).map mkB) = some (xs.map canon)
  | [], _ => rfl
  | x :: r, h => by
    rw [List.map_cons, List.map_cons, readH, rdH_canon (h x (List.mem_cons_self ..)), readH_canon r (fun y hy => h y (List.mem_cons_of_mem _ hy))]
    rfl
/-- What is written is read back. -/
theorem rn_back (xs : List Nat) (h : ∀ x ∈ xs, x < 2 ^ 32) (hl : xs.length ≤ 256) : rnB (ntxt xs) = (xs.map canon, true) := by
  cases xs with
  | nil =>
    unfold rnB
    rw [ByteArray.toList_eq, if_pos (show (ntxt []).data.toList = [110, 111, 110, 101] from rfl)]; rfl
  | cons x r =>
    have e : ntxt (x :: r) = ⟨(Lib.join ((x :: r).map hexB) [44]).toArray⟩ := rfl
    have hd : (ntxt (x :: r)).data.toList = Lib.join ((x :: r).map hexB) [44] := by rw [e]
    have hc : cutFrom [] (Lib.join ((x :: r).map hexB) [44]) = (x :: r).map hexB := by
      rw [List.map_cons]
      refine cut_join _ _ ?_
      intro y hy
      rw [← List.map_cons] at hy
      obtain ⟨z, _, rfl⟩ := List.mem_map.1 hy
      exact hexK_ne 8 _
    unfold rnB partsB
    rw [ByteArray.toList_eq, hd, hc, readH_canon _ h]
    have h8 : (Lib.join ((x :: r).map hexB) [44]).length ≥ 8 := by
      rw [List.map_cons, Lib.join_cons, List.length_append, hexB_len]; omega
    rw [if_neg (fun e2 => by rw [e2] at h8; simp at h8), if_neg (by simp only [List.length_map]; omega)]
    rfl
theorem ntB_few (xs : List Nat) (hl : xs.length ≤ 256) : ntB xs = (ntxt xs, true) := by unfold ntB; rw [if_pos hl]
theorem same_canon {x : Nat} (h : x < 2 ^ 32) : sameB (canon x) x = true := by
  unfold sameB
  rw [(canon_bits h).2]
  exact beq_self_eq_true _
theorem sameB_refl (x : Nat) : sameB x x = true := by unfold sameB; exact beq_self_eq_true _
theorem sameB_of {x y : Nat} (h : Same .f32 x y) : sameB x y = true := by
  unfold sameB bitsOf
  have h1 := h.isN
  cases hn : isN .f32 y with
  | true => rw [h1, hn]; rfl
  | false => rw [h1, hn, h.eq hn]; simp
/-! ### Flushed numbers. -/
theorem rung_mod (x : Nat) : rung Ieee.single x = x % 2147483648 := by
  unfold rung
  rw [show Ieee.single.signWeight = 2147483648 by decide]
theorem num_low {x : Nat} (h : x % 2147483648 < 2 ^ 23) : isN .f32 x = false := by
  rw [isN_eq]
  show decide (Ieee.single.infRung < rung Ieee.single x) = false
  rw [rung_mod, show Ieee.single.infRung = 2139095040 by decide]
  exact decide_eq_false (by omega)
theorem subB_mod (x : Nat) : subB x = decide (0 < x % 2147483648 ∧ x % 2147483648 < 2 ^ 23) := by unfold subB; rw [rung_mod]
set_option maxRecDepth 10000 in
theorem flush_fine {x z : Nat} (hx : x < 2 ^ 32) (h : Same .f32 z (flushV x)) : subB z = false ∧ sameB x z = !subB x := by
  by_cases hr : x % 2147483648 < 2 ^ 23
  · have e : flushV x = x / 2147483648 * 2147483648 := by unfold flushV; rw [rung_mod, if_pos hr]
    rw [e] at h
    have hz0 : (x / 2147483648 * 2147483648) % 2147483648 = 0 := Nat.mul_mod_left _ _
    have hn : isN .f32 (x / 2147483648 * 2147483648) = false := num_low (by omega)
    have ez := h.eq hn
    subst ez
    refine ⟨by rw [subB_mod]; exact decide_eq_false (by omega), ?_⟩
    unfold sameB
    rw [bitsOf_num hn, bitsOf_num (num_low hr), subB_mod]
    have key : x / 2147483648 * 2147483648 + x % 2147483648 = x := by omega
    by_cases h0 : x % 2147483648 = 0
    · rw [decide_eq_false (by omega)]
      have : x / 2147483648 * 2147483648 = x := by rw [h0, Nat.add_zero] at key; exact key
      rw [this]; exact beq_self_eq_true _
    · rw [decide_eq_true (by omega)]
      have : ¬ (x : Int) = ((x / 2147483648 * 2147483648 : Nat) : Int) := by omega
      exact beq_eq_false_iff_ne.2 this
  · have e : flushV x = x := by unfold flushV; rw [rung_mod, if_neg hr]
    rw [e] at h
    have hs : subB x = false := by rw [subB_mod]; exact decide_eq_false (by omega)
    rw [hs]
    cases hn : isN .f32 x with
    | false =>
      have ez := h.eq hn
      subst ez
      exact ⟨hs, sameB_refl _⟩
    | true =>
      have hz : isN .f32 z = true := h.isN.trans hn
      have h2 : sameB z x = true := sameB_of h
      refine ⟨?_, ?_⟩
      · rw [isN_eq] at hz
        have := of_decide_eq_true hz
        have h3 : Ieee.single.infRung < rung Ieee.single z := this
        rw [rung_mod, show Ieee.single.infRung = 2139095040 by decide] at h3
        rw [subB_mod]; exact decide_eq_false (by omega)
      · unfold sameB bitsOf
        rw [hn, hz]; rfl
end Go.Proofs.YtpjhgfeibkldmaaGreatDoor

