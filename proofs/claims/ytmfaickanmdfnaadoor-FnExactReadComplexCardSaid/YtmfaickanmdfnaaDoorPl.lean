/- What the reference computes for the text of a list of whole numbers, in plain words. Under no condition. -/
import Derived.Test.YtmfaickanmdfnaaDoorDk
import Derived.Lib.Join
import Derived.Lib.ItoaLen
namespace Go.Proofs.YtmfaickanmdfnaaDoor
open Go Go.RowKit Go.Proofs.YtmfaickanmdfnaaDoorW.PrintWords
set_option linter.unusedVariables false
set_option linter.unusedSimpArgs false

/-- A number that is not too great. -/
def smallB (n : Int) : Bool := decide (-1000000000000000 ≤ n ∧ n ≤ 1000000000000000)
/-- A list of few numbers that are not too great. -/
def listB (l : List Int) : Bool := l.all smallB && decide (l.length ≤ 64)
/-- The text of a list. -/
def txtB (l : List Int) : ByteArray := if l = [] then ⟨#[110, 111, 110, 101]⟩ else ⟨(Lib.join (l.map Lib.itoa) [44]).toArray⟩

theorem in_small (n : Int) : Pr.spec_l00In.f n (-1000000000000000) 1000000000000000 = some (smallB n) := by
  unfold Pr.spec_l00In.f smallB
  by_cases h : n ≥ -1000000000000000
  · rw [if_pos h]; congr 1; apply decide_eq_decide.2; omega
  · rw [if_neg h]; congr 1; symm; apply decide_eq_false; omega
theorem within_small (n : Int) : Pr.impl_within.f n (-1000000000000000) 1000000000000000 = some (smallB n) := by
  unfold Pr.impl_within.f smallB
  by_cases h : -1000000000000000 ≤ n
  · rw [if_pos h]; congr 1; apply decide_eq_decide.2; omega
  · rw [if_neg h]; congr 1; symm; apply decide_eq_false; omega
theorem rd_at (l : List Int) (i : Nat) (h : i < l.length) : rd l (i : Int) = l[i] := by
  unfold rd; rw [Int.toNat_natCast, List.getD_eq_getElem?_getD, List.getElem?_eq_getElem h]; rfl
theorem wrap_nat (i : Nat) (h : i ≤ 4611686018427387904) : wrap64 ((i : Int) + 1) = ((i + 1 : Nat) : Int) := by
  rw [wrap_small _ (by omega) (by omega)]; omega

theorem list_run (l : List Int) (hl : l.length ≤ 1048576) : ∀ (m i : Nat), i + m = l.length →
    Pr.spec_l01List.l0 (m + 1) l (i : Int) = some ((l.drop i).all smallB && decide (l.length ≤ 64))
  | 0, i, h => by
    rw [Pr.spec_l01List.l0, if_neg (by omega), List.drop_of_length_le (by omega), List.all_nil, Bool.true_and]
    congr 1; apply decide_eq_decide.2; omega
  | m + 1, i, h => by
    have hi : i < l.length := by omega
    rw [Pr.spec_l01List.l0, if_pos (by omega), if_pos (by omega), rd_at l i hi, in_small, Option.bind_some, List.drop_eq_getElem_cons hi, List.all_cons]
    by_cases hb : smallB l[i] = true
    · rw [if_pos hb, wrap_nat i (by omega), list_run l hl m (i + 1) (by omega), hb, Bool.true_and]
    · rw [if_neg hb, Bool.eq_false_iff.2 hb]; rfl
theorem list_told (l : List Int) (hl : l.length ≤ 1048576) : Pr.spec_l01List.f (l.length + 1) l = some (listB l) := by
  have := list_run l hl l.length 0 (by omega)
  rw [List.drop_zero] at this
  exact this

theorem ba_append (a b : List UInt8) : (⟨a.toArray⟩ : ByteArray) ++ (⟨b.toArray⟩ : ByteArray) = ⟨(a ++ b).toArray⟩ := by
  apply ByteArray.ext; simp [ByteArray.data_append]
theorem ba_size (a : List UInt8) : (⟨a.toArray⟩ : ByteArray).size = a.length := by simp [ByteArray.size]
theorem text_mono (k j : Nat) (l : List Int) (x : ByteArray) (i : Int) (r : ByteArray) (h : Pr.spec_l01Text.l0 k l x i = some r) : Pr.spec_l01Text.l0 (k + j) l x i = some r := by
  induction j with
  | zero => exact h
  | succ j ih => exact Pr.spec_l01Text.mono_l (k + j) l x i r ih
theorem text_run (l : List Int) (hl : l.length ≤ 1048576) (hw : ∀ n ∈ l, -9223372036854775808 ≤ n ∧ n ≤ 9223372036854775807) : ∀ (m i : Nat) (x : List UInt8), i + m = l.length → x.length ≤ 30 * i →
    ∃ k, Pr.spec_l01Text.l0 k l ⟨x.toArray⟩ (i : Int) = some ⟨(x ++ Lib.joinTail [44] ((l.drop i).map Lib.itoa)).toArray⟩
  | 0, i, x, h, hx => by
    refine ⟨1, ?_⟩
    rw [Pr.spec_l01Text.l0, if_neg (by omega), List.drop_of_length_le (by omega)]
    simp [Lib.joinTail]
  | m + 1, i, x, h, hx => by
    have hi : i < l.length := by omega
    obtain ⟨h1, h2⟩ := hw l[i] (List.getElem_mem hi)
    have hlen := Lib.itoa_length_le l[i] h1 h2
    obtain ⟨k1, e1⟩ := dec_told l[i] h1 h2
    obtain ⟨k2, e2⟩ := text_run l hl hw m (i + 1) (x ++ ([44] ++ Lib.itoa l[i])) (by omega) (by simp only [List.length_append, List.length_cons, List.length_nil]; omega)
    refine ⟨k1 + k2 + 1, ?_⟩
    have c : (⟨#[44]⟩ : ByteArray) ++ decT l[i] = ⟨([44] ++ Lib.itoa l[i]).toArray⟩ := ba_append [44] _
    rw [Pr.spec_l01Text.l0, if_pos (by omega), if_pos (by omega), rd_at l i hi, dec_mono _ k1 k2 _ e1, Option.bind_some]
    rw [if_pos (by unfold decT; rw [ba_size]; omega), c, if_pos (by rw [ba_size, ba_size]; simp only [List.length_append, List.length_cons, List.length_nil]; omega)]
    rw [ba_append, wrap_nat i (by omega), Nat.add_comm k1 k2, text_mono _ _ _ _ _ _ e2]
    rw [List.drop_eq_getElem_cons hi, List.map_cons]
    congr 3
    simp [Lib.joinTail]
theorem text_told (l : List Int) (hl : l.length ≤ 1048576) (hw : ∀ n ∈ l, -9223372036854775808 ≤ n ∧ n ≤ 9223372036854775807) : ∃ k, Pr.spec_l01Text.f k l = some (txtB l) := by
  unfold Pr.spec_l01Text.f txtB
  cases l with
  | nil => exact ⟨0, rfl⟩
  | cons a r =>
    obtain ⟨h1, h2⟩ := hw a (List.mem_cons_self)
    obtain ⟨k1, e1⟩ := dec_told a h1 h2
    obtain ⟨k2, e2⟩ := text_run (a :: r) hl hw r.length 1 (Lib.itoa a) (by simp only [List.length_cons]; omega) (by have := Lib.itoa_length_le a h1 h2; omega)
    refine ⟨k1 + k2, ?_⟩
    rw [if_neg (by simp only [List.length_cons]; omega), if_pos (by simp only [List.length_cons]; omega), if_neg (by simp)]
    have e0 : rd (a :: r) 0 = a := rfl
    rw [e0, dec_mono _ k1 k2 _ e1, Option.bind_some, Nat.add_comm k1 k2]
    refine (text_mono _ _ _ _ _ _ e2).trans ?_
    rw [List.map_cons, Lib.join_cons]
    rfl

/-- What ListText returns. -/
def ltB (l : List Int) : ByteArray × Bool := if listB l then (txtB l, true) else (⟨#[]⟩, false)
theorem lists_mono (l : List Int) (k j : Nat) (r : Bool) (h : Pr.spec_l01List.f k l = some r) : Pr.spec_l01List.f (k + j) l = some r := by
  induction j with
  | zero => exact h
  | succ j ih => exact Pr.spec_l01List.mono l (k + j) r ih
theorem texts_mono (l : List Int) (k j : Nat) (r : ByteArray) (h : Pr.spec_l01Text.f k l = some r) : Pr.spec_l01Text.f (k + j) l = some r := by
  induction j with
  | zero => exact h
  | succ j ih => exact Pr.spec_l01Text.mono l (k + j) r ih
theorem listText_told (l : List Int) (hl : l.length ≤ 1048576) (hw : ∀ n ∈ l, -9223372036854775808 ≤ n ∧ n ≤ 9223372036854775807) : ∃ k, Pr.spec_ListText.f k l = some (ltB l) := by
  obtain ⟨k, hk⟩ := text_told l hl hw
  refine ⟨k + (l.length + 1), ?_⟩
  unfold Pr.spec_ListText.f ltB
  rw [texts_mono l k _ _ hk, Nat.add_comm k, lists_mono l _ k _ (list_told l hl), Option.bind_some, Option.bind_some]
  cases listB l <;> rfl

theorem take_set (l : List Int) (i m : Nat) (h : i + (m + 1) = l.length) : (l.take i ++ List.replicate (m + 1) 0).set i (l[i]'(by omega)) = l.take (i + 1) ++ List.replicate m 0 := by
  have hi : i < l.length := by omega
  rw [List.set_append_right _ _ (by rw [List.length_take]; omega), List.length_take, Nat.min_eq_left (by omega), Nat.sub_self, List.replicate_succ, List.set_cons_zero, List.take_succ_eq_append_getElem hi, List.append_assoc]
  rfl
theorem to_run (l : List Int) (hl : l.length ≤ 1048576) : ∀ (m i : Nat), i + m = l.length →
    Pr.laws_toInt64S.l0 (m + 1) l (l.take i ++ List.replicate m 0) (i : Int) = some l
  | 0, i, h => by rw [Pr.laws_toInt64S.l0, if_neg (by omega), List.take_of_length_le (by omega)]; simp
  | m + 1, i, h => by
    have hi : i < l.length := by omega
    rw [Pr.laws_toInt64S.l0, if_pos (by omega), if_pos (by omega), if_pos (by simp only [List.length_append, List.length_take, List.length_replicate]; omega), rd_at l i hi, Int.toNat_natCast, take_set l i m h, wrap_nat i (by omega)]
    exact to_run l hl m (i + 1) (by omega)
theorem to_told (l : List Int) (hl : l.length ≤ 1048576) : Pr.laws_toInt64S.f (l.length + 1) l = some l := by
  unfold Pr.laws_toInt64S.f
  rw [if_pos (by omega), Int.toNat_natCast, if_pos (by omega)]
  have := to_run l hl l.length 0 (by omega)
  rw [List.take_zero, List.nil_append] at this
  exact this
theorem eq_run (l : List Int) (hl : l.length ≤ 1048576) : ∀ (m i : Nat), i + m = l.length → Pr.laws_eqInt64S.l0 (m + 1) l l (i : Int) = some true
  | 0, i, h => by rw [Pr.laws_eqInt64S.l0, if_neg (by omega)]
  | m + 1, i, h => by
    rw [Pr.laws_eqInt64S.l0, if_pos (by omega), if_pos (by omega), if_pos (by omega), if_pos rfl, wrap_nat i (by omega)]
    exact eq_run l hl m (i + 1) (by omega)
theorem eq_told (l : List Int) (hl : l.length ≤ 1048576) : Pr.laws_eqInt64S.f (l.length + 1) l l = some true := by
  unfold Pr.laws_eqInt64S.f
  rw [if_pos rfl]
  exact eq_run l hl l.length 0 (by omega)
end Go.Proofs.YtmfaickanmdfnaaDoor
