/- What the reference computes when it reads a list of whole numbers, and that the library cuts a text in the same parts. Under no condition. -/
import Derived.Test.YtmfaickanmdfnaaDoorRd
import Derived.Lib.SplitLaws
namespace Go.Proofs.YtmfaickanmdfnaaDoor
open Go Go.RowKit Go.Proofs.YtmfaickanmdfnaaDoorW.PrintWords
set_option linter.unusedVariables false
set_option linter.unusedSimpArgs false

/-- The parts of a text between commas; cur: what of the first part has been met. -/
def cutFrom (cur : List UInt8) : List UInt8 → List (List UInt8)
  | [] => [cur]
  | c :: r => if c = 44 then cur :: cutFrom [] r else cutFrom (cur ++ [c]) r
def mkB (l : List UInt8) : ByteArray := ⟨l.toArray⟩
def partsB (s : ByteArray) : List ByteArray := (cutFrom [] s.data.toList).map mkB
/-- Numbers read from parts: all, or none. -/
def readAll : List ByteArray → Option (List Int)
  | [] => some []
  | p :: ps => if (rdB p).2 = true then (readAll ps).map ((rdB p).1 :: ·) else none
/-- What ReadList returns. -/
def endB : Option (List Int) → List Int × Bool
  | some l => (l, true)
  | none => ([], false)
def rlB (s : ByteArray) : List Int × Bool :=
  if s.toList = ([110, 111, 110, 101] : List UInt8) then ([], true)
  else if (partsB s).length > 64 then ([], false) else endB (readAll (partsB s))

/-! ### The cut -/
theorem cutFrom_len : ∀ (r : List UInt8) (cur : List UInt8), (cutFrom cur r).length ≤ r.length + 1
  | [], cur => by simp [cutFrom]
  | c :: r, cur => by
    rw [cutFrom]
    split
    · have := cutFrom_len r []
      simp only [List.length_cons]; omega
    · have := cutFrom_len r (cur ++ [c])
      simp only [List.length_cons]; omega
theorem cutFrom_small : ∀ (r : List UInt8) (cur : List UInt8), ∀ p ∈ cutFrom cur r, p.length ≤ cur.length + r.length
  | [], cur, p, hp => by
    rw [cutFrom, List.mem_singleton] at hp; subst hp; simp
  | c :: r, cur, p, hp => by
    rw [cutFrom] at hp
    split at hp
    · rcases List.mem_cons.1 hp with rfl | hp
      · simp
      · have := cutFrom_small r [] p hp
        simp only [List.length_cons, List.length_nil] at this ⊢; omega
    · have := cutFrom_small r (cur ++ [c]) p hp
      simp only [List.length_cons, List.length_append, List.length_nil] at this ⊢; omega
theorem parts_small (s : ByteArray) : ∀ p ∈ partsB s, p.size ≤ s.size := by
  intro p hp
  obtain ⟨l, hl, rfl⟩ := List.mem_map.1 hp
  have := cutFrom_small _ _ l hl
  unfold mkB
  rw [ba_size, ← data_length s]
  simpa using this
theorem mkB_extract (s : ByteArray) (a b : Nat) : s.extract a b = mkB ((s.data.toList.drop a).take (b - a)) := by
  apply WideShapes.bytes_inj
  rw [Lib.extract_data]; rfl
theorem take_more (l : List UInt8) (a i : Nat) (ha : a ≤ i) (hi : i < l.length) : (l.drop a).take (i + 1 - a) = (l.drop a).take (i - a) ++ [l[i]] := by
  have h : i - a < (l.drop a).length := by rw [List.length_drop]; omega
  rw [show i + 1 - a = (i - a) + 1 by omega, List.take_succ_eq_append_getElem h, List.getElem_drop]
  congr 2
  simp only [show a + (i - a) = i by omega]
theorem cut_run (s : ByteArray) (hs : s.size ≤ 1048576) : ∀ (m i a : Nat) (acc : List ByteArray), i + m = s.size → a ≤ i → acc.length ≤ i →
    Pr.spec_l01Cut.l0 (m + 2) s 44 acc (a : Int) (i : Int) = some (acc ++ (cutFrom ((s.data.toList.drop a).take (i - a)) (s.data.toList.drop i)).map mkB)
  | 0, i, a, acc, h, ha, hl => by
    rw [Pr.spec_l01Cut.l0, if_pos (by omega), if_pos (by omega), if_pos (by omega), if_pos (by omega), if_pos (by omega), wrap_nat i (by omega), Pr.spec_l01Cut.l0, if_neg (by omega)]
    rw [List.drop_of_length_le (i := i) (by rw [data_length]; omega), cutFrom, Int.toNat_natCast, Int.toNat_natCast, mkB_extract]
    rfl
  | m + 1, i, a, acc, h, ha, hl => by
    have hi : i < s.data.toList.length := by rw [data_length]; omega
    rw [show m + 1 + 2 = (m + 2) + 1 from rfl, Pr.spec_l01Cut.l0, if_pos (by omega), if_neg (by omega), if_pos (by omega), if_pos (by omega), bt_list s i hi, wrap_nat i (by omega)]
    rw [List.drop_eq_getElem_cons hi, cutFrom]
    by_cases hc : s.data.toList[i] = 44
    · rw [if_pos hc, if_pos (by rw [hc]; rfl), if_pos (by omega), if_pos (by omega), if_pos (by omega)]
      rw [cut_run s hs m (i + 1) (i + 1) _ (by omega) (by omega) (by simp only [List.length_append, List.length_singleton]; omega)]
      rw [Nat.sub_self, List.take_zero, Int.toNat_natCast, Int.toNat_natCast, mkB_extract, List.map_cons, List.append_assoc]
      rfl
    · rw [if_neg hc, if_neg (fun e => hc (UInt8.toNat_inj.1 (by have : (44 : UInt8).toNat = 44 := rfl; omega)))]
      rw [cut_run s hs m (i + 1) a acc (by omega) (by omega) (by omega), take_more _ a i ha hi]
theorem cut_told (s : ByteArray) (hs : s.size ≤ 1048576) : Pr.spec_l01Cut.f (s.size + 2) s 44 = some (partsB s) := by
  unfold Pr.spec_l01Cut.f
  have := cut_run s hs s.size 0 0 [] (by omega) (by omega) (by simp)
  exact this

/-! ### The library's cut -/
def prep (cur : List UInt8) : List (List UInt8) → List (List UInt8)
  | [] => [cur]
  | h :: t => (cur ++ h) :: t
theorem prep_nil : ∀ (x : List (List UInt8)), x ≠ [] → prep [] x = x
  | [], h => absurd rfl h
  | h :: t, _ => rfl
theorem splitK_ne (k : Nat) (s : List UInt8) : Lib.splitK [44] 0 k s ≠ [] := by
  cases k with
  | zero => simp [Lib.splitK]
  | succ k => unfold Lib.splitK; split <;> simp
theorem idx_eq (r : List UInt8) : Lib.index (44 :: r) [44] = 0 := by rw [Lib.index]; simp [List.isPrefixOf]
theorem idx_ne (c : UInt8) (r : List UInt8) (h : c ≠ 44) : Lib.index (c :: r) [44] = if Lib.index r [44] == -1 then -1 else Lib.index r [44] + 1 := by
  have hp : ([44] : List UInt8).isPrefixOf (c :: r) = false := by simp [List.isPrefixOf, Ne.symm h]
  rw [Lib.index, hp]; simp
theorem cut_split : ∀ (s cur : List UInt8), cutFrom cur s = prep cur (Lib.splitK [44] 0 (Lib.count s [44]) s)
  | [], cur => by
    rw [Lib.count_one]
    simp [cutFrom, Lib.splitK, prep]
  | c :: r, cur => by
    rw [cutFrom]
    by_cases hc : c = 44
    · subst hc
      rw [if_pos rfl, Lib.count_cons_eq, Nat.add_comm 1, Lib.splitK, idx_eq, if_neg (by decide)]
      rw [cut_split r [], prep_nil _ (splitK_ne _ _)]
      simp [prep]
    · rw [if_neg hc, Lib.count_cons_ne c 44 r hc, cut_split r (cur ++ [c])]
      cases hk : Lib.count r [44] with
      | zero => simp [Lib.splitK, prep]
      | succ k =>
        rw [Lib.splitK, Lib.splitK, idx_ne c r hc]
        by_cases hm : Lib.index r [44] = -1
        · rw [hm]; simp [prep]
        · have hge := Lib.index_ge r [44]
          obtain ⟨j, hj⟩ : ∃ j : Nat, Lib.index r [44] = j := ⟨(Lib.index r [44]).toNat, by omega⟩
          have n1 : ((j : Int) == -1) = false := beq_eq_false_iff_ne.2 (by omega)
          have n2 : (((j : Int) + 1) == -1) = false := beq_eq_false_iff_ne.2 (by omega)
          have t1 : ((j : Int) + 1).toNat = j + 1 := by omega
          rw [hj, n1]
          simp [n2, t1, prep]
theorem split_parts (s : ByteArray) : Lib.splitB ⟨#[44]⟩ 0 (Lib.countB s ⟨#[44]⟩) s = partsB s := by
  have h := Lib.splitB_data ⟨#[44]⟩ 0 (Lib.countB s ⟨#[44]⟩) s
  have e : (Lib.splitB ⟨#[44]⟩ 0 (Lib.countB s ⟨#[44]⟩) s).map (·.data.toList) = cutFrom [] s.data.toList := by
    rw [h, cut_split, prep_nil _ (splitK_ne _ _)]
  unfold partsB
  rw [← e, List.map_map]
  have : (mkB ∘ fun x : ByteArray => x.data.toList) = id := by
    funext x
    exact WideShapes.bytes_inj rfl
  rw [this, List.map_id]
theorem split_len (s : ByteArray) : (partsB s).length = Lib.countB s ⟨#[44]⟩ + 1 := by
  rw [← split_parts, Lib.splitB_all ⟨#[44]⟩ (by decide) 0 _ s rfl]

/-! ### The reading -/
theorem rdOf_at (l : List ByteArray) (i : Nat) (h : i < l.length) : rdOf ByteArray.empty l (i : Int) = l[i] := by
  unfold rdOf; rw [Int.toNat_natCast, List.getD_eq_getElem?_getD, List.getElem?_eq_getElem h]; rfl
theorem value_mono (s : ByteArray) (k j : Nat) (r : Int × Bool) (h : Pr.spec_l01Value.f k s = some r) : Pr.spec_l01Value.f (k + j) s = some r := by
  induction j with
  | zero => exact h
  | succ j ih => exact Pr.spec_l01Value.mono s (k + j) r ih
theorem numbers_mono (k j : Nat) (x : List Int) (ps : List ByteArray) (i : Int) (r : List Int × Bool) (h : Pr.spec_l01Numbers.l0 k x ps i = some r) : Pr.spec_l01Numbers.l0 (k + j) x ps i = some r := by
  induction j with
  | zero => exact h
  | succ j ih => exact Pr.spec_l01Numbers.mono_l (k + j) x ps i r ih
theorem cut_mono (s : ByteArray) (k j : Nat) (r : List ByteArray) (h : Pr.spec_l01Cut.f k s 44 = some r) : Pr.spec_l01Cut.f (k + j) s 44 = some r := by
  induction j with
  | zero => exact h
  | succ j ih => exact Pr.spec_l01Cut.mono s 44 (k + j) r ih
theorem numbers_run (ps : List ByteArray) (hl : ps.length ≤ 1048577) (hp : ∀ p ∈ ps, p.size ≤ 1048576) : ∀ (m i : Nat) (acc : List Int), i + m = ps.length → acc.length ≤ i →
    ∃ k, Pr.spec_l01Numbers.l0 k acc ps (i : Int) = some (endB ((readAll (ps.drop i)).map (acc ++ ·)))
  | 0, i, acc, h, ha => by
    refine ⟨1, ?_⟩
    rw [Pr.spec_l01Numbers.l0, if_neg (by omega), List.drop_of_length_le (by omega)]
    simp [readAll, endB]
  | m + 1, i, acc, h, ha => by
    have hi : i < ps.length := by omega
    obtain ⟨k1, h1⟩ := value_told ps[i] (hp _ (List.getElem_mem hi))
    rw [List.drop_eq_getElem_cons hi, readAll]
    by_cases hb : (rdB ps[i]).2 = true
    · obtain ⟨k2, h2⟩ := numbers_run ps hl hp m (i + 1) (acc ++ [(rdB ps[i]).1]) (by omega) (by simp only [List.length_append, List.length_singleton]; omega)
      refine ⟨k1 + k2 + 1, ?_⟩
      rw [Pr.spec_l01Numbers.l0, if_pos (by omega), if_pos (by omega), rdOf_at ps i hi, value_mono _ k1 k2 _ h1, Option.bind_some, if_pos hb, if_pos (by omega), wrap_nat i (by omega), Nat.add_comm k1 k2, numbers_mono _ _ _ _ _ _ h2, if_pos hb, Option.map_map]
      congr 2
      congr 1
      funext l
      simp
    · refine ⟨k1 + 1, ?_⟩
      rw [Pr.spec_l01Numbers.l0, if_pos (by omega), if_pos (by omega), rdOf_at ps i hi, h1, Option.bind_some, if_neg hb, if_neg hb]
      rfl
theorem readList_told (s : ByteArray) (hs : s.size ≤ 1048576) : ∃ k, Pr.spec_ReadList.f k s = some (rlB s) := by
  have key : ∃ k, Pr.spec_l01Numbers.f k s = some (rlB s) := by
    unfold rlB
    by_cases h0 : s.toList = ([110, 111, 110, 101] : List UInt8)
    · refine ⟨0, ?_⟩
      unfold Pr.spec_l01Numbers.f
      rw [Option.bind_some, if_pos h0, if_pos h0]
    · rw [if_neg h0]
      by_cases hl : (partsB s).length > 64
      · refine ⟨s.size + 2, ?_⟩
        unfold Pr.spec_l01Numbers.f
        rw [Option.bind_some, if_neg h0, cut_told s hs, Option.bind_some, if_pos (by omega), if_pos hl]
      · obtain ⟨k, hk⟩ := numbers_run (partsB s) (by omega) (fun p hp => Nat.le_trans (parts_small s p hp) hs) (partsB s).length 0 [] (by omega) (by simp)
        refine ⟨s.size + 2 + k, ?_⟩
        unfold Pr.spec_l01Numbers.f
        rw [Option.bind_some, if_neg h0, cut_mono _ _ k _ (cut_told s hs), Option.bind_some, if_neg (by omega), if_neg hl, Nat.add_comm _ k]
        have := numbers_mono _ (s.size + 2) _ _ _ _ hk
        rw [List.drop_zero] at this
        refine Eq.trans this ?_
        cases readAll (partsB s) <;> simp [endB]
  obtain ⟨k, hk⟩ := key
  exact ⟨k, by unfold Pr.spec_ReadList.f; rw [hk]; rfl⟩

/-! ### Marks -/
theorem eq_run2 (a b : List Int) (hl : a.length ≤ 1048576) (he : a.length = b.length) : ∀ (m i : Nat), i + m = a.length → ∃ r, Pr.laws_eqInt64S.l0 (m + 1) a b (i : Int) = some r
  | 0, i, h => ⟨true, by rw [Pr.laws_eqInt64S.l0, if_neg (by omega)]⟩
  | m + 1, i, h => by
    rw [Pr.laws_eqInt64S.l0, if_pos (by omega), if_pos (by omega), if_pos (by omega), wrap_nat i (by omega)]
    split
    · exact eq_run2 a b hl he m (i + 1) (by omega)
    · exact ⟨_, rfl⟩
/-- 1, 2, .. -/
def marksI (n : Nat) : List Int := (List.range n).map fun i => ((i + 1 : Nat) : Int)
theorem marksI_len (n : Nat) : (marksI n).length = n := by simp [marksI]
theorem marksI_at (n i : Nat) (h : i < n) : (marksI n)[i]'(by rw [marksI_len]; exact h) = ((i + 1 : Nat) : Int) := by simp [marksI]
theorem mark_run (l : List Int) (hl : l.length ≤ 1048576) : ∀ (m i : Nat), i + m = l.length →
    Pr.laws_markInt64S.l0 (m + 1) (marksI i ++ l.drop i) ((i + 1 : Nat) : Int) (i : Int) = some (((l.length + 1 : Nat) : Int), marksI l.length)
  | 0, i, h => by
    have hlen : (marksI i ++ l.drop i).length = l.length := by rw [List.length_append, marksI_len, List.length_drop]; omega
    have hi : i = l.length := by omega
    rw [Pr.laws_markInt64S.l0, if_neg (by omega), List.drop_of_length_le (by omega), List.append_nil, hi]
  | m + 1, i, h => by
    have hlen : (marksI i ++ l.drop i).length = l.length := by rw [List.length_append, marksI_len, List.length_drop]; omega
    have hi : i < l.length := by omega
    rw [Pr.laws_markInt64S.l0, if_pos (by omega), if_pos (by omega), Int.toNat_natCast, wrap_nat i (by omega), wrap_nat (i + 1) (by omega)]
    have e : (marksI i ++ l.drop i).set i ((i + 1 : Nat) : Int) = marksI (i + 1) ++ l.drop (i + 1) := by
      rw [List.set_append_right _ _ (by rw [marksI_len]; omega), marksI_len, Nat.sub_self, List.drop_eq_getElem_cons hi, List.set_cons_zero]
      unfold marksI
      rw [List.range_succ, List.map_append, List.append_assoc]; rfl
    rw [e]
    exact mark_run l hl m (i + 1) (by omega)
theorem mark_told (l : List Int) (hl : l.length ≤ 1048576) : Pr.laws_markInt64S.f (l.length + 1) l 1 = some (((l.length + 1 : Nat) : Int), marksI l.length) := by
  unfold Pr.laws_markInt64S.f
  exact mark_run l hl l.length 0 (by omega)
theorem held_run (n : Nat) (hl : n ≤ 1048576) : ∀ (m i : Nat), i + m = n →
    Pr.laws_heldInt64S.l0 (m + 1) (marksI n) ((i + 1 : Nat) : Int) (i : Int) = some ((n + 1 : Nat) : Int)
  | 0, i, h => by
    have hi : i = n := by omega
    rw [Pr.laws_heldInt64S.l0, if_neg (by rw [marksI_len]; omega), hi]
  | m + 1, i, h => by
    rw [Pr.laws_heldInt64S.l0, if_pos (by rw [marksI_len]; omega), if_pos (by omega), rd_at _ i (by rw [marksI_len]; omega), marksI_at n i (by omega), if_pos rfl, wrap_nat i (by omega), wrap_nat (i + 1) (by omega)]
    exact held_run n hl m (i + 1) (by omega)
theorem held_told (n : Nat) (hl : n ≤ 1048576) : Pr.laws_heldInt64S.f (n + 1) (marksI n) 1 = some ((n + 1 : Nat) : Int) := by
  unfold Pr.laws_heldInt64S.f
  exact held_run n hl n 0 (by omega)
theorem readAll_len : ∀ (ps : List ByteArray) (l : List Int), readAll ps = some l → l.length = ps.length
  | [], l, h => by simp only [readAll] at h; injection h with h; subst h; rfl
  | p :: ps, l, h => by
    rw [readAll] at h
    split at h
    · cases hr : readAll ps with
      | none => rw [hr] at h; cases h
      | some l' =>
        rw [hr] at h
        injection h with h
        subst h
        have := readAll_len ps l' hr
        simp only [List.length_cons]; omega
    · cases h
theorem rlB_len (s : ByteArray) : (rlB s).1.length ≤ 64 := by
  unfold rlB
  split
  · simp
  · split
    · simp
    · rename_i h
      cases hr : readAll (partsB s) with
      | none => simp [endB]
      | some l =>
        have := readAll_len _ _ hr
        simp only [endB]; omega
end Go.Proofs.YtmfaickanmdfnaaDoor
