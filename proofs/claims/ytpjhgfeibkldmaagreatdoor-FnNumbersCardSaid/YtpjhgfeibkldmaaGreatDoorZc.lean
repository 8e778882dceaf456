/- What the reference computes when it reads a decimal numeral, and that the library's parser gives the same. Under no condition. -/
import Derived.Test.YtpjhgfeibkldmaaGreatDoorZa
import Derived.Lib.ParseIntBCases
import Derived.Test.YtpjhgfeibkldmaaGreatDoorZb
import Derived.Lib.AtoiErrMem
import Derived.Lib.SmallJoins
import Derived.WalkSmall
import Derived.Stop.LaidErr
import Derived.Lib.SplitLaws
import Derived.Test.YtpjhgfeibkldmaaGreatDoorSh
import Derived.Test.YtpjhgfeibkldmaaGreatDoorHn
import Derived.Test.YtpjhgfeibkldmaaGreatDoorSl
import Derived.Lib.Hide
import Derived.Test.YtpjhgfeibkldmaaGreatDoorCs
import Derived.Deep.QuietTactic
import Derived.BigQuiet
import Derived.Laws.ResultCell
import Derived.Deep.AppendLies
namespace Go.Proofs.YtpjhgfeibkldmaaGreatDoor
open Go Go.RowKit Go.Proofs.YtpjhgfeibkldmaaGreatDoorW.PrintWords
set_option linter.unusedVariables false
set_option linter.unusedSimpArgs false

/-- What is read from a text: the one number from -10^15 to 10^15 whose numeral it is, or none. -/
def rdB (s : ByteArray) : Int × Bool :=
  match Lib.parseIntB 64 s.data.toList with
  | .ok v => if decT v = s ∧ smallB v = true then (v, true) else (0, false)
  | _ => (0, false)

theorem small_iff (n : Int) : smallB n = true ↔ -1000000000000000 ≤ n ∧ n ≤ 1000000000000000 := by unfold smallB; exact decide_eq_true_iff

theorem byte_dig (d : Nat) (h : d < 10) : (UInt8.ofNat (48 + d)).toNat = 48 + d := by
  have e : (48 + d) % 256 = 48 + d := Nat.mod_eq_of_lt (by omega)
  simp [UInt8.toNat_ofNat, e]
theorem pm_app (M : Nat) (b : List UInt8) : ∀ (a : List UInt8) (acc v : Nat), Lib.parseUintM M acc a = .ok v → Lib.parseUintM M acc (a ++ b) = Lib.parseUintM M v b
  | [], acc, v, h => by
    simp only [Lib.parseUintM] at h
    injection h with h
    rw [h]; rfl
  | c :: r, acc, v, h => by
    rw [Lib.parseUintM] at h
    rw [List.cons_append, Lib.parseUintM]
    split at h
    · rename_i h1
      rw [if_pos h1]
      split at h
      · cases h
      · rename_i h2
        rw [if_neg h2]
        split at h
        · cases h
        · rename_i h3
          rw [if_neg h3]
          exact pm_app M b r _ v h
    · cases h
theorem pm_one (acc d : Nat) (ha : acc ≤ 1000000000000000) (h : d < 10) : Lib.parseUintM 18446744073709551615 acc [UInt8.ofNat (48 + d)] = .ok (acc * 10 + d) := by
  rw [Lib.parseUintM, byte_dig d h, if_pos (by omega), if_neg (by omega), if_neg (by omega), show 48 + d - 48 = d by omega]
  rfl
theorem pm_dec (m : Nat) : m ≤ 1000000000000000 → Lib.parseUintM 18446744073709551615 0 (Lib.decDigits m) = .ok m := by
  induction m using Nat.strongRecOn with
  | _ m ih =>
    intro hm
    by_cases h : m < 10
    · rw [Lib.decDigits, dif_pos h, pm_one 0 m (by omega) h]; congr 1; omega
    · rw [Lib.decDigits, dif_neg h, pm_app _ _ _ 0 (m / 10) (ih (m / 10) (by omega) (by omega)), pm_one _ _ (by omega) (Nat.mod_lt _ (by decide))]
      congr 1; omega
theorem dec_ne (m : Nat) : Lib.decDigits m ≠ [] := by
  rw [Lib.decDigits]; split <;> simp
theorem pu_dec (m : Nat) (hm : m ≤ 1000000000000000) : Lib.parseUintB 64 (Lib.decDigits m) = .ok m := by
  unfold Lib.parseUintB
  rw [if_neg (dec_ne m)]
  exact pm_dec m hm
/-- The first digit's byte. -/
theorem dec_head (m : Nat) : ∃ (c : UInt8) (r : List UInt8), Lib.decDigits m = c :: r ∧ 48 ≤ c.toNat ∧ c.toNat ≤ 57 := by
  induction m using Nat.strongRecOn with
  | _ m ih =>
    by_cases h : m < 10
    · rw [Lib.decDigits, dif_pos h]; exact ⟨_, [], rfl, by rw [byte_dig m h]; omega, by rw [byte_dig m h]; omega⟩
    · obtain ⟨c, r, e, h1, h2⟩ := ih (m / 10) (by omega)
      rw [Lib.decDigits, dif_neg h, e]
      exact ⟨c, _, rfl, h1, h2⟩
theorem pi_itoa (n : Int) (h : smallB n = true) : Lib.parseIntB 64 (Lib.itoa n) = .ok n := by
  obtain ⟨h1, h2⟩ := (small_iff n).1 h
  unfold Lib.itoa
  by_cases hn : n < 0
  · rw [if_pos hn, Lib.parseIntB_minus, pu_dec _ (by omega)]
    simp only [Lib.signedC]
    rw [if_neg (by rw [show (2 : Nat) ^ (64 - 1) = 9223372036854775808 by decide]; omega)]
    congr 1; omega
  · rw [if_neg hn]
    obtain ⟨c, r, e, h3, h4⟩ := dec_head n.toNat
    have hp := pu_dec n.toNat (by omega)
    rw [e] at hp ⊢
    rw [Lib.parseIntB_plain 64 c r (by omega) (by omega), hp]
    simp only [Lib.signlessC]
    rw [if_neg (by rw [show (2 : Nat) ^ (64 - 1) = 9223372036854775808 by decide]; omega)]
    congr 1; omega
theorem rdB_some (n : Int) (h : smallB n = true) : rdB (decT n) = (n, true) := by
  unfold rdB
  have e : (decT n).data.toList = Lib.itoa n := rfl
  rw [e, pi_itoa n h]
  exact if_pos ⟨rfl, h⟩
theorem rdB_none (s : ByteArray) (h : ¬ ∃ n, smallB n = true ∧ decT n = s) : rdB s = (0, false) := by
  unfold rdB
  split
  · rename_i v _
    rw [if_neg (fun h2 => h ⟨v, h2.2, h2.1⟩)]
  · rfl

/-! ### The reference -/
/-- One byte more: a digit counts, another byte does not. -/
def dstep (x : Int) (b : UInt8) : Int := if 48 ≤ b.toNat ∧ b.toNat ≤ 57 then wrap64 (wrap64 (10 * x) + ((b.toNat : Int) - 48) % 256) else x
def dval (x : Int) (l : List UInt8) : Int := l.foldl dstep x
theorem bt_list (s : ByteArray) (i : Nat) (h : i < s.data.toList.length) : bt s (i : Int) = ((s.data.toList[i]).toNat : Int) := by
  have hs : i < s.size := by rw [← data_length]; exact h
  unfold bt
  rw [dif_pos (by rw [Int.toNat_natCast]; exact hs)]
  rfl
theorem dval_dec (m : Nat) : m ≤ 1000000000000000 → dval 0 (Lib.decDigits m) = m := by
  induction m using Nat.strongRecOn with
  | _ m ih =>
    intro hm
    have one : ∀ (x : Nat) (d : Nat), x ≤ 1000000000000000 → d < 10 → dval (x : Int) [UInt8.ofNat (48 + d)] = ((x * 10 + d : Nat) : Int) := by
      intro x d hx hd
      unfold dval dstep
      rw [List.foldl_cons, List.foldl_nil, byte_dig d hd, if_pos (by omega), wrap_small (10 * (x : Int)) (by omega) (by omega)]
      rw [Int.emod_eq_of_lt (by omega) (by omega), wrap_small _ (by omega) (by omega)]
      omega
    by_cases h : m < 10
    · rw [Lib.decDigits, dif_pos h]
      have := one 0 m (by omega) h
      rw [Nat.zero_mul, Nat.zero_add] at this
      exact this
    · rw [Lib.decDigits, dif_neg h]
      have e : dval 0 (Lib.decDigits (m / 10) ++ [UInt8.ofNat (48 + m % 10)]) = dval (dval 0 (Lib.decDigits (m / 10))) [UInt8.ofNat (48 + m % 10)] := by
        unfold dval; rw [List.foldl_append]
      rw [e, ih (m / 10) (by omega) (by omega), one _ _ (by omega) (Nat.mod_lt _ (by decide))]
      congr 1; omega
theorem dec_len : ∀ (d m : Nat), m < 10 ^ (d + 1) → (Lib.decDigits m).length ≤ d + 1
  | 0, m, h => by
    have hm : m < 10 := by simpa using h
    rw [Lib.decDigits, dif_pos hm]; simp
  | d + 1, m, h => by
    by_cases hm : m < 10
    · rw [Lib.decDigits, dif_pos hm]; simp
    · have := dec_len d (m / 10) (by rw [Nat.pow_succ] at h; omega)
      rw [Lib.decDigits, dif_neg hm, List.length_append, List.length_singleton]; omega
theorem decT_size (n : Int) (h : smallB n = true) : 1 ≤ (decT n).size ∧ (decT n).size ≤ 17 := by
  obtain ⟨h1, h2⟩ := (small_iff n).1 h
  unfold decT
  rw [ba_size]
  unfold Lib.itoa
  by_cases hn : n < 0
  · have := dec_len 15 n.natAbs (by omega)
    rw [if_pos hn, List.length_cons]; omega
  · have := dec_len 15 n.toNat (by omega)
    have h3 := List.length_pos_iff.2 (dec_ne n.toNat)
    rw [if_neg hn]; omega
end Go.Proofs.YtpjhgfeibkldmaaGreatDoor

namespace Go.Proofs.YtpjhgfeibkldmaaGreatDoor
open Go Go.RowKit Go.Proofs.YtpjhgfeibkldmaaGreatDoorW.PrintWords Go.Proofs.YtpjhgfeibkldmaaGreatDoorW.PrintLast Go.Proofs.YtpjhgfeibkldmaaGreatDoorW.PrintMore
attribute [local go_sem] max2_int min2_int max_two min_two max_three min_three max_four min_four
set_option linter.unusedVariables false
set_option linter.unusedSimpArgs false

theorem g_rng : Tryz.prog.globalNamed "strconv.ErrRange" = some 3 := by kernel_rfl
theorem g_syn : Tryz.prog.globalNamed "strconv.ErrSyntax" = some 2 := by kernel_rfl
theorem rng_type : (Tryz.prog.globals[3]?).map (·.type) = some 95 := by kernel_rfl
theorem syn_type : (Tryz.prog.globals[2]?).map (·.type) = some 95 := by kernel_rfl
theorem star : "*" ++ "errors.errorString" = "*errors.errorString" := by decide
theorem row_err (u : TypeId) (h : Tryz.prog.typeName? 3 u = some "*errors.errorString") : u = 155 :=
  typeName_ptr_named (nm := "errors.errorString") (by rw [star]; kernel_rfl) (by kernel_rfl) (by decide) u (by rw [star]; exact h)

/-- What of the library's tables and errors a number's reading needs. -/
structure Lay (w : World) : Prop where
  pow : Pow w.heap.size w
  rng : ∃ tp p, w.var? Tryz.prog "strconv.ErrRange" = some #[.iface tp p]
  syn : ∃ tp p, w.var? Tryz.prog "strconv.ErrSyntax" = some #[.iface tp p]
theorem var_lt {w : World} {n : String} {g : Nat} {cs : Array Value} (hg : Tryz.prog.globalNamed n = some g) (h : w.var? Tryz.prog n = some cs) : g < w.heap.size := by
  unfold World.var? at h
  simp only [hg, Option.bind_some] at h
  rcases Nat.lt_or_ge g w.heap.size with h' | h'
  · exact h'
  · simp [Array.getElem?_eq_none h'] at h
theorem Lay.on {w w' : World} (h : Lay w) (hb : Below w.heap.size w w') : Lay w' := by
  obtain ⟨h1, ⟨tp, p, h2⟩, ⟨tq, q, h3⟩⟩ := h
  exact ⟨Lib.tabBelow_of_tabIs (h1.on hb).here, ⟨tp, p, var?_below hb g_rng (var_lt g_rng h2) h2⟩, ⟨tq, q, var?_below hb g_syn (var_lt g_syn h3) h3⟩⟩
theorem lay_errs {W : World} (h : laidMet Tryz.prog [("strconv.ErrRange", Rows.laid_strconv_ErrRange), ("strconv.ErrSyntax", Rows.laid_strconv_ErrSyntax)] W) :
    (∃ tp p, W.var? Tryz.prog "strconv.ErrRange" = some #[.iface tp p]) ∧ (∃ tp p, W.var? Tryz.prog "strconv.ErrSyntax" = some #[.iface tp p]) := by
  obtain ⟨a1, s1, h1, _⟩ := laid_sentinel h g_rng rng_type Tryz.underlying95 row_err Tryz.underlying155 Tryz.underlying157 rfl rfl Tryz.underlying9 (by kernel_rfl) (by kernel_rfl)
  obtain ⟨a2, s2, h2, _⟩ := laid_sentinel h.tail g_syn syn_type Tryz.underlying95 row_err Tryz.underlying155 Tryz.underlying157 rfl rfl Tryz.underlying9 (by kernel_rfl) (by kernel_rfl)
  exact ⟨⟨_, _, h1⟩, ⟨_, _, h2⟩⟩

end Go.Proofs.YtpjhgfeibkldmaaGreatDoor

namespace Go.Proofs.YtpjhgfeibkldmaaGreatDoor
open Go Go.RowKit Go.Proofs.YtpjhgfeibkldmaaGreatDoorW.PrintWords
set_option linter.unusedVariables false
set_option linter.unusedSimpArgs false

/-- The parts of a text between commas; cur: what of the first part has been met. -/
def cutFrom (cur : List UInt8) : List UInt8 → List (List UInt8)
  | [] => [cur]
  | c :: r => if c = 44 then cur :: cutFrom [] r else cutFrom (cur ++ [c]) r
def mkB (l : List UInt8) : ByteArray := ⟨l.toArray⟩
def partsB (s : ByteArray) : List ByteArray := (cutFrom [] s.data.toList).map mkB
/-- Numbers read from parts: all, or none. -/
def readAll : List ByteArray → Option (List Int)
  | [] => some []
  | p :: ps => if (rdB p).2 = true then (readAll ps).map ((rdB p).1 :: ·) else none
/-- What ReadList returns. -/
def endB : Option (List Int) → List Int × Bool
  | some l => (l, true)
  | none => ([], false)
def rlB (s : ByteArray) : List Int × Bool :=
  if s.toList = ([110, 111, 110, 101] : List UInt8) then ([], true)
  else if (partsB s).length > 64 then ([], false) else endB (readAll (partsB s))

/-! ### The cut -/
theorem cutFrom_len : ∀ (r : List UInt8) (cur : List UInt8), (cutFrom cur r).length ≤ r.length + 1
  | [], cur => by simp [cutFrom]
  | c :: r, cur => by
    rw [cutFrom]
    split
    · have := cutFrom_len r []
      simp only [List.length_cons]; omega
    · have := cutFrom_len r (cur ++ [c])
      simp only [List.length_cons]; omega
theorem cutFrom_small : ∀ (r : List UInt8) (cur : List UInt8), ∀ p ∈ cutFrom cur r, p.length ≤ cur.length + r.length
  | [], cur, p, hp => by
    rw [cutFrom, List.mem_singleton] at hp; subst hp; simp
  | c :: r, cur, p, hp => by
    rw [cutFrom] at hp
    split at hp
    · rcases List.mem_cons.1 hp with rfl | hp
      · simp
      · have := cutFrom_small r [] p hp
        simp only [List.length_cons, List.length_nil] at this ⊢; omega
    · have := cutFrom_small r (cur ++ [c]) p hp
      simp only [List.length_cons, List.length_append, List.length_nil] at this ⊢; omega
theorem parts_small (s : ByteArray) : ∀ p ∈ partsB s, p.size ≤ s.size := by
  intro p hp
  obtain ⟨l, hl, rfl⟩ := List.mem_map.1 hp
  have := cutFrom_small _ _ l hl
  unfold mkB
  rw [ba_size, ← data_length s]
  simpa using this
theorem mkB_extract (s : ByteArray) (a b : Nat) : s.extract a b = mkB ((s.data.toList.drop a).take (b - a)) := by
  apply WideShapes.bytes_inj
  rw [Lib.extract_data]; rfl
theorem take_more (l : List UInt8) (a i : Nat) (ha : a ≤ i) (hi : i < l.length) : (l.drop a).take (i + 1 - a) = (l.drop a).take (i - a) ++ [l[i]] := by
  have h : i - a < (l.drop a).length := by rw [List.length_drop]; omega
  rw [show i + 1 - a = (i - a) + 1 by omega, List.take_succ_eq_append_getElem h, List.getElem_drop]
  congr 2
  simp only [show a + (i - a) = i by omega]
/-! ### The library's cut -/
def prep (cur : List UInt8) : List (List UInt8) → List (List UInt8)
  | [] => [cur]
  | h :: t => (cur ++ h) :: t
theorem prep_nil : ∀ (x : List (List UInt8)), x ≠ [] → prep [] x = x
  | [], h => absurd rfl h
  | h :: t, _ => rfl
theorem splitK_ne (k : Nat) (s : List UInt8) : Lib.splitK [44] 0 k s ≠ [] := by
  cases k with
  | zero => simp [Lib.splitK]
  | succ k => unfold Lib.splitK; split <;> simp
theorem idx_eq (r : List UInt8) : Lib.index (44 :: r) [44] = 0 := by rw [Lib.index]; simp [List.isPrefixOf]
theorem idx_ne (c : UInt8) (r : List UInt8) (h : c ≠ 44) : Lib.index (c :: r) [44] = if Lib.index r [44] == -1 then -1 else Lib.index r [44] + 1 := by
  have hp : ([44] : List UInt8).isPrefixOf (c :: r) = false := by simp [List.isPrefixOf, Ne.symm h]
  rw [Lib.index, hp]; simp
theorem cut_split : ∀ (s cur : List UInt8), cutFrom cur s = prep cur (Lib.splitK [44] 0 (Lib.count s [44]) s)
  | [], cur => by
    rw [Lib.count_one]
    simp [cutFrom, Lib.splitK, prep]
  | c :: r, cur => by
    rw [cutFrom]
    by_cases hc : c = 44
    · subst hc
      rw [if_pos rfl, Lib.count_cons_eq, Nat.add_comm 1, Lib.splitK, idx_eq, if_neg (by decide)]
      rw [cut_split r [], prep_nil _ (splitK_ne _ _)]
      simp [prep]
    · rw [if_neg hc, Lib.count_cons_ne c 44 r hc, cut_split r (cur ++ [c])]
      cases hk : Lib.count r [44] with
      | zero => simp [Lib.splitK, prep]
      | succ k =>
        rw [Lib.splitK, Lib.splitK, idx_ne c r hc]
        by_cases hm : Lib.index r [44] = -1
        · rw [hm]; simp [prep]
        · have hge := Lib.index_ge r [44]
          obtain ⟨j, hj⟩ : ∃ j : Nat, Lib.index r [44] = j := ⟨(Lib.index r [44]).toNat, by omega⟩
          have n1 : ((j : Int) == -1) = false := beq_eq_false_iff_ne.2 (by omega)
          have n2 : (((j : Int) + 1) == -1) = false := beq_eq_false_iff_ne.2 (by omega)
          have t1 : ((j : Int) + 1).toNat = j + 1 := by omega
          rw [hj, n1]
          simp [n2, t1, prep]
theorem split_parts (s : ByteArray) : Lib.splitB ⟨#[44]⟩ 0 (Lib.countB s ⟨#[44]⟩) s = partsB s := by
  have h := Lib.splitB_data ⟨#[44]⟩ 0 (Lib.countB s ⟨#[44]⟩) s
  have e : (Lib.splitB ⟨#[44]⟩ 0 (Lib.countB s ⟨#[44]⟩) s).map (·.data.toList) = cutFrom [] s.data.toList := by
    rw [h, cut_split, prep_nil _ (splitK_ne _ _)]
  unfold partsB
  rw [← e, List.map_map]
  have : (mkB ∘ fun x : ByteArray => x.data.toList) = id := by
    funext x
    exact WideShapes.bytes_inj rfl
  rw [this, List.map_id]
theorem split_len (s : ByteArray) : (partsB s).length = Lib.countB s ⟨#[44]⟩ + 1 := by
  rw [← split_parts, Lib.splitB_all ⟨#[44]⟩ (by decide) 0 _ s rfl]

/-! ### The reading -/
theorem rdOf_at (l : List ByteArray) (i : Nat) (h : i < l.length) : rdOf ByteArray.empty l (i : Int) = l[i] := by
  unfold rdOf; rw [Int.toNat_natCast, List.getD_eq_getElem?_getD, List.getElem?_eq_getElem h]; rfl
/-! ### Marks -/
/-- 1, 2, .. -/
def marksI (n : Nat) : List Int := (List.range n).map fun i => ((i + 1 : Nat) : Int)
theorem marksI_len (n : Nat) : (marksI n).length = n := by simp [marksI]
theorem marksI_at (n i : Nat) (h : i < n) : (marksI n)[i]'(by rw [marksI_len]; exact h) = ((i + 1 : Nat) : Int) := by simp [marksI]
theorem readAll_len : ∀ (ps : List ByteArray) (l : List Int), readAll ps = some l → l.length = ps.length
  | [], l, h => by simp only [readAll] at h; injection h with h; subst h; rfl
  | p :: ps, l, h => by
    rw [readAll] at h
    split at h
    · cases hr : readAll ps with
      | none => rw [hr] at h; cases h
      | some l' =>
        rw [hr] at h
        injection h with h
        subst h
        have := readAll_len ps l' hr
        simp only [List.length_cons]; omega
    · cases h
theorem rlB_len (s : ByteArray) : (rlB s).1.length ≤ 64 := by
  unfold rlB
  split
  · simp
  · split
    · simp
    · rename_i h
      cases hr : readAll (partsB s) with
      | none => simp [endB]
      | some l =>
        have := readAll_len _ _ hr
        simp only [endB]; omega
end Go.Proofs.YtpjhgfeibkldmaaGreatDoor

namespace Go.Proofs.YtpjhgfeibkldmaaGreatDoor
end Go.Proofs.YtpjhgfeibkldmaaGreatDoor

namespace Go.Proofs.YtpjhgfeibkldmaaGreatDoor
open Go Go.RowKit Go.Proofs.YtpjhgfeibkldmaaGreatDoorW.PrintWords Go.Proofs.YtpjhgfeibkldmaaGreatDoorW.PrintLast Go.Proofs.YtpjhgfeibkldmaaGreatDoorW.PrintMore
set_option linter.unusedVariables false
set_option linter.unusedSimpArgs false

/-- A byte's value as a digit; 99: none. -/
def digV (c : Nat) : Nat := if 48 ≤ c ∧ c ≤ 57 then c - 48 else if 97 ≤ (c ||| 32) ∧ (c ||| 32) ≤ 122 then (c ||| 32) - 87 else 99
theorem digV_hex : ∀ d : Fin 16, digV (hexD d.val).toNat = d.val := by decide
theorem hexK_at : ∀ (k u i : Nat) (h : i < (hexK k u).length), (hexK k u)[i] = hexD (u / 16 ^ (k - 1 - i) % 16)
  | 0, u, i, h => by simp [hexK] at h
  | k + 1, u, i, h => by
    rw [hexK_len] at h
    by_cases hi : i < k
    · have h2 : i < (hexK k (u / 16)).length := by rw [hexK_len]; exact hi
      have e : k + 1 - 1 - i = (k - 1 - i) + 1 := by omega
      simp only [hexK]
      rw [List.getElem_append_left h2, hexK_at k (u / 16) i h2, e, Nat.div_div_eq_div_mul, Nat.pow_succ, Nat.mul_comm 16]
    · have hi2 : i = k := by omega
      subst hi2
      simp only [hexK]
      rw [List.getElem_append_right (by rw [hexK_len]; exact Nat.le_refl _)]
      simp [hexK_len]
theorem lowC : ∀ c : Fin 256, bits .or .u8 (c.val : Int) 32 = ((c.val ||| 32 : Nat) : Int) := by decide +kernel
theorem lower_calls (c : Nat) (hc : c < 256) (w : World) : Calls Tryz.prog 111 #[.int .u8 (c : Int)] w fun e w' => e = .returned (.int .u8 ((c ||| 32 : Nat) : Int)) ∧ w = w' := by
  have h1 := lowC ⟨c, hc⟩
  simp only at h1
  go_enter Tryz.func111, Tryz.ntmps111
  go_wp2
  go_ret
  exact ⟨rfl, rfl⟩

/-- What the digits so far spell, if the whole is a number's eight digits. -/
def Good (s : ByteArray) (n i : Nat) : Prop := ∀ N, N < 4294967296 → s = mkB (hexK 8 N) → n = N / 16 ^ (8 - i)
/-- The text is no number's eight digits. -/
def NoHex (s : ByteArray) : Prop := ∀ N, N < 4294967296 → s ≠ mkB (hexK 8 N)
theorem mkB_size (l : List UInt8) : (mkB l).size = l.length := ba_size l
theorem good_digit {s : ByteArray} {i N : Nat} (hi : i < s.size) (h : s = mkB (hexK 8 N)) : i < 8 ∧ digV (s.data.toList.getD i 0).toNat = N / 16 ^ (7 - i) % 16 := by
  have hs : s.size = 8 := by rw [h, mkB_size, hexK_len]
  refine ⟨by omega, ?_⟩
  have e : s.data.toList = hexK 8 N := by rw [h]; rfl
  have hl : i < (hexK 8 N).length := by rw [hexK_len]; omega
  rw [e, List.getD_eq_getElem?_getD, List.getElem?_eq_getElem hl, Option.getD_some, hexK_at 8 N i hl]
  exact digV_hex ⟨_, Nat.mod_lt _ (by decide)⟩
theorem pow_step (i : Nat) (h : i < 8) : 16 ^ (8 - i) = 16 ^ (7 - i) * 16 := by
  rw [show 8 - i = (7 - i) + 1 by omega, Nat.pow_succ]
theorem Good.next {s : ByteArray} {n i : Nat} (h : Good s n i) (hi : i < s.size) : Good s (n * 16 + digV (s.data.toList.getD i 0).toNat) (i + 1) := by
  intro N hN hs
  obtain ⟨h8, hd⟩ := good_digit hi hs
  rw [h N hN hs, hd, pow_step i h8, show 8 - (i + 1) = 7 - i by omega, ← Nat.div_div_eq_div_mul]
  omega
theorem bad_digit {s : ByteArray} {i : Nat} (hi : i < s.size) (hd : 16 ≤ digV (s.data.toList.getD i 0).toNat) : NoHex s := by
  intro N hN hs
  obtain ⟨h8, h⟩ := good_digit hi hs
  have := Nat.mod_lt (N / 16 ^ (7 - i)) (show 0 < 16 by decide)
  omega
theorem bad_range {s : ByteArray} {n i : Nat} (h : Good s n i) (hi : i < s.size) (hd : 4294967295 < n * 16 + digV (s.data.toList.getD i 0).toNat) : NoHex s := by
  intro N hN hs
  have h2 := h.next hi N hN hs
  have := Nat.div_le_self N (16 ^ (8 - (i + 1)))
  omega
/-- What ParseUint gives. -/
structure PRes (s : ByteArray) (u : Nat) (er : Value) : Prop where
  kinds : er = .nilIface ∨ er = .iface 131 (.int .i64 1) ∨ er = .iface 131 (.int .i64 2)
  good : ∀ N, N < 4294967296 → s = mkB (hexK 8 N) → u = N ∧ er = .nilIface
  lt : u < 18446744073709551616

set_option maxHeartbeats 4000000 in
set_option maxRecDepth 100000 in
theorem parse16a (s : ByteArray) (hs : s.size ≤ 1048576) (w : World) :
    Calls Tryz.prog 94 #[.string s, .int .i64 16, .int .i64 32] w fun e w' => (∃ u er, e = .returned (.tuple #[.int .u64 (u : Nat), er]) ∧ PRes s u er) ∧ Below w.heap.size w w' := by
  by_cases h0 : s.size = 0
  · have hl : s.data.toList = [] := List.eq_nil_of_length_eq_zero (by rw [data_length]; exact h0)
    have c0 : s.toList = [] := by rw [Lib.toList_data]; exact hl
    have c1 : (s.toList == ([] : List UInt8)) = true := beq_iff_eq.2 c0
    have HN : Aside0 (NoHex s) := ⟨fun N hN e => by
      have : s.size = 8 := by rw [e, mkB_size, hexK_len]
      omega⟩
    go_enter Tryz.func94, Tryz.ntmps94
    go_wp2
    go_ret2
    exact ⟨⟨0, _, rfl, ⟨.inr (.inr rfl), fun N hN e => absurd e (HN.out N hN), by decide⟩⟩, Below.refl _ _⟩
  · have c0 : s.toList ≠ [] := by
      rw [Lib.toList_data]
      intro e
      have := congrArg List.length e
      rw [data_length] at this
      exact h0 this
    have c1 : (s.toList == ([] : List UInt8)) = false := beq_eq_false_iff_ne.2 c0
    have hcv := Lib.run_convert_string_bytes (P := Tryz.prog) w 9 22 5 s Tryz.underlying9 Tryz.underlying22 Tryz.underlying5
    have HCell := Aside0.mk (Lib.bytesWorld_cell w 5 s)
    have HBw := Aside0.mk (Lib.bytesWorld_below w 5 s)
    obtain ⟨W1, hW1⟩ : ∃ W1, W1 = Lib.bytesWorld w 5 s := ⟨_, rfl⟩
    rw [← hW1] at hcv HCell HBw
    have HG0 : Aside0 (Good s 0 0) := ⟨fun N hN e => by rw [Nat.div_eq_of_lt (by simpa using hN)]⟩
    clear hW1
    go_enter Tryz.func94, Tryz.ntmps94
    go_wp2
    go_loop [12, 13, 101] (fun c12 c13 c101 => ∃ i n : Nat, i ≤ s.size ∧ c12 = .bool false ∧ c13 = .int .u64 (n : Int) ∧ c101 = .int .i64 (i : Int) ∧ n ≤ 4294967295 ∧ Aside0 (Good s n i)) (fun _ _ c101 => s.size - (intOf c101).toNat)
    case atStart => exact ⟨0, 0, by omega, rfl, rfl, rfl, by omega, HG0⟩
    case round =>
      clear HG0
      obtain ⟨i, n, hi, rfl, rfl, rfl, hn, HG⟩ := hrel
      by_cases hlt : i < s.size
      · have hc := HCell.out i hlt
        have p2 : decide ((i : Int) < (s.size : Int)) = true := decide_eq_true (by omega)
        have HNx := Aside0.mk (HG.out.next hlt)
        have HBd : Aside0 (16 ≤ digV (s.data.toList.getD i 0).toNat → NoHex s) := ⟨bad_digit hlt⟩
        have HBr : Aside0 (4294967295 < n * 16 + digV (s.data.toList.getD i 0).toNat → NoHex s) := ⟨bad_range HG.out hlt⟩
        have hcl : (s.data.toList.getD i 0).toNat < 256 := (s.data.toList.getD i 0).toNat_lt
        obtain ⟨c, hcc⟩ : ∃ c, c = (s.data.toList.getD i 0).toNat := ⟨_, rfl⟩
        rw [← hcc] at hc HNx HBd HBr hcl
        clear hcc HCell hcv
        have hcut : decide ((n : Int) ≥ 1152921504606846976) = false := decide_eq_false (by omega)
        have hcut' : decide ((1152921504606846976 : Int) ≤ (n : Int)) = false := decide_eq_false (by omega)
        obtain ⟨m, hm⟩ : ∃ m : Nat, m = n * 16 := ⟨_, rfl⟩
        have w1 : IntKind.u64.wrap ((n : Int) * 16) = (m : Int) := by unfold IntKind.wrap; simp [IntKind.bits, IntKind.signed]; omega
        obtain ⟨q, hq⟩ : ∃ q : Nat, q = m + digV c := ⟨_, rfl⟩
        rw [← hm, ← hq] at HBr HNx
        by_cases hd : 48 ≤ c ∧ c ≤ 57
        · have hD : digV c = c - 48 := by unfold digV; rw [if_pos hd]
          obtain ⟨D, hDe⟩ : ∃ D : Nat, D = c - 48 := ⟨_, rfl⟩
          have d0 : ((c : Int) == 95) = false := beq_eq_false_iff_ne.2 (by omega)
          have d1 : decide ((48 : Int) ≤ (c : Int)) = true := decide_eq_true (by omega)
          have d2 : decide ((c : Int) ≤ 57) = true := decide_eq_true (by omega)
          have d3 : IntKind.u8.wrap ((c : Int) - 48) = (D : Int) := by rw [IntKind.wrap_u8]; omega
          have d4 : decide ((D : Int) ≥ 16) = false := decide_eq_false (by omega)
          have d4' : decide ((16 : Int) ≤ (D : Int)) = false := decide_eq_false (by omega)
          have w2 : IntKind.u64.wrap ((m : Int) + (D : Int)) = (q : Int) := by unfold IntKind.wrap; simp [IntKind.bits, IntKind.signed]; omega
          have d5 : decide ((q : Int) < (m : Int)) = false := decide_eq_false (by omega)
          have hmq : m ≤ q := by omega
          have w3 : IntKind.u64.wrap (D : Int) = (D : Int) := by unfold IntKind.wrap; simp [IntKind.bits, IntKind.signed]; omega
          by_cases hr : 4294967295 < q
          · have d6 : decide ((q : Int) > 4294967295) = true := decide_eq_true (by omega)
            have d6' : decide ((4294967295 : Int) < (q : Int)) = true := decide_eq_true (by omega)
            have HN := Aside0.mk (HBr.out hr)
            clear HBd HBr HNx hm hq hD hDe HG hd hr hn hcl
            go_wp2
            go_ret2
            exact ⟨⟨4294967295, _, rfl, ⟨.inr (.inl rfl), fun N hN e => absurd e (HN.out N hN), by decide⟩⟩, HBw.out⟩
          · have d6 : decide ((q : Int) > 4294967295) = false := decide_eq_false (by omega)
            have d6' : decide ((4294967295 : Int) < (q : Int)) = false := decide_eq_false (by omega)
            have HR := Aside0.mk hr
            clear HBd HBr hm hq hD hDe HG hd hr hn hcl
            go_wp2
            go_round
            case rel => exact ⟨i + 1, q, by omega, rfl, rfl, by go_num, by have := HR.out; omega, HNx⟩
            case measure => simp [intOf]; omega
        · obtain ⟨L, hLe⟩ : ∃ L : Nat, L = c ||| 32 := ⟨_, rfl⟩
          have hL256 : L < 256 := by rw [hLe]; exact Nat.or_lt_two_pow (n := 8) hcl (by decide)
          have hDv : digV c = if 97 ≤ L ∧ L ≤ 122 then L - 87 else 99 := by unfold digV; rw [if_neg hd, hLe]
          have HLe := Aside0.mk hLe
          clear hLe
          by_cases h48 : c < 48
          · have d0 : ((c : Int) == 95) = false := beq_eq_false_iff_ne.2 (by omega)
            have d1 : decide ((48 : Int) ≤ (c : Int)) = false := decide_eq_false (by omega)
            have hL64 : L < 64 := by rw [HLe.out]; exact Nat.or_lt_two_pow (n := 6) (by omega) (by decide)
            have d2 : decide ((97 : Int) ≤ (L : Int)) = false := decide_eq_false (by omega)
            have HN := Aside0.mk (HBd.out (by rw [hDv, if_neg (by omega)]; omega))
            clear h48 hL64 hDv
            clear HBd HBr HNx hm hq HG hd hn
            go_wp2_with (first | (go_at_call 111; refine (lower_calls c hcl _).mono ?_; rw [← HLe.out]; rintro e w' ⟨rfl, rfl⟩))
            go_ret2
            exact ⟨⟨0, _, rfl, ⟨.inr (.inr rfl), fun N hN e => absurd e (HN.out N hN), by decide⟩⟩, HBw.out⟩
          · have d1 : decide ((48 : Int) ≤ (c : Int)) = true := decide_eq_true (by omega)
            have d2 : decide ((c : Int) ≤ 57) = false := decide_eq_false (by omega)
            by_cases h95 : c = 95
            · have hL : L = 127 := by rw [HLe.out, h95]; decide
              have HN := Aside0.mk (HBd.out (by rw [hDv, if_neg (by omega)]; omega))
              have d0 : ((c : Int) == 95) = true := beq_iff_eq.2 (by omega)
              have d3 : decide ((97 : Int) ≤ (L : Int)) = true := decide_eq_true (by omega)
              have d4 : decide ((L : Int) ≤ 122) = false := decide_eq_false (by omega)
              clear h95 hL
              clear h48 hDv
              clear HBd HBr HNx hm hq HG hd hn
              go_wp2_with (first | (go_at_call 111; refine (lower_calls c hcl _).mono ?_; rw [← HLe.out]; rintro e w' ⟨rfl, rfl⟩))
              go_ret2
              exact ⟨⟨0, _, rfl, ⟨.inr (.inr rfl), fun N hN e => absurd e (HN.out N hN), by decide⟩⟩, HBw.out⟩
            · have d0 : ((c : Int) == 95) = false := beq_eq_false_iff_ne.2 (by omega)
              by_cases hl1 : L < 97
              · have d3 : decide ((97 : Int) ≤ (L : Int)) = false := decide_eq_false (by omega)
                have HN := Aside0.mk (HBd.out (by rw [hDv, if_neg (by omega)]; omega))
                clear h48 hDv h95 hl1
                clear HBd HBr HNx hm hq HG hd hn
                go_wp2_with (first | (go_at_call 111; refine (lower_calls c hcl _).mono ?_; rw [← HLe.out]; rintro e w' ⟨rfl, rfl⟩))
                go_ret2
                exact ⟨⟨0, _, rfl, ⟨.inr (.inr rfl), fun N hN e => absurd e (HN.out N hN), by decide⟩⟩, HBw.out⟩
              · have d3 : decide ((97 : Int) ≤ (L : Int)) = true := decide_eq_true (by omega)
                by_cases hl2 : 122 < L
                · have d4 : decide ((L : Int) ≤ 122) = false := decide_eq_false (by omega)
                  have HN := Aside0.mk (HBd.out (by rw [hDv, if_neg (by omega)]; omega))
                  clear h48 hDv h95 hl1 hl2
                  clear HBd HBr HNx hm hq HG hd hn
                  go_wp2_with (first | (go_at_call 111; refine (lower_calls c hcl _).mono ?_; rw [← HLe.out]; rintro e w' ⟨rfl, rfl⟩))
                  go_ret2
                  exact ⟨⟨0, _, rfl, ⟨.inr (.inr rfl), fun N hN e => absurd e (HN.out N hN), by decide⟩⟩, HBw.out⟩
                · have d4 : decide ((L : Int) ≤ 122) = true := decide_eq_true (by omega)
                  obtain ⟨L1, hL1⟩ : ∃ L1 : Nat, L1 = L - 97 := ⟨_, rfl⟩
                  obtain ⟨D, hDe⟩ : ∃ D : Nat, D = L - 87 := ⟨_, rfl⟩
                  have hD : digV c = D := by rw [hDv, if_pos (by omega), hDe]
                  have e1 : IntKind.u8.wrap ((L : Int) - 97) = (L1 : Int) := by rw [IntKind.wrap_u8]; omega
                  have e2 : IntKind.u8.wrap ((L1 : Int) + 10) = (D : Int) := by rw [IntKind.wrap_u8]; omega
                  by_cases hd16 : 16 ≤ D
                  · have d5 : decide ((D : Int) ≥ 16) = true := decide_eq_true (by omega)
                    have d5' : decide ((16 : Int) ≤ (D : Int)) = true := decide_eq_true (by omega)
                    have HN := Aside0.mk (HBd.out (by rw [hD]; exact hd16))
                    clear h48 hDv h95 hl1 hl2 hD hDe hL1 hd16
                    clear HBd HBr HNx hm hq HG hd hn
                    go_wp2_with (first | (go_at_call 111; refine (lower_calls c hcl _).mono ?_; rw [← HLe.out]; rintro e w' ⟨rfl, rfl⟩))
                    go_ret2
                    exact ⟨⟨0, _, rfl, ⟨.inr (.inr rfl), fun N hN e => absurd e (HN.out N hN), by decide⟩⟩, HBw.out⟩
                  · have d5 : decide ((D : Int) ≥ 16) = false := decide_eq_false (by omega)
                    have d5' : decide ((16 : Int) ≤ (D : Int)) = false := decide_eq_false (by omega)
                    have w2 : IntKind.u64.wrap ((m : Int) + (D : Int)) = (q : Int) := by unfold IntKind.wrap; simp [IntKind.bits, IntKind.signed]; omega
                    have hmq : m ≤ q := by omega
                    have d7 : decide ((q : Int) < (m : Int)) = false := decide_eq_false (by omega)
                    have w3 : IntKind.u64.wrap (D : Int) = (D : Int) := by unfold IntKind.wrap; simp [IntKind.bits, IntKind.signed]; omega
                    by_cases hr : 4294967295 < q
                    · have d6 : decide ((q : Int) > 4294967295) = true := decide_eq_true (by omega)
                      have d6' : decide ((4294967295 : Int) < (q : Int)) = true := decide_eq_true (by omega)
                      have HN := Aside0.mk (HBr.out hr)
                      clear HBd HBr HNx hm hq HG hd hn h48 hDv h95 hl1 hl2 hD hDe hL1 hd16 hr
                      go_wp2_with (first | (go_at_call 111; refine (lower_calls c hcl _).mono ?_; rw [← HLe.out]; rintro e w' ⟨rfl, rfl⟩))
                      go_ret2
                      exact ⟨⟨4294967295, _, rfl, ⟨.inr (.inl rfl), fun N hN e => absurd e (HN.out N hN), by decide⟩⟩, HBw.out⟩
                    · have d6 : decide ((q : Int) > 4294967295) = false := decide_eq_false (by omega)
                      have d6' : decide ((4294967295 : Int) < (q : Int)) = false := decide_eq_false (by omega)
                      have HR := Aside0.mk hr
                      clear HBd HBr hm hq HG hd hn h48 hDv h95 hl1 hl2 hD hDe hL1 hd16 hr
                      go_wp2_with (first | (go_at_call 111; refine (lower_calls c hcl _).mono ?_; rw [← HLe.out]; rintro e w' ⟨rfl, rfl⟩))
                      go_round
                      case rel => exact ⟨i + 1, q, by omega, rfl, rfl, by go_num, by have := HR.out; omega, HNx⟩
                      case measure => simp [intOf]; omega
      · have hi2 : i = s.size := by omega
        subst hi2
        clear HCell hcv
        go_wp2
        go_ret2
        exact ⟨⟨n, _, rfl, ⟨.inl rfl, fun N hN e => ⟨by
          have h1 := HG.out N hN e
          have h8 : s.size = 8 := by rw [e, mkB_size, hexK_len]
          rw [h1, h8]; simp, rfl⟩, by omega⟩⟩, HBw.out⟩
end Go.Proofs.YtpjhgfeibkldmaaGreatDoor

namespace Go.Proofs.YtpjhgfeibkldmaaGreatDoor
open Go Go.RowKit Go.Proofs.YtpjhgfeibkldmaaGreatDoorW.PrintWords Go.Proofs.YtpjhgfeibkldmaaGreatDoorW.PrintLast Go.Proofs.YtpjhgfeibkldmaaGreatDoorW.PrintMore
attribute [local go_sem] max2_int min2_int max_two min_two max_three min_three max_four min_four
set_option linter.unusedVariables false
set_option linter.unusedSimpArgs false

theorem shaped_on {w w' : World} (h : w.ShapedOpen Tryz.prog) (hb : Below w.heap.size w w') : w'.ShapedOpen Tryz.prog := by
  have same : ∀ {i : Nat} {o : Obj}, w.heap[i]? = some o → w'.heap[i]? = some o := fun {i o} ho => (hb.block i (by
    rcases Nat.lt_or_ge i w.heap.size with h' | h'
    · exact h'
    · simp [Array.getElem?_eq_none h'] at ho)).trans ho
  refine ⟨fun g zero t hg hz => ?_, fun k hk1 hk2 => ?_⟩
  · obtain ⟨cs, h1, h2, h3⟩ := h.1 g zero t hg hz
    refine ⟨cs, same h1, h2, fun hb' => Row.ok_of_shape (fun b x hx => ?_) (h3 hb')⟩
    unfold World.shape? at hx ⊢
    cases e : w.heap[b]? with
    | none => rw [e] at hx; cases hx
    | some o => rw [e] at hx; rw [same e]; exact hx
  · obtain ⟨o, o₀, h1, h2, h3⟩ := h.2 k hk1 hk2
    exact ⟨o, o₀, same h1, h2, h3⟩

/-- A row of texts that lies whole in a block. -/
structure Parts (w : World) (ad : Addr) (ps : List ByteArray) : Prop where
  blk : w.heap[ad.block]? = some (.cells (ps.map Value.string).toArray 9 (0, 0))
  at0 : ad = ⟨ad.block, 0, none⟩
  few : ps.length ≤ 1048577
theorem Parts.lt {w : World} {ad : Addr} {ps : List ByteArray} (h : Parts w ad ps) : ad.block < w.heap.size := lt_of_block h.blk
theorem Parts.on {w w' : World} {ad : Addr} {ps : List ByteArray} (h : Parts w ad ps) (hb : Below w.heap.size w w') : Parts w' ad ps := ⟨(hb.block _ h.lt).trans h.blk, h.at0, h.few⟩
theorem Parts.grown {w w' : World} {ad : Addr} {ps : List ByteArray} {row : Option Nat} (h : Parts w ad ps) (hg : w.grownBy w' row) (hne : some ad.block ≠ row) : Parts w' ad ps := ⟨(hg.block _ h.lt hne).trans h.blk, h.at0, h.few⟩
theorem Parts.C {w : World} {ad : Addr} {ps : List ByteArray} (h : Parts w ad ps) : Kd.C Kd.string w (some ad) ps.length ps := by
  have hlen : ps.length ≤ 9223372036854775807 := by have := h.few; omega
  refine Kd.C_of_reads (d := ByteArray.empty) ⟨rfl, hlen, fun hn => ⟨_, rfl, fun j hj => ?_⟩⟩
  have e1 : ps.getD j ByteArray.empty = ps[j] := by rw [List.getD_eq_getElem?_getD, List.getElem?_eq_getElem hj]; rfl
  have e2 : ad.add j = ⟨ad.block, j, none⟩ := by
    rw [h.at0]
    unfold Addr.add; split
    · rename_i h0; subst h0; rfl
    · simp
  rw [e1, e2]
  unfold World.cell?
  rw [h.blk]
  simp [hj]
theorem split_calls (s : ByteArray) (hs : s.size ≤ 1048576) (w : World) (h : w.ShapedOpen Tryz.prog) :
    Calls Tryz.prog 76 #[.string s, .string ⟨#[44]⟩] w fun e w' => (∃ ad, e = .returned (.slice (some ad) (partsB s).length (partsB s).length) ∧ Parts w' ad (partsB s) ∧ w.heap.size ≤ ad.block) ∧ Below w.heap.size w w' := by
  refine (Tryz.strings_Split_shaped s ⟨#[44]⟩ w h (by omega) (by decide)).mono ?_
  rintro e w' ⟨rfl, rfl⟩
  rw [split_parts, ← split_len]
  have hlen : (partsB s).length ≤ 1048577 := by
    have := cutFrom_len s.data.toList []
    rw [data_length] at this
    unfold partsB; rw [List.length_map]; omega
  exact ⟨⟨_, rfl, ⟨by show (w.heap.push _)[w.heap.size]? = _; simp, rfl, hlen⟩, Nat.le_refl _⟩, (Below.refl _ _).alloc (Nat.le_refl _) _⟩

/-- The rest is read behind what has been read. -/
def Read (ps : List ByteArray) (i : Nat) (acc : List Int) : Prop := acc.length = i ∧ i ≤ 64 ∧ i ≤ ps.length ∧ readAll ps = (readAll (ps.drop i)).map (acc ++ ·)
theorem Read.start (ps : List ByteArray) : Read ps 0 [] := ⟨rfl, by omega, by omega, by rw [List.drop_zero]; cases readAll ps <;> simp⟩
theorem Read.next {ps : List ByteArray} {i : Nat} {acc : List Int} (h : Read ps i acc) (hi : i < ps.length) (h6 : i ≠ 64) (hb : (rdB ps[i]).2 = true) : Read ps (i + 1) (acc ++ [(rdB ps[i]).1]) := by
  obtain ⟨h1, h2, h3, h4⟩ := h
  refine ⟨by rw [List.length_append, h1]; rfl, by omega, by omega, ?_⟩
  rw [h4, List.drop_eq_getElem_cons hi, readAll, if_pos hb, Option.map_map]
  congr 1
  funext l
  simp
theorem Read.bad {ps : List ByteArray} {i : Nat} {acc : List Int} (h : Read ps i acc) (hi : i < ps.length) (hb : (rdB ps[i]).2 = false) : readAll ps = none := by
  obtain ⟨h1, h2, h3, h4⟩ := h
  rw [h4, List.drop_eq_getElem_cons hi, readAll, if_neg (by rw [hb]; decide)]; rfl
theorem Read.done {ps : List ByteArray} {acc : List Int} (h : Read ps ps.length acc) : readAll ps = some acc ∧ ps.length ≤ 64 := by
  obtain ⟨h1, h2, h3, h4⟩ := h
  rw [List.drop_length] at h4
  refine ⟨?_, h2⟩
  rw [h4]; simp [readAll]
theorem rl_bad (s : ByteArray) (h0 : ¬ s.toList = ([110, 111, 110, 101] : List UInt8)) (h : readAll (partsB s) = none ∨ (partsB s).length > 64) : rlB s = ([], false) := by
  unfold rlB
  rw [if_neg h0]
  split
  · rfl
  · rcases h with h | h
    · rw [h]; rfl
    · contradiction
theorem rl_done (s : ByteArray) (h0 : ¬ s.toList = ([110, 111, 110, 101] : List UInt8)) {acc : List Int} (h : Read (partsB s) (partsB s).length acc) : rlB s = (acc, true) := by
  obtain ⟨h1, h2⟩ := h.done
  unfold rlB
  rw [if_neg h0, if_neg (by omega), h1]; rfl

end Go.Proofs.YtpjhgfeibkldmaaGreatDoor

namespace Go.Proofs.YtpjhgfeibkldmaaGreatDoor
open Go Go.RowKit
set_option linter.unusedVariables false
set_option linter.unusedSimpArgs false

/-- All of the first k numbers are in the range. -/
def allIn (z : Nat → Int) (lo hi : Int) : Nat → Bool
  | 0 => true
  | k + 1 => allIn z lo hi k && inB (z k) lo hi

theorem allIn_false {z : Nat → Int} {lo hi : Int} {k len : Nat} (hk : k < len) (h : inB (z k) lo hi = false) : allIn z lo hi len = false := by
  induction len with
  | zero => omega
  | succ n ih =>
    unfold allIn
    by_cases e : k = n
    · subst e; rw [h, Bool.and_false]
    · rw [ih (by omega), Bool.false_and]

end Go.Proofs.YtpjhgfeibkldmaaGreatDoor

namespace Go.Proofs.YtpjhgfeibkldmaaGreatDoor
open Go Go.RowKit
set_option linter.unusedVariables false
set_option linter.unusedSimpArgs false

def sizeB (x y : Int) : Bool := inB x 1 16 && inB y 1 16
def validB (x y : Int) (len : Nat) : Bool := sizeB x y && decide ((len : Int) = x * y)

theorem size_bounds {x y : Int} (h : sizeB x y = true) : (1 ≤ x ∧ x ≤ 16) ∧ (1 ≤ y ∧ y ≤ 16) := by
  simpa [sizeB, inB] using h

/-- A field in memory. -/
structure FieldAt (w : World) (b : Nat) (x y : Int) (r : Bool) (s : Value) : Prop where
  lt : b < w.heap.size
  x : w.cell? ⟨b, 0, none⟩ = some (.int .i64 x)
  y : w.cell? ⟨b, 1, none⟩ = some (.int .i64 y)
  r : w.cell? ⟨b, 2, none⟩ = some (.bool r)
  s : w.cell? ⟨b, 3, none⟩ = some s

theorem FieldAt.keep {w w' : World} {b : Nat} {x y : Int} {r : Bool} {s : Value} (h : FieldAt w b x y r s) (k : Below w.heap.size w w') : FieldAt w' b x y r s :=
  ⟨Nat.lt_of_lt_of_le h.lt k.size, (k.cell (p := ⟨b, 0, none⟩) h.lt).trans h.x, (k.cell (p := ⟨b, 1, none⟩) h.lt).trans h.y, (k.cell (p := ⟨b, 2, none⟩) h.lt).trans h.r, (k.cell (p := ⟨b, 3, none⟩) h.lt).trans h.s⟩
theorem FieldAt.drewN {w : World} {b : Nat} {x y : Int} {r : Bool} {s : Value} (h : FieldAt w b x y r s) (n : Nat) : FieldAt (w.drewN n) b x y r s := ⟨h.lt, h.x, h.y, h.r, h.s⟩

end Go.Proofs.YtpjhgfeibkldmaaGreatDoor

namespace Go.Proofs.YtpjhgfeibkldmaaGreatDoor
open Go Go.RowKit
set_option linter.unusedVariables false
set_option linter.unusedSimpArgs false

/-- How much of 2^20 a list leaves. -/
def leftV (len : Nat) : Int := if len ≤ 1048576 then 1048576 - len else -1

/-- A field's copy, its list in a block of its own from block n on. -/
def FieldCopy (x y : Int) (r : Bool) (V : Nat → Value) (len : Nat) (w : World) (e : Ending) (w' : World) : Prop :=
  ∃ B cur, e = .returned (.agg #[.int .i64 x, .int .i64 y, .bool r, .slice (some ⟨B, 0, none⟩) len len]) ∧ Below w.heap.size w w' ∧ w.heap.size ≤ B ∧ Own w' B 28 cur ∧ cur.size = len ∧ ∀ i, i < len → cur[i]? = some (V i)

end Go.Proofs.YtpjhgfeibkldmaaGreatDoor

namespace Go.Proofs.YtpjhgfeibkldmaaGreatDoor
open Go Go.RowKit
set_option linter.unusedVariables false
set_option linter.unusedSimpArgs false

/-- A list of 32-bit numbers that the call owns from block 'base' on. -/
def FOwn (w : World) (base : Nat) (v : Value) (vs : List Nat) : Prop := w.ownsRow base 28 1 v vs.length (vs.map (Value.float .f32))

theorem FOwn.form {w : World} {base : Nat} {v : Value} {vs : List Nat} (h : FOwn w base v vs) :
    (v = .slice none 0 0 ∧ vs = []) ∨ ∃ g cap cur, v = .slice (some ⟨g, 0, none⟩) vs.length cap ∧ base ≤ g ∧ Own w g 28 cur ∧ vs.length ≤ cap ∧ cap ≤ maxLen ∧ cur.size = cap ∧ ∀ i, i < vs.length → cur[i]? = some (fvals .f32 vs i) := by
  obtain ⟨h1, h2⟩ := h
  rcases h2 with ⟨rfl, h2⟩ | ⟨g, cap, cur, rfl, hb, ho, hn, hm, hs, ht⟩
  · exact .inl ⟨rfl, List.length_eq_zero_iff.1 h2⟩
  · refine .inr ⟨g, cap, cur, rfl, hb, ho, hn, hm, by omega, fun i hi => ?_⟩
    have : (cur.toList.take (vs.length * 1))[i]? = some (fvals .f32 vs i) := by
      rw [ht]; simp [fvals, List.getD, hi]
    rw [List.getElem?_take_of_lt (by omega)] at this
    simpa using this

theorem FOwn.of_own {w : World} {base g cap : Nat} {cur : Array Value} {vs : List Nat} (hb : base ≤ g) (ho : Own w g 28 cur) (hn : vs.length ≤ cap) (hm : cap ≤ maxLen) (hs : cur.size = cap)
    (hc : ∀ i, i < vs.length → cur[i]? = some (fvals .f32 vs i)) : FOwn w base (.slice (some ⟨g, 0, none⟩) vs.length cap) vs := by
  refine ⟨by simp, .inr ⟨g, cap, cur, rfl, hb, ho, hn, hm, by omega, ?_⟩⟩
  apply List.ext_getElem?
  intro i
  by_cases hi : i < vs.length
  · rw [List.getElem?_take_of_lt (by omega), List.getElem?_map]
    have := hc i hi
    simp [fvals, List.getD, hi] at this
    simp [hi, this]
  · rw [List.getElem?_eq_none (by simp; omega), List.getElem?_eq_none (by simp; omega)]

theorem FOwn.value {w : World} {base : Nat} {v : Value} {vs : List Nat} (h : FOwn w base v vs) : ∃ a cap, v = .slice a vs.length cap ∧ Holds w a vs.length (fvals .f32 vs) := by
  rcases h.form with ⟨rfl, rfl⟩ | ⟨g, cap, cur, rfl, hb, ho, hn, hm, hs, hc⟩
  · exact ⟨none, 0, rfl, ⟨.inl rfl⟩⟩
  · exact ⟨_, _, rfl, ho.holds hc⟩

theorem FOwn.keep {w w' : World} {base : Nat} {v : Value} {vs : List Nat} (h : FOwn w base v vs) (k : Below w.heap.size w w') : FOwn w' base v vs := by
  rcases h.form with ⟨rfl, rfl⟩ | ⟨g, cap, cur, rfl, hb, ho, hn, hm, hs, hc⟩
  · exact ⟨rfl, .inl ⟨rfl, rfl⟩⟩
  · exact .of_own hb (ho.below k ho.lt) hn hm hs hc
theorem FOwn.drewN {w : World} {base : Nat} {v : Value} {vs : List Nat} (h : FOwn w base v vs) (n : Nat) : FOwn (w.drewN n) base v vs := h
theorem FOwn.base {w : World} {base base' : Nat} {v : Value} {vs : List Nat} (h : FOwn w base v vs) (g : base' ≤ base) : FOwn w base' v vs := by
  rcases h.form with ⟨rfl, rfl⟩ | ⟨g', cap, cur, rfl, hb, ho, hn, hm, hs, hc⟩
  · exact ⟨rfl, .inl ⟨rfl, rfl⟩⟩
  · exact .of_own (by omega) ho hn hm hs hc
theorem FOwn.other {w w' : World} {base : Nat} {v : Value} {vs : List Nat} {row : Option Nat} (h : FOwn w base v vs) (k : w.grownBy w' row) (hne : v.ownBlock = none ∨ v.ownBlock ≠ row) : FOwn w' base v vs :=
  World.ownsRow.kept h k hne

/-- The marks from k on. -/
def marks (k : Int) (n : Nat) : List Nat := (List.range n).map fun i => floatOfInt .f32 (k + (i : Nat))
theorem marks_length (k : Int) (n : Nat) : (marks k n).length = n := by simp [marks]
theorem marks_get (k : Int) {n i : Nat} (h : i < n) : fvals .f32 (marks k n) i = .float .f32 (floatOfInt .f32 (k + (i : Nat))) := by
  simp [fvals, marks, List.getD, h]

theorem int_num (k : FloatKind) (n : Int) : isN k (floatOfInt k n) = false := by
  obtain ⟨R, h0, h1, _, _⟩ := nearest_rung k.format (decide (n < 0)) n.natAbs 0
  have hM := k.format.infRung_lt
  have e : floatOfInt k n = k.format.word (decide (n < 0)) R := h0
  rw [e, isN_eq, rung_word _ _ _ (by omega)]
  simp only [decide_eq_false_iff_not]
  omega

/-- What marking leaves. -/
def MarkOut (base : Nat) (v : Value) (n : Nat) (k : Int) (w : World) (e : Ending) (w' : World) : Prop :=
  e = .returned (.int .i64 (k + n)) ∧ w.grownBy w' v.ownBlock ∧ FOwn w' base v (marks k n)

theorem keep_own (w : World) (o : Obj) : Below w.heap.size w (w.alloc o) := (Below.refl w.heap.size w).alloc (Nat.le_refl _) o
theorem grown_box {w w' : World} {o : Obj} {row : Option Nat} (h : (w.alloc o).grownBy w' row) : w.grownBy w' row := by
  refine ⟨h.os, h.tape, h.output, Nat.le_trans (by simp) h.size, fun b hb hne => ?_⟩
  rw [h.block b (by simp; omega) hne]
  exact Below.heap_alloc _ _ _ hb

end Go.Proofs.YtpjhgfeibkldmaaGreatDoor

