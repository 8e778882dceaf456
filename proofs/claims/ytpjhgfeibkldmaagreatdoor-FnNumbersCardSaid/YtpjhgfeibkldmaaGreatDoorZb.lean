/- Decimal: the program's side, by the library's contract, and the law. The powers of ten read as the program's text lays them. -/
import Derived.Test.YtpjhgfeibkldmaaGreatDoorZa
import Derived.Test.YtpjhgfeibkldmaaGreatDoorSh
import Derived.Test.YtpjhgfeibkldmaaGreatDoorRows
import Derived.Lib.AppendIntMem
import Derived.Lib.LaidTab
import Derived.Stop.LaidErr
import Derived.WalkKit
import Derived.Below
import Derived.Test.YtpjhgfeibkldmaaGreatDoorChecked
import Derived.WalkLawsBesides
import Derived.WalkSpells
import Derived.KernelRfl
import Derived.Lib.Hide
namespace Go.Proofs.YtpjhgfeibkldmaaGreatDoor
open Go Go.RowKit
set_option linter.unusedVariables false
set_option linter.unusedSimpArgs false

/-- The powers of ten read as they are laid, whatever is done from block B on. -/
abbrev Pow (B : Nat) (w : World) : Prop := Lib.TabBelow Tryz.prog B w "internal/strconv.uint64pow10" .u64 Lib.pow10Tab

theorem type_pow : (Tryz.prog.globals[1]?).map (·.type) = some 139 := by kernel_rfl
theorem pow_data {H : Type} : (Rows.laid_internal_strconv_uint64pow10 : DataW H) = Lib.tabData .u64 Lib.pow10Tab := by rfl
/-- What a row's list gives: the powers of ten. -/
theorem pow_of {rest : List (String × DataW Unit)} {W : World} (h : laidMet Tryz.prog (("math/bits.deBruijn32tab", Rows.laid_math_bits_deBruijn32tab) :: ("math/bits.deBruijn64tab", Rows.laid_math_bits_deBruijn64tab) :: ("internal/strconv.uint64pow10", Rows.laid_internal_strconv_uint64pow10) :: rest) W) :
    Lib.TabIs Tryz.prog W "internal/strconv.uint64pow10" .u64 Lib.pow10Tab := by
  have h3 := h.tail.tail
  rw [pow_data] at h3
  exact Lib.tabIs_of_head (by kernel_rfl) type_pow Tryz.underlying139 Tryz.underlying86 (by kernel_rfl) (by kernel_rfl) h3

end Go.Proofs.YtpjhgfeibkldmaaGreatDoor

namespace Go.Proofs.YtpjhgfeibkldmaaGreatDoor
open Go Go.RowKit Go.Proofs.YtpjhgfeibkldmaaGreatDoorW.PrintWords Go.Proofs.YtpjhgfeibkldmaaGreatDoorW.PrintLast Go.Proofs.YtpjhgfeibkldmaaGreatDoorW.PrintMore
attribute [local go_sem] max2_int min2_int max_two min_two max_three min_three max_four min_four
set_option linter.unusedVariables false
set_option linter.unusedSimpArgs false

theorem ret_b {a b : Bool} (h : a = b) : (Ending.returned (.bool a)) = .returned (.bool b) := by rw [h]

theorem impl_within_small (n : Int) (w : World) :
    Calls Tryz.prog 54 #[.int .i64 n, .int .i64 (-1000000000000000), .int .i64 1000000000000000] w fun e w' => e = .returned (.bool (smallB n)) ∧ w = w' := by
  go_enter Tryz.func54, Tryz.ntmps54
  go_wp2
  all_goals (go_ret; refine ⟨ret_b ?_, rfl⟩)
  all_goals (simp [smallB]; try omega)

theorem takeS_all {l : List Int} {i : Nat} (h : i < l.length) : (l.take (i + 1)).all smallB = ((l.take i).all smallB && smallB l[i]) := by
  rw [List.take_succ_eq_append_getElem h, List.all_append]; simp
theorem all_out {l : List Int} {i : Nat} (h : i < l.length) (hb : smallB l[i] = false) : l.all smallB = false := by
  rw [List.all_eq_false]
  exact ⟨l[i], List.getElem_mem h, by rw [hb]; decide⟩

theorem str_row {w : World} {base : Nat} {ok : Nat → Prop} {v : Value} {xs : List ByteArray} (h : Kd.R Kd.string 9 w base ok v xs) (hne : xs ≠ []) :
    ∃ g c, v = .slice (some ⟨g, 0, none⟩) xs.length c ∧ xs.length ≤ c ∧ g < w.heap.size ∧ ∀ (j : Nat) x, xs[j]? = some x → w.cell? ⟨g, 0 + j, none⟩ = some (.string x) := by
  have ho := Kd.own_of_R h
  have hpos : xs.length ≠ 0 := fun e => hne (List.eq_nil_of_length_eq_zero e)
  obtain ⟨h1, ⟨_, h2⟩ | ⟨g, cap, cur, rfl, hg, hh, hcap, hmax, r⟩⟩ := ho
  · exact absurd h2 hpos
  · refine ⟨g, cap, rfl, hcap, lt_of_block hh, fun j x hx => ?_⟩
    have hj : j < xs.length := (List.getElem?_eq_some_iff.1 hx).1
    have := (Kd.R_cell ByteArray.empty h (j : Int) (by omega) (by omega)).1
    rw [Int.toNat_natCast] at this
    rw [Nat.zero_add, this]
    unfold rdOf
    rw [Int.toNat_natCast, List.getD_eq_getElem?_getD, hx]; rfl

/-- Texts with a comma between them, or none. -/
def joinB (xs : List ByteArray) : ByteArray := if xs = [] then ⟨#[110, 111, 110, 101]⟩ else ⟨(Lib.join (xs.map (·.data.toList)) [44]).toArray⟩
theorem impl_joined (xs : List ByteArray) (v : Value) (base : Nat) (ok : Nat → Prop) (w : World) (h : Kd.R Kd.string 9 w base ok v xs) (hl : xs.length ≤ 1048576) (hlen : (Lib.join (xs.map (·.data.toList)) [44]).length ≤ 140737488355328) :
    Calls Tryz.prog 48 #[v] w fun e w' => e = .returned (.string (joinB xs)) ∧ Below w.heap.size w w' := by
  by_cases hne : xs = []
  · subst hne
    obtain ⟨A, c, rfl, hc, hr⟩ := Kd.R_reads h
    clear h hr hlen
    go_enter Tryz.func48, Tryz.ntmps48
    go_wp2
    go_ret
    exact ⟨rfl, Below.refl _ _⟩
  · obtain ⟨g, c, rfl, hc, hg, hx⟩ := str_row h hne
    have e : joinB xs = ⟨(Lib.join (xs.map (·.data.toList)) [44]).toArray⟩ := if_neg hne
    have hpos : xs.length ≠ 0 := fun e => hne (List.eq_nil_of_length_eq_zero e)
    have h1 : ((xs.length : Int) == 0) = false := beq_eq_false_iff_ne.2 (by omega)
    have HX := Aside0.mk hx
    have HL := Aside0.mk hlen
    clear hx hlen h
    rw [e]; clear e hne
    go_enter Tryz.func48, Tryz.ntmps48
    go_wp2_with (first | (go_at_call 75; refine (Tryz.strings_Join g 0 c xs ⟨#[44]⟩ _ HX.out hg (by omega) hc HL.out).mono ?_; rintro e w' ⟨rfl, hb⟩))
    go_ret
    exact ⟨rfl, hb⟩
end Go.Proofs.YtpjhgfeibkldmaaGreatDoor

namespace Go.Proofs.YtpjhgfeibkldmaaGreatDoor
open Go Go.RowKit
set_option linter.unusedVariables false
set_option linter.unusedSimpArgs false

def inB (n lo hi : Int) : Bool := decide (lo ≤ n ∧ n ≤ hi)

theorem impl_within (n lo hi : Int) (w : World) :
    Calls Tryz.prog 54 #[.int .i64 n, .int .i64 lo, .int .i64 hi] w fun e w' => e = .returned (.bool (inB n lo hi)) ∧ w = w' := by
  go_enter Tryz.func54, Tryz.ntmps54
  go_wp2
  all_goals (go_ret; refine ⟨ret_bool ?_, rfl⟩)
  all_goals (simp [inB]; try omega)

def azB (c : UInt8) : Bool := decide (97 ≤ c.toNat ∧ c.toNat ≤ 122)
theorem az_lo {c : UInt8} (h : azB c = true) : (97 : Int) ≤ c.toNat := by simp [azB] at h; omega
theorem az_hi {c : UInt8} (h : azB c = true) : (c.toNat : Int) ≤ 122 := by simp [azB] at h; omega
theorem az_not {c : UInt8} (h : ¬ azB c = true) : (c.toNat : Int) < 97 ∨ (122 : Int) < c.toNat := by simp [azB] at h; omega
def AzUpto (s : ByteArray) (k : Nat) : Prop := ∀ j, j < k → ∀ h : j < s.size, azB s[j] = true
theorem AzUpto.snoc {s : ByteArray} {k : Nat} (h : AzUpto s k) (hk : k < s.size) (ha : azB s[k] = true) : AzUpto s (k + 1) := by
  intro j hj hjs
  by_cases e : j = k
  · subst e; exact ha
  · exact h j (by omega) hjs
def AzAll (s : ByteArray) : Prop := ∀ j (h : j < s.size), azB s[j] = true
theorem AzUpto.all {s : ByteArray} {k : Nat} (h : AzUpto s k) (hk : s.size ≤ k) : AzAll s := fun j hj => h j (by omega) hj
open Classical in
noncomputable def nameB (s : ByteArray) : Bool := decide (AzAll s ∧ 1 ≤ s.size ∧ s.size ≤ 8)
theorem nameB_no (s : ByteArray) (k : Nat) (hk : k < s.size) (h : ¬ azB s[k] = true) : nameB s = false := by
  unfold nameB
  rw [decide_eq_false_iff_not]
  exact fun g => h (g.1 k hk)
theorem nameB_len (s : ByteArray) (h : AzAll s) : nameB s = decide ((1 : Int) ≤ s.size ∧ (s.size : Int) ≤ 8) := by
  unfold nameB
  rw [decide_eq_decide]
  constructor
  · rintro ⟨_, h1, h2⟩; omega
  · rintro ⟨h1, h2⟩; exact ⟨h, by omega, by omega⟩

/-- The check number of a text. -/
def checkL (n : Int) (l : List UInt8) : Int := l.foldl (fun n c => (743 * n + c.toNat + 71) % 65003) n
theorem checkL_bd (n : Int) (l : List UInt8) (h0 : 0 ≤ n) (h1 : n < 65003) : 0 ≤ checkL n l ∧ checkL n l < 65003 := by
  unfold checkL
  induction l generalizing n with
  | nil => exact ⟨h0, h1⟩
  | cons c l ih => exact ih ((743 * n + c.toNat + 71) % 65003) (by omega) (by omega)
theorem take_snoc (s : ByteArray) (k : Nat) (h : k < s.size) : s.data.toList.take (k + 1) = s.data.toList.take k ++ [s[k]] := by
  rw [List.take_succ_eq_append_getElem (by simpa using h)]; rfl
theorem take_all (s : ByteArray) (k : Nat) (h : s.size ≤ k) : s.data.toList.take k = s.data.toList := List.take_of_length_le (by simpa using h)
theorem checkL_snoc (m : Int) (s : ByteArray) (k : Nat) (h : k < s.size) : checkL m (s.data.toList.take (k + 1)) = (743 * checkL m (s.data.toList.take k) + s[k].toNat + 71) % 65003 := by
  rw [take_snoc s k h]; simp [checkL, List.foldl_append]

/-- What CheckOf answers. -/
def checkOk (m : Int) : Bool := inB m 0 65002
def checkVal (m : Int) (s : ByteArray) : Int := if checkOk m then checkL m s.data.toList else 0
end Go.Proofs.YtpjhgfeibkldmaaGreatDoor

namespace Go.Proofs.YtpjhgfeibkldmaaGreatDoor
open Go
set_option linter.unusedVariables false
set_option linter.unusedSimpArgs false
set_option exponentiation.threshold 3000

/-- The number x is finite, and its magnitude is at most n units of the least place. -/
structure Lim (k : FloatKind) (n : Nat) (x : Nat) : Prop where
  fin : rung k.format x < k.format.infRung
  le : mag k.format (rung k.format x) ≤ n

theorem Lim.mono {k : FloatKind} {n m x : Nat} (h : Lim k n x) (g : n ≤ m) : Lim k m x := ⟨h.fin, Nat.le_trans h.le g⟩
theorem Lim.num {k : FloatKind} {n x : Nat} (h : Lim k n x) : isN k x = false := by
  rw [isN_eq]; simp only [decide_eq_false_iff_not]; exact Nat.not_lt.2 (Nat.le_of_lt h.fin)
theorem Lim.cn {k : FloatKind} {n x : Nat} (h : Lim k n x) : cn k x = x := by
  unfold Go.Proofs.YtpjhgfeibkldmaaGreatDoor.cn; rw [h.num]; rfl
theorem Lim.same {k : FloatKind} {n x y : Nat} (h : Lim k n x) (g : Same k y x) : y = x := g.eq h.num
theorem Lim.of_same {k : FloatKind} {n x y : Nat} (h : Lim k n x) (g : Same k y x) : Lim k n y := by rw [h.same g]; exact h

/-- Finite numbers of bounded magnitude have bounded rungs. -/
theorem rung_of_mag {f : Ieee.Format} {c r : Nat} (h : mag f r ≤ mag f c) : r ≤ c := le_of_magB_le _ (binade_pos f) h

theorem write_lim (k : FloatKind) (s : Bool) (n : Nat) (place : Int) (c : Nat) (hc : c < k.format.infRung)
    (h : n * 2 ^ (place - k.format.leastPlace).toNat ≤ mag k.format c * 2 ^ (k.format.leastPlace - place).toNat) : Lim k (mag k.format c) (k.format.write (.number s n place)) := by
  have hM := k.format.infRung_lt
  obtain ⟨R, h0, h1, h2, _⟩ := nearest_rung k.format s n place
  have hR := h2 c (Nat.le_of_lt hc) h
  have e : k.format.write (.number s n place) = k.format.word s R := h0
  have er : rung k.format (k.format.word s R) = R := rung_word _ _ _ (by omega)
  rw [e]
  exact ⟨by rw [er]; omega, by rw [er]; exact magB_le _ (binade_pos _) hR⟩

theorem natAbs_signed (s : Bool) (m e : Nat) : (Ieee.signed s m e).natAbs = m * 2 ^ e := by
  unfold Ieee.signed
  rw [Nat.shiftLeft_eq]
  cases s
  · rfl
  · show (-((m * 2 ^ e : Nat) : Int)).natAbs = m * 2 ^ e
    rw [Int.natAbs_neg]; rfl

theorem add_lim (k : FloatKind) {a b : Nat} (c : Nat) (hc : c < k.format.infRung) {x y : Nat} (hx : Lim k a x) (hy : Lim k b y) (h : a + b ≤ mag k.format c) : Lim k (mag k.format c) (fadd k x y) := by
  obtain ⟨m, e, h1, h2, _, _⟩ := read_fin k.format x hx.fin
  obtain ⟨n, g, h3, h4, _, _⟩ := read_fin k.format y hy.fin
  rw [fadd_eq]
  unfold Ieee.Format.add
  rw [h1, h3]
  unfold Ieee.Datum.sum
  dsimp only
  rw [Option.map_some, Option.getD_some]
  have e1 : (k.format.leastPlace + (e : Int) - min (k.format.leastPlace + (e : Int)) (k.format.leastPlace + (g : Int))).toNat = e - min e g := by omega
  have e2 : (k.format.leastPlace + (g : Int) - min (k.format.leastPlace + (e : Int)) (k.format.leastPlace + (g : Int))).toNat = g - min e g := by omega
  rw [e1, e2]
  refine write_lim k _ _ _ c hc ?_
  rw [show (min (k.format.leastPlace + (e : Int)) (k.format.leastPlace + (g : Int)) - k.format.leastPlace).toNat = min e g by omega,
    show (k.format.leastPlace - min (k.format.leastPlace + (e : Int)) (k.format.leastPlace + (g : Int))).toNat = 0 by omega, Nat.pow_zero, Nat.mul_one]
  have ha := Int.natAbs_add_le (Ieee.signed (sgn k.format x) m (e - min e g)) (Ieee.signed (sgn k.format y) n (g - min e g))
  rw [natAbs_signed, natAbs_signed] at ha
  have := Nat.mul_le_mul_right (2 ^ min e g) ha
  rw [Nat.add_mul, Nat.mul_assoc, Nat.mul_assoc, ← Nat.pow_add, ← Nat.pow_add, Nat.sub_add_cancel (Nat.min_le_left _ _), Nat.sub_add_cancel (Nat.min_le_right _ _), h2, h4] at this
  have := hx.le; have := hy.le
  omega

theorem opp_read (f : Ieee.Format) (y : Nat) (h : rung f y < f.infRung) : ∃ m e : Nat, (f.read y).opposite = .number (!sgn f y) m (f.leastPlace + e) ∧ m * 2 ^ e = mag f (rung f y) := by
  obtain ⟨m, e, h1, h2, _⟩ := read_fin f y h
  exact ⟨m, e, by rw [h1]; rfl, h2⟩

theorem sub_lim (k : FloatKind) {a b : Nat} (c : Nat) (hc : c < k.format.infRung) {x y : Nat} (hx : Lim k a x) (hy : Lim k b y) (h : a + b ≤ mag k.format c) : Lim k (mag k.format c) (fsub k x y) := by
  obtain ⟨m, e, h1, h2, _, _⟩ := read_fin k.format x hx.fin
  obtain ⟨n, g, h3, h4⟩ := opp_read k.format y hy.fin
  rw [fsub_eq]
  unfold Ieee.Format.sub
  rw [h1, h3]
  unfold Ieee.Datum.sum
  dsimp only
  rw [Option.map_some, Option.getD_some]
  have e1 : (k.format.leastPlace + (e : Int) - min (k.format.leastPlace + (e : Int)) (k.format.leastPlace + (g : Int))).toNat = e - min e g := by omega
  have e2 : (k.format.leastPlace + (g : Int) - min (k.format.leastPlace + (e : Int)) (k.format.leastPlace + (g : Int))).toNat = g - min e g := by omega
  rw [e1, e2]
  refine write_lim k _ _ _ c hc ?_
  rw [show (min (k.format.leastPlace + (e : Int)) (k.format.leastPlace + (g : Int)) - k.format.leastPlace).toNat = min e g by omega,
    show (k.format.leastPlace - min (k.format.leastPlace + (e : Int)) (k.format.leastPlace + (g : Int))).toNat = 0 by omega, Nat.pow_zero, Nat.mul_one]
  have ha := Int.natAbs_add_le (Ieee.signed (sgn k.format x) m (e - min e g)) (Ieee.signed (!sgn k.format y) n (g - min e g))
  rw [natAbs_signed, natAbs_signed] at ha
  have := Nat.mul_le_mul_right (2 ^ min e g) ha
  rw [Nat.add_mul, Nat.mul_assoc, Nat.mul_assoc, ← Nat.pow_add, ← Nat.pow_add, Nat.sub_add_cancel (Nat.min_le_left _ _), Nat.sub_add_cancel (Nat.min_le_right _ _), h2, h4] at this
  have := hx.le; have := hy.le
  omega

/-- The least place, from below. -/
def low (k : FloatKind) : Nat := (-k.format.leastPlace).toNat
theorem low_eq (k : FloatKind) : k.format.leastPlace = -(low k : Int) := by cases k <;> decide

theorem mul_lim (k : FloatKind) {a b : Nat} (c : Nat) (hc : c < k.format.infRung) {x y : Nat} (hx : Lim k a x) (hy : Lim k b y) (h : a * b ≤ mag k.format c * 2 ^ low k) : Lim k (mag k.format c) (fmul k x y) := by
  obtain ⟨m, e, h1, h2, _, _⟩ := read_fin k.format x hx.fin
  obtain ⟨n, g, h3, h4, _, _⟩ := read_fin k.format y hy.fin
  rw [fmul_eq]
  unfold Ieee.Format.mul
  rw [h1, h3]
  unfold Ieee.Datum.product
  rw [Option.map_some, Option.getD_some]
  refine write_lim k _ _ _ c hc ?_
  have hab : m * n * 2 ^ (e + g) ≤ mag k.format c * 2 ^ low k := by
    have := Nat.mul_le_mul hx.le hy.le
    rw [← h2, ← h4] at this
    rw [Nat.pow_add, Nat.mul_assoc, Nat.mul_left_comm n, ← Nat.mul_assoc m]
    omega
  rw [low_eq] at *
  generalize low k = D at *
  by_cases hd : D ≤ e + g
  · rw [show (-(D : Int) + (e : Int) + (-(D : Int) + (g : Int)) - -(D : Int)).toNat = e + g - D by omega, show (-(D : Int) - (-(D : Int) + (e : Int) + (-(D : Int) + (g : Int)))).toNat = 0 by omega, Nat.pow_zero, Nat.mul_one]
    refine Nat.le_of_mul_le_mul_right ?_ (Nat.two_pow_pos D)
    rw [Nat.mul_assoc, ← Nat.pow_add, Nat.sub_add_cancel hd]
    exact hab
  · rw [show (-(D : Int) + (e : Int) + (-(D : Int) + (g : Int)) - -(D : Int)).toNat = 0 by omega, show (-(D : Int) - (-(D : Int) + (e : Int) + (-(D : Int) + (g : Int)))).toNat = D - (e + g) by omega, Nat.pow_zero, Nat.mul_one]
    refine Nat.le_of_mul_le_mul_right ?_ (Nat.two_pow_pos (e + g))
    rw [Nat.mul_assoc (mag k.format c), ← Nat.pow_add, Nat.sub_add_cancel (by omega)]
    exact hab

theorem div_lim (k : FloatKind) {a b : Nat} (c : Nat) (hc : c < k.format.infRung) {x y : Nat} (hx : Lim k a x) (hyf : rung k.format y < k.format.infRung) (hyb : b ≤ mag k.format (rung k.format y)) (hb : 0 < b)
    (h : 2 * a * 2 ^ low k ≤ mag k.format c * b) : Lim k (mag k.format c) (fdiv k x y) := by
  obtain ⟨m, e, h1, h2, _, _⟩ := read_fin k.format x hx.fin
  obtain ⟨n, g, h3, h4, _, _⟩ := read_fin k.format y hyf
  have hn : n ≠ 0 := by
    intro h0
    rw [h0, Nat.zero_mul] at h4
    omega
  rw [fdiv_eq]
  unfold Ieee.Format.div
  rw [h1, h3]
  unfold Ieee.Datum.quotient
  dsimp only
  rw [if_neg hn, Option.map_some, Option.getD_some]
  refine write_lim k _ _ _ c hc ?_
  generalize hmore : k.format.fractionBits + 2 + n.log2 - m.log2 = more
  have hq : (2 * (m <<< more / n) + (m <<< more % n != 0).toNat) * n ≤ 4 * (m * 2 ^ more) := by
    rw [Nat.shiftLeft_eq]
    by_cases hm : m = 0
    · subst hm; simp
    · have hle : n ≤ m * 2 ^ more := by
        have l1 : 2 ^ m.log2 ≤ m := Nat.log2_self_le hm
        have l2 : n < 2 ^ (n.log2 + 1) := Nat.lt_log2_self
        have l3 := Nat.mul_le_mul_right (2 ^ more) l1
        rw [← Nat.pow_add] at l3
        have l4 : 2 ^ (n.log2 + 1) ≤ 2 ^ (m.log2 + more) := Nat.pow_le_pow_right (by omega) (by omega)
        omega
      have hd := Nat.div_mul_le_self (m * 2 ^ more) n
      have hb2 : (m * 2 ^ more % n != 0).toNat ≤ 1 := by cases (m * 2 ^ more % n != 0) <;> decide
      have hb3 : (m * 2 ^ more % n != 0).toNat * n ≤ n := by
        have := Nat.mul_le_mul_right n hb2
        omega
      rw [Nat.add_mul, Nat.mul_assoc]
      omega
  generalize 2 * (m <<< more / n) + (m <<< more % n != 0).toNat = Q at *
  have hxy : 2 * (m * 2 ^ e) * 2 ^ low k ≤ mag k.format c * (n * 2 ^ g) := by
    rw [h2, h4]
    have g1 := Nat.mul_le_mul_left (mag k.format c) hyb
    have g2 : 2 * mag k.format (rung k.format x) * 2 ^ low k ≤ 2 * a * 2 ^ low k := Nat.mul_le_mul_right _ (Nat.mul_le_mul_left 2 hx.le)
    omega
  rw [low_eq] at *
  generalize low k = D at *
  generalize mag k.format c = C at *
  have hex : (-(D : Int) + (e : Int) - (-(D : Int) + (g : Int)) - (more : Int) - 1 - -(D : Int)).toNat + (g + more + 1) = e + D + (-(D : Int) - (-(D : Int) + (e : Int) - (-(D : Int) + (g : Int)) - (more : Int) - 1)).toNat := by omega
  generalize (-(D : Int) + (e : Int) - (-(D : Int) + (g : Int)) - (more : Int) - 1 - -(D : Int)).toNat = up at *
  generalize (-(D : Int) - (-(D : Int) + (e : Int) - (-(D : Int) + (g : Int)) - (more : Int) - 1)).toNat = dn at *
  have hpos : 0 < n * 2 ^ (g + more + 1) := Nat.mul_pos (by omega) (Nat.two_pow_pos _)
  refine Nat.le_of_mul_le_mul_right ?_ hpos
  have s1 : Q * 2 ^ up * (n * 2 ^ (g + more + 1)) = Q * n * 2 ^ (e + D + dn) := by
    rw [← hex, Nat.pow_add 2 up]
    simp only [Nat.mul_assoc, Nat.mul_left_comm]
  have s2 : C * 2 ^ dn * (n * 2 ^ (g + more + 1)) = C * (n * 2 ^ g) * (2 ^ dn * 2 ^ more * 2) := by
    rw [Nat.pow_add 2 (g + more), Nat.pow_add 2 g, Nat.pow_one]
    simp only [Nat.mul_assoc, Nat.mul_left_comm]
  have s3 : 4 * (m * 2 ^ more) * 2 ^ (e + D + dn) = 2 * (m * 2 ^ e) * 2 ^ D * (2 ^ dn * 2 ^ more * 2) := by
    rw [Nat.pow_add 2 (e + D), Nat.pow_add 2 e]
    have : (4 : Nat) = 2 * 2 := rfl
    rw [this]
    simp only [Nat.mul_assoc, Nat.mul_left_comm, Nat.mul_comm]
  rw [s1, s2]
  refine Nat.le_trans (Nat.mul_le_mul_right _ hq) ?_
  rw [s3]
  exact Nat.mul_le_mul_right _ hxy

theorem rootFrom_sq (n : Nat) : ∀ todo root, root * root ≤ n → Ieee.Datum.rootFrom n todo root * Ieee.Datum.rootFrom n todo root ≤ n
  | 0, root, h => h
  | todo + 1, root, h => by
    unfold Ieee.Datum.rootFrom
    dsimp only
    split
    · exact rootFrom_sq n todo _ (by assumption)
    · exact rootFrom_sq n todo _ h

theorem sqrt_lim (k : FloatKind) {a : Nat} (c : Nat) (hc : c < k.format.infRung) {x : Nat} (hx : Lim k a x) (hs : sgn k.format x = false ∨ rung k.format x = 0) (h : 4 * a * 2 ^ low k ≤ mag k.format c * mag k.format c) : Lim k (mag k.format c) (fsqrt k x) := by
  obtain ⟨m, e, h1, h2, _, hr⟩ := read_fin k.format x hx.fin
  rw [fsqrt_eq]
  unfold Ieee.Format.sqrt
  rw [h1]
  unfold Ieee.Datum.root
  dsimp only
  by_cases hm : m = 0
  · subst hm
    rw [if_pos rfl, Option.map_some, Option.getD_some]
    exact write_lim k _ _ _ c hc (by simp)
  · have hsg : sgn k.format x = false := by
      rcases hs with hs | hs
      · exact hs
      · exfalso
        have : 0 < m := by omega
        omega
    rw [if_neg hm, hsg]
    simp only [Bool.false_eq_true, if_false]
    rw [Option.map_some, Option.getD_some]
    refine write_lim k _ _ _ c hc ?_
    generalize hM : 2 * (k.format.fractionBits + 2) - m.log2 + ((k.format.leastPlace + (e : Int) - ((2 * (k.format.fractionBits + 2) - m.log2 : Nat) : Int)) % 2).toNat = more
    have hodd : (k.format.leastPlace + (e : Int) - (more : Int)) % 2 = 0 := by omega
    clear hM
    generalize hn : m <<< more = n
    rw [Nat.shiftLeft_eq] at hn
    generalize hw : Ieee.Datum.rootFrom n (n.log2 / 2 + 1) 0 = wh
    have hsq : wh * wh ≤ n := by rw [← hw]; exact rootFrom_sq n _ 0 (by omega)
    have hn1 : 1 ≤ n := by
      rw [← hn]
      exact Nat.mul_pos (by omega) (Nat.two_pow_pos _)
    have hQ : (2 * wh + (wh * wh != n).toNat) * (2 * wh + (wh * wh != n).toNat) ≤ 16 * n := by
      have hb : (wh * wh != n).toNat ≤ 1 := by cases (wh * wh != n) <;> decide
      have hle : 2 * wh + (wh * wh != n).toNat ≤ 2 * wh + 1 := by omega
      have h3 := Nat.mul_le_mul hle hle
      have h4 : (2 * wh + 1) * (2 * wh + 1) = 4 * (wh * wh) + 4 * wh + 1 := by
        simp only [Nat.add_mul, Nat.mul_add, Nat.one_mul, Nat.mul_one]
        have : 2 * wh * (2 * wh) = 4 * (wh * wh) := by rw [Nat.mul_mul_mul_comm]
        omega
      have h5 : wh ≤ wh * wh := by
        by_cases h0 : wh = 0
        · subst h0; exact Nat.zero_le _
        · exact Nat.le_mul_of_pos_left wh (by omega)
      omega
    generalize 2 * wh + (wh * wh != n).toNat = Q at *
    have hxa : 4 * (m * 2 ^ e) * 2 ^ low k ≤ mag k.format c * mag k.format c := by
      rw [h2]
      have : 4 * mag k.format (rung k.format x) * 2 ^ low k ≤ 4 * a * 2 ^ low k := Nat.mul_le_mul_right _ (Nat.mul_le_mul_left 4 hx.le)
      omega
    rw [low_eq] at *
    generalize low k = D at *
    generalize mag k.format c = C at *
    have hex : 2 * ((-(D : Int) + (e : Int) - (more : Int)) / 2 - 1 - -(D : Int)).toNat + more + 2 = e + D + 2 * (-(D : Int) - ((-(D : Int) + (e : Int) - (more : Int)) / 2 - 1)).toNat := by omega
    generalize ((-(D : Int) + (e : Int) - (more : Int)) / 2 - 1 - -(D : Int)).toNat = up at *
    generalize (-(D : Int) - ((-(D : Int) + (e : Int) - (more : Int)) / 2 - 1)).toNat = dn at *
    refine Nat.mul_self_le_mul_self_iff.1 ?_
    have p4 : 0 < 4 := by omega
    refine Nat.le_of_mul_le_mul_right ?_ (Nat.two_pow_pos (more + 2))
    have s1 : Q * 2 ^ up * (Q * 2 ^ up) * 2 ^ (more + 2) = Q * Q * 2 ^ (2 * up + more + 2) := by
      rw [show 2 * up + more + 2 = up + up + (more + 2) by omega, Nat.pow_add 2 (up + up), Nat.pow_add 2 up]
      simp only [Nat.mul_assoc, Nat.mul_left_comm]
    have s2 : C * 2 ^ dn * (C * 2 ^ dn) * 2 ^ (more + 2) = C * C * (2 ^ (2 * dn) * 2 ^ more * 4) := by
      rw [show 2 * dn = dn + dn by omega, Nat.pow_add 2 dn, Nat.pow_add 2 more]
      simp only [Nat.mul_assoc, Nat.mul_left_comm]
    have s3 : 16 * n * 2 ^ (e + D + 2 * dn) = 4 * (m * 2 ^ e) * 2 ^ D * (2 ^ (2 * dn) * 2 ^ more * 4) := by
      rw [← hn, Nat.pow_add 2 (e + D), Nat.pow_add 2 e]
      have : (16 : Nat) = 4 * 4 := rfl
      rw [this]
      simp only [Nat.mul_assoc, Nat.mul_left_comm, Nat.mul_comm]
    rw [s1, s2, hex]
    refine Nat.le_trans (Nat.mul_le_mul_right _ hQ) ?_
    rw [s3]
    exact Nat.mul_le_mul_right _ hxa

/-- A 64-bit number that is not too great narrows to a 32-bit one. -/
theorem narrow_ok {b n : Nat} (h : Lim .f64 n b) (hn : n ≤ 2 ^ 1174) : fover .f64 b .f32 = false := by
  have l1 : Ieee.single.leastPlace = -149 := by decide
  have l2 : Ieee.double.leastPlace = -1074 := by decide
  obtain ⟨m, e, h1, h2, _, _⟩ := read_fin Ieee.double b h.fin
  unfold fover
  rw [show FloatKind.f64.format.read b = _ from h1]
  have hc : (227 * 2 ^ 23 : Nat) < Ieee.single.infRung := by decide
  have hm : mag Ieee.single (227 * 2 ^ 23) = 2 ^ 23 * 2 ^ 226 := by decide
  have hL := write_lim .f32 (sgn Ieee.double b) m (Ieee.double.leastPlace + e) (227 * 2 ^ 23) hc (by
    show m * 2 ^ (Ieee.double.leastPlace + (e : Int) - Ieee.single.leastPlace).toNat ≤ mag Ieee.single (227 * 2 ^ 23) * 2 ^ (Ieee.single.leastPlace - (Ieee.double.leastPlace + (e : Int))).toNat
    rw [hm, l1, l2, ← Nat.pow_add]
    have hle : m * 2 ^ e ≤ 2 ^ 1174 := by rw [h2]; exact Nat.le_trans h.le hn
    by_cases he : 925 ≤ e
    · rw [show (-1074 + (e : Int) - -149).toNat = e - 925 by omega, show (-149 - (-1074 + (e : Int))).toNat = 0 by omega, Nat.pow_zero, Nat.mul_one]
      refine Nat.le_of_mul_le_mul_right ?_ (Nat.two_pow_pos 925)
      rw [Nat.mul_assoc, ← Nat.pow_add, ← Nat.pow_add, Nat.sub_add_cancel he]
      exact hle
    · rw [show (-1074 + (e : Int) - -149).toNat = 0 by omega, show (-149 - (-1074 + (e : Int))).toNat = 925 - e by omega, Nat.pow_zero, Nat.mul_one]
      refine Nat.le_of_mul_le_mul_right ?_ (Nat.two_pow_pos e)
      rw [← Nat.pow_add, ← Nat.pow_add, show 23 + 226 + (925 - e) + e = 1174 by omega]
      exact hle)
  have hf := hL.fin
  obtain ⟨m', e', h3, _⟩ := read_fin Ieee.single _ hf
  show (Ieee.single.read (Ieee.single.write (.number (sgn Ieee.double b) m (Ieee.double.leastPlace + e)))).isInfinity = false
  rw [show Ieee.single.read (Ieee.single.write (.number (sgn Ieee.double b) m (Ieee.double.leastPlace + e))) = _ from h3]
  rfl

/-- The rung whose magnitude is a power of two. -/
theorem mag_pow64 (e : Nat) : mag FloatKind.f64.format ((e + 1) * 2 ^ 52) = 2 ^ (52 + e) := by
  have h := magB_comb (2 ^ 52) e (2 ^ 52) (Nat.two_pow_pos _) (by omega) (.inr (Nat.le_refl _))
  rw [Nat.pow_add, Nat.add_mul, Nat.one_mul]
  exact h
theorem lt_inf64 (e : Nat) (h : e ≤ 2045) : (e + 1) * 2 ^ 52 < FloatKind.f64.format.infRung := by
  have e1 : FloatKind.f64.format.infRung = 2047 * 2 ^ 52 := by decide
  rw [e1]
  exact Nat.mul_lt_mul_of_pos_right (by omega) (Nat.two_pow_pos _)

/-- A finite 32-bit number as a 64-bit one. -/
theorem wid_lim {x : Nat} (h : rung Ieee.single x < Ieee.single.infRung) : Lim .f64 (2 ^ 1202) (fwid x) := by
  have hM := Ieee.double.infRung_lt
  obtain ⟨c, c1, c2, c3⟩ := wid_fin h
  have er : rung FloatKind.f64.format (fwid x) = c := by rw [c2]; exact rung_word Ieee.double _ c (by omega)
  refine ⟨by rw [er]; exact c1, ?_⟩
  rw [er, show mag FloatKind.f64.format c = _ from c3]
  have h1 : mag Ieee.single (rung Ieee.single x) ≤ mag Ieee.single Ieee.single.infRung := magB_le _ (binade_pos _) (Nat.le_of_lt h)
  have h2 : mag Ieee.single Ieee.single.infRung = 2 ^ 277 := by
    have h := magB_comb (2 ^ 23) 254 (2 ^ 23) (Nat.two_pow_pos _) (by omega) (.inr (Nat.le_refl _))
    rw [show (2 : Nat) ^ 277 = 2 ^ 23 * 2 ^ 254 from (Nat.pow_add 2 23 254).symm ▸ rfl, ← h]
    exact congrArg (mag Ieee.single) (by decide)
  rw [h2] at h1
  have := Nat.mul_le_mul_right (2 ^ 925) h1
  rw [← Nat.pow_add] at this
  exact this

theorem narrow_nan {b : Nat} (h : isN .f64 b = true) : fover .f64 b .f32 = false := by
  obtain ⟨s, t, hr⟩ := read_nan h
  unfold fover
  rw [hr]
theorem narrow_inf {b : Nat} (h : rung Ieee.double b = Ieee.double.infRung) : fover .f64 b .f32 = false := by
  unfold fover
  rw [show FloatKind.f64.format.read b = _ from read_inf Ieee.double (okF .f64) b h]

/-- The root of a 32-bit number narrows. -/
theorem root_ok {x r1 r2 : Nat} (h1 : Same .f64 r1 (fwid x)) (h2 : Same .f64 r2 (fsqrt .f64 r1)) : fover .f64 r2 .f32 = false := by
  have h3 : Same .f64 r2 (fsqrt .f64 (fwid x)) := by rw [← h1.sqrt]; exact h2
  cases hn : isN .f64 (fsqrt .f64 (fwid x)) with
  | true => exact narrow_nan (h3.isN.trans hn)
  | false =>
    rw [h3.eq hn]
    cases hx : isN .f32 x with
    | true =>
      obtain ⟨s, t, hr⟩ := read_nan (wid_nan hx)
      rw [fsqrt_eq] at hn
      unfold Ieee.Format.sqrt at hn
      rw [hr] at hn
      simp [Ieee.Datum.root, isN_nanb] at hn
    | false =>
      rcases Nat.lt_or_eq_of_le (rung_le hx) with hf | hf
      · have hl := wid_lim hf
        have hs : sgn FloatKind.f64.format (fwid x) = false ∨ rung FloatKind.f64.format (fwid x) = 0 := by
          obtain ⟨m, e, g1, g2, _, g3⟩ := read_fin FloatKind.f64.format (fwid x) hl.fin
          cases hsg : sgn FloatKind.f64.format (fwid x) with
          | false => exact .inl rfl
          | true =>
            rw [fsqrt_eq] at hn
            unfold Ieee.Format.sqrt at hn
            rw [g1, hsg] at hn
            unfold Ieee.Datum.root at hn
            by_cases hm : m = 0
            · right
              subst hm
              rw [Nat.zero_mul] at g2
              have h0 : mag FloatKind.f64.format 0 = 0 := by decide
              exact mag_inj _ (by rw [← g2, h0])
            · simp [hm, isN_nanb] at hn
        have := sqrt_lim .f64 ((1088 + 1) * 2 ^ 52) (lt_inf64 1088 (by omega)) hl hs (by
          rw [mag_pow64, show low .f64 = 1074 by decide, show (4 : Nat) = 2 ^ 2 from rfl, ← Nat.pow_add, ← Nat.pow_add, ← Nat.pow_add]
          exact Nat.pow_le_pow_right (by omega) (by omega))
        rw [mag_pow64] at this
        exact narrow_ok this (Nat.pow_le_pow_right (by omega) (by omega))
      · have e := wid_inf hf
        have hM := Ieee.double.infRung_lt
        have hr : FloatKind.f64.format.read (fwid x) = .infinity (sgn Ieee.single x) := by
          rw [e, show FloatKind.f64.format.read (Ieee.double.word (sgn Ieee.single x) Ieee.double.infRung) = _ from read_inf Ieee.double (okF .f64) _ (rung_word _ _ _ hM), sgn_word _ _ _ hM]
        rw [fsqrt_eq] at hn ⊢
        unfold Ieee.Format.sqrt at hn ⊢
        rw [hr] at hn ⊢
        unfold Ieee.Datum.root at hn ⊢
        cases hs : sgn Ieee.single x with
        | true => rw [hs] at hn; simp [isN_nanb] at hn
        | false => exact narrow_inf (by decide)

end Go.Proofs.YtpjhgfeibkldmaaGreatDoor

namespace Go.Proofs.YtpjhgfeibkldmaaGreatDoor
open Go
set_option linter.unusedVariables false
set_option linter.unusedSimpArgs false
set_option exponentiation.threshold 3000

def finB (k : FloatKind) (x : Nat) : Bool := decide (rung k.format x < k.format.infRung)

theorem fin_num {k : FloatKind} {x : Nat} (h : finB k x = true) : isN k x = false := by
  unfold finB at h
  rw [isN_eq]; simp only [decide_eq_false_iff_not]
  simp only [decide_eq_true_eq] at h
  omega

theorem nan_finB {k : FloatKind} {x : Nat} (h : isN k x = true) : finB k x = false := by
  cases hf : finB k x with
  | false => rfl
  | true => rw [fin_num hf] at h; cases h

theorem Same.finB {k : FloatKind} {x y : Nat} (h : Same k x y) : finB k x = finB k y := by
  cases hy : Go.Proofs.YtpjhgfeibkldmaaGreatDoor.isN k y with
  | false => rw [h.eq hy]
  | true => rw [nan_finB hy, nan_finB (h.isN.trans hy)]

theorem zero_sval (k : FloatKind) : sval k.format 0 = 0 := by cases k <;> decide
theorem zero_num (k : FloatKind) : isN k 0 = false := by cases k <;> decide

theorem signed_not (s : Bool) (m e : Nat) : Ieee.signed s m e + Ieee.signed (!s) m e = 0 := by
  unfold Ieee.signed
  cases s
  · simp; omega
  · simp; omega

theorem fsub_self (k : FloatKind) (x : Nat) (h : finB k x = true) : fsub k x x = 0 := by
  have hx : rung k.format x < k.format.infRung := by simpa [finB] using h
  obtain ⟨m, e, h1, _⟩ := read_fin k.format x hx
  rw [fsub_eq]
  unfold Ieee.Format.sub
  rw [h1]
  simp only [Ieee.Datum.opposite, Ieee.Datum.sum]
  rw [signed_not]
  cases sgn k.format x <;> cases k <;> simp [Ieee.Format.write, Ieee.Format.nearest, Ieee.Format.word]

theorem fsub_inf (k : FloatKind) (x : Nat) (h : rung k.format x = k.format.infRung) : isN k (fsub k x x) = true := by
  rw [fsub_eq]
  unfold Ieee.Format.sub
  rw [read_inf _ (okF k) x h]
  have : Ieee.Datum.sum (.infinity (sgn k.format x)) (Ieee.Datum.opposite (.infinity (sgn k.format x))) = none := by
    simp [Ieee.Datum.opposite, Ieee.Datum.sum]
  rw [this]
  exact isN_nanb k

theorem fsub_nan (k : FloatKind) (x y : Nat) (h : isN k x = true) : isN k (fsub k x y) = true := by
  rw [fsub_eq]
  obtain ⟨s, t, hr⟩ := read_nan h
  unfold Ieee.Format.sub
  rw [hr, sum_nan_left]
  exact isN_nanb k

theorem sub_self_cmp {k : FloatKind} {x r : Nat} (h : Same k r (fsub k x x)) : (k.format.order r 0 == some .eq) = finB k x := by
  cases hf : finB k x with
  | true =>
    have e := fsub_self k x hf
    rw [e] at h
    rw [h.eq (zero_num k), eql_num (zero_num k) (zero_num k)]; simp
  | false =>
    have hn : isN k (fsub k x x) = true := by
      cases hx : isN k x with
      | true => exact fsub_nan k x x hx
      | false =>
        refine fsub_inf k x ?_
        have h1 := rung_le hx
        have h2 : ¬ rung k.format x < k.format.infRung := by simpa [finB] using hf
        omega
    rw [order_nan_l (h.isN.trans hn)]; rfl

theorem sub_self_cmp' {k : FloatKind} {x r : Nat} (h : Same k r (fsub k x x)) : (k.format.order r 0 != some .eq) = !finB k x := by
  rw [bne, sub_self_cmp h]

/-! ### The absolute value of a 64-bit number. -/
theorem rung_abs (x : Nat) : rung Ieee.double (x % 2 ^ 63) = rung Ieee.double x := by
  have e : Ieee.double.signWeight = 2 ^ 63 := by decide
  unfold rung; rw [e]; exact Nat.mod_mod _ _
theorem sgn_abs (x : Nat) : sgn Ieee.double (x % 2 ^ 63) = false := by
  have e : Ieee.double.signWeight = 2 ^ 63 := by decide
  have : x % 2 ^ 63 / 2 ^ 63 = 0 := Nat.div_eq_of_lt (Nat.mod_lt _ (Nat.two_pow_pos _))
  unfold sgn; rw [e, this]; rfl
theorem isN_abs (x : Nat) : isN .f64 (x % 2 ^ 63) = isN .f64 x := by
  rw [isN_eq, isN_eq]; exact congrArg (fun r => decide (Ieee.double.infRung < r)) (rung_abs x)
theorem sval_abs (x : Nat) : sval Ieee.double (x % 2 ^ 63) = (mag Ieee.double (rung Ieee.double x) : Int) := by
  rw [sval_eq, sgn_abs, rung_abs]; rfl

def infB (x : Nat) : Bool := decide (rung Ieee.double x = Ieee.double.infRung)

theorem abs_gtr_max (x : Nat) : (FloatKind.f64.format.order (x % 2 ^ 63) 9218868437227405311 == some .gt) = infB x := by
  cases hn : isN .f64 x with
  | true =>
    rw [order_nan_l ((isN_abs x).trans hn)]
    have h := hn
    rw [isN_eq] at h
    have h1 : Ieee.double.infRung < rung Ieee.double x := of_decide_eq_true h
    have : ¬ rung Ieee.double x = Ieee.double.infRung := by omega
    simp [infB, this]
  | false =>
    have hle : rung Ieee.double x ≤ Ieee.double.infRung := rung_le hn
    have hmax : isN .f64 9218868437227405311 = false := by decide
    rw [gtr_num ((isN_abs x).trans hn) hmax]
    have e1 : sval FloatKind.f64.format (x % 2 ^ 63) = (mag Ieee.double (rung Ieee.double x) : Int) := sval_abs x
    have e2 : sval FloatKind.f64.format 9218868437227405311 = (mag Ieee.double (Ieee.double.infRung - 1) : Int) := by decide
    rw [e1, e2]
    unfold infB
    rw [decide_eq_decide]
    have hp : 0 < Ieee.double.infRung := by decide
    constructor
    · intro h
      have := lt_of_magB_lt Ieee.double.binade (binade_pos _) (show magB Ieee.double.binade (Ieee.double.infRung - 1) < magB Ieee.double.binade (rung Ieee.double x) from Int.ofNat_lt.1 h)
      omega
    · intro h
      rw [h]
      exact Int.ofNat_lt.2 (magB_lt Ieee.double.binade (binade_pos _) (by omega))

theorem fin_eq (x : Nat) : finB .f64 x = (!isN .f64 x && !infB x) := by
  unfold finB infB
  rw [isN_eq]
  show decide (rung Ieee.double x < Ieee.double.infRung) = (!decide (Ieee.double.infRung < rung Ieee.double x) && !decide (rung Ieee.double x = Ieee.double.infRung))
  rw [Bool.eq_iff_iff]
  simp
  omega

theorem wid_finB (x : Nat) : finB .f64 (fwid x) = finB .f32 x := by
  cases hn : isN .f32 x with
  | true => rw [nan_finB hn, nan_finB (wid_nan hn)]
  | false =>
    have hM := Ieee.double.infRung_lt
    rcases Nat.lt_or_eq_of_le (rung_le hn) with h1 | h1
    · obtain ⟨c, c1, c2, _⟩ := wid_fin h1
      have e1 : finB .f32 x = true := by simp only [finB, decide_eq_true_eq]; exact h1
      have e2 : finB .f64 (fwid x) = true := by
        simp only [finB, decide_eq_true_eq]
        rw [c2, show rung FloatKind.f64.format (Ieee.double.word (sgn Ieee.single x) c) = c from rung_word Ieee.double _ c (by omega)]
        exact c1
      rw [e1, e2]
    · have e1 : finB .f32 x = false := by
        simp only [finB, decide_eq_false_iff_not]; omega
      have e2 : finB .f64 (fwid x) = false := by
        simp only [finB, decide_eq_false_iff_not]
        rw [wid_inf h1, show rung FloatKind.f64.format (Ieee.double.word (sgn Ieee.single x) Ieee.double.infRung) = Ieee.double.infRung from rung_word Ieee.double _ _ hM]
        exact Nat.lt_irrefl _
      rw [e1, e2]

/-! ### Subnormal numbers. -/
def subB (x : Nat) : Bool := decide (0 < rung Ieee.single x ∧ rung Ieee.single x < 2 ^ 23)

theorem neq_zero (x : Nat) : (FloatKind.f32.format.order x 0 != some .eq) = decide (0 < rung Ieee.single x) := by
  cases hn : isN .f32 x with
  | true =>
    rw [order_nan_l hn]
    rw [isN_eq] at hn
    have h1 : Ieee.single.infRung < rung Ieee.single x := of_decide_eq_true hn
    have : 0 < rung Ieee.single x := by omega
    simp [this]
  | false =>
    rw [bne, eql_num hn (zero_num .f32), zero_sval]
    have h0 : mag Ieee.single 0 = 0 := by decide
    by_cases hz : rung Ieee.single x = 0
    · have : sval FloatKind.f32.format x = 0 := by
        rw [sval_eq, show rung FloatKind.f32.format x = 0 from hz, show mag FloatKind.f32.format 0 = 0 from h0]; simp
      simp [this, hz]
    · have hm := magB_lt Ieee.single.binade (binade_pos _) (Nat.pos_of_ne_zero hz)
      have hm' : 0 < mag Ieee.single (rung Ieee.single x) := by unfold mag; omega
      have : ¬ sval FloatKind.f32.format x = 0 := by
        rw [sval_eq]
        show ¬ ((if sgn Ieee.single x then -(mag Ieee.single (rung Ieee.single x) : Int) else (mag Ieee.single (rung Ieee.single x) : Int)) = 0)
        split <;> omega
      have h3 : 0 < rung Ieee.single x := Nat.pos_of_ne_zero hz
      simp [this, h3]

theorem small_cmp {x r : Nat} (h : Same .f64 r (fwid x)) : (FloatKind.f64.format.order (r % 2 ^ 63) 4039728865751334912 == some .lt) = decide (rung Ieee.single x < 2 ^ 23) := by
  have hcn : isN .f64 4039728865751334912 = false := by decide
  have hcv : sval FloatKind.f64.format 4039728865751334912 = ((2 ^ 23 * 2 ^ 925 : Nat) : Int) := by decide
  cases hn : isN .f32 x with
  | true =>
    rw [order_nan_l ((isN_abs r).trans (h.isN.trans (wid_nan hn)))]
    rw [isN_eq] at hn
    have h1 : Ieee.single.infRung < rung Ieee.single x := of_decide_eq_true hn
    have h2 : Ieee.single.infRung = 255 * 2 ^ 23 := by decide
    have : ¬ rung Ieee.single x < 2 ^ 23 := by omega
    simp [this]
  | false =>
    have hr := h.eq (wid_notnan hn)
    subst hr
    rw [lss_num ((isN_abs _).trans (wid_notnan hn)) hcn, hcv, show sval FloatKind.f64.format (fwid x % 2 ^ 63) = _ from sval_abs _, decide_eq_decide]
    have hM := Ieee.double.infRung_lt
    rw [Int.ofNat_lt]
    rcases Nat.lt_or_eq_of_le (rung_le hn) with h1 | h1
    · obtain ⟨c, c1, c2, c3⟩ := wid_fin h1
      rw [c2, rung_word _ _ _ (by omega), c3]
      have hmag : ∀ r, r < 2 ^ 23 → mag Ieee.single r = r := by
        intro r hr
        unfold mag magB
        exact if_pos hr
      have hc : mag Ieee.single (2 ^ 23) = 2 ^ 23 := by decide
      constructor
      · intro hlt
        have h5 := Nat.lt_of_mul_lt_mul_right hlt
        rw [← hc] at h5
        exact lt_of_magB_lt _ (binade_pos _) h5
      · intro hlt
        rw [hmag _ hlt]
        exact Nat.mul_lt_mul_of_pos_right hlt (Nat.two_pow_pos _)
    · rw [wid_inf h1, rung_word _ _ _ hM]
      have h2 : Ieee.single.infRung = 255 * 2 ^ 23 := by decide
      have h1' : rung Ieee.single x = Ieee.single.infRung := h1
      constructor
      · intro hlt
        exact absurd hlt (by decide)
      · intro hlt
        omega

theorem and_field (x : Nat) : x &&& 2139095040 = x / 2 ^ 23 % 256 * 2 ^ 23 := by
  have e : (2139095040 : Nat) = (2 ^ 8 - 1) <<< 23 := by decide
  rw [e]
  apply Nat.eq_of_testBit_eq
  intro i
  rw [Nat.testBit_and, Nat.testBit_shiftLeft, Nat.testBit_mul_two_pow, Nat.testBit_two_pow_sub_one]
  by_cases hi : 23 ≤ i
  · simp only [hi, decide_true, Bool.true_and]
    rw [show (256 : Nat) = 2 ^ 8 from rfl, Nat.testBit_mod_two_pow, Nat.testBit_div_two_pow, Nat.sub_add_cancel hi, Bool.and_comm]
  · simp [hi]

theorem and_field_zero (x : Nat) (h : x < 2 ^ 32) : (x &&& 2139095040 = 0) ↔ rung Ieee.single x < 2 ^ 23 := by
  have e : Ieee.single.signWeight = 2 ^ 31 := by decide
  rw [and_field]
  unfold rung
  rw [e]
  omega

end Go.Proofs.YtpjhgfeibkldmaaGreatDoor

