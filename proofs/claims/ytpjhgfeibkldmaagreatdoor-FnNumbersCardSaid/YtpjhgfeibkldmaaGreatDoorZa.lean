/- What the reference writes for a whole number is its decimal numeral. Under no condition. -/
import Derived.Test.YtpjhgfeibkldmaaGreatDoorPr
import Derived.Lib.ItoaNum
import Derived.Lib.LazyBuf
import Derived.Lib.Join
import Derived.Lib.ItoaLen
import Derived.Laws.FloatArith
import Derived.Laws.Cover3
import Derived.Deep.Draws
import Derived.Tactics
import Derived.Test.YtpjhgfeibkldmaaGreatDoorChecked
import Derived.Laws.Externs
import Derived.Laws.Cover2
import Derived.KernelRfl
import Derived.Laws.FloatBits
import Derived.Laws.BitsAllLaws
import Derived.RowKit
import Derived.WalkKit
import Derived.WalkLawsBesides
import Derived.WalkSpells
namespace Go.Proofs.YtpjhgfeibkldmaaGreatDoor
open Go Go.RowKit Go.Proofs.YtpjhgfeibkldmaaGreatDoorW.PrintWords
set_option linter.unusedVariables false
set_option linter.unusedSimpArgs false

/-- The digits of a number, as whole numbers. -/
def decI (m : Nat) : List Int := (Lib.decDigits m).map fun b => (b.toNat : Int)
theorem digit_nat (d : Nat) (h : d < 10) : ((UInt8.ofNat (48 + d)).toNat : Int) = 48 + d := by
  have e : (48 + d) % 256 = 48 + d := Nat.mod_eq_of_lt (by omega)
  simp [UInt8.toNat_ofNat, e]
theorem decI_small (m : Nat) (h : m < 10) : decI m = [48 + (m : Int)] := by
  unfold decI; rw [Lib.decDigits, dif_pos h]; simp only [List.map_cons, List.map_nil]; rw [digit_nat m h]
theorem decI_step (m : Nat) (h : ¬ m < 10) : decI m = decI (m / 10) ++ [48 + ((m % 10 : Nat) : Int)] := by
  unfold decI; rw [Lib.decDigits, dif_neg h]; simp only [List.map_append, List.map_cons, List.map_nil]; rw [digit_nat (m % 10) (Nat.mod_lt _ (by decide))]

/-- A sign ahead. -/
def sgnI (x : Int) (L : List Int) : List Int := if x < 0 then [45] ++ L else L

theorem wrap_small (x : Int) (h1 : -9223372036854775808 ≤ x) (h2 : x ≤ 9223372036854775807) : wrap64 x = x := by
  unfold wrap64; rw [Int.emod_eq_of_lt (by omega) (by omega)]; omega
theorem digit_byte (m : Nat) (h : m < 10) : wrap64 (48 + (m : Int)) % 256 = 48 + (m : Int) := by
  rw [wrap_small _ (by omega) (by omega), Int.emod_eq_of_lt (by omega) (by omega)]
theorem digit_byte2 (m : Nat) (h : m < 10) : wrap64 (48 + wrap64 (-(-(m : Int)))) % 256 = 48 + (m : Int) := by
  rw [Int.neg_neg, wrap_small (m : Int) (by omega) (by omega), digit_byte m h]
theorem strOf_dec (m : Nat) : strOfNums (decI m) = ⟨(Lib.decDigits m).toArray⟩ := Lib.Lz.strOfNums_map _
theorem strOf_neg (m : Nat) : strOfNums ([45] ++ decI m) = ⟨(45 :: Lib.decDigits m).toArray⟩ := Lib.Lz.strOfNums_map (45 :: Lib.decDigits m)

/-- A whole number's numeral, as a text. -/
def decT (n : Int) : ByteArray := ⟨(Lib.itoa n).toArray⟩
end Go.Proofs.YtpjhgfeibkldmaaGreatDoor

namespace Go.Proofs.YtpjhgfeibkldmaaGreatDoor
open Go Go.RowKit Go.Proofs.YtpjhgfeibkldmaaGreatDoorW.PrintWords
set_option linter.unusedVariables false
set_option linter.unusedSimpArgs false

/-- A number that is not too great. -/
def smallB (n : Int) : Bool := decide (-1000000000000000 ≤ n ∧ n ≤ 1000000000000000)
/-- A list of few numbers that are not too great. -/
def listB (l : List Int) : Bool := l.all smallB && decide (l.length ≤ 64)
/-- The text of a list. -/
def txtB (l : List Int) : ByteArray := if l = [] then ⟨#[110, 111, 110, 101]⟩ else ⟨(Lib.join (l.map Lib.itoa) [44]).toArray⟩

theorem rd_at (l : List Int) (i : Nat) (h : i < l.length) : rd l (i : Int) = l[i] := by
  unfold rd; rw [Int.toNat_natCast, List.getD_eq_getElem?_getD, List.getElem?_eq_getElem h]; rfl
theorem wrap_nat (i : Nat) (h : i ≤ 4611686018427387904) : wrap64 ((i : Int) + 1) = ((i + 1 : Nat) : Int) := by
  rw [wrap_small _ (by omega) (by omega)]; omega

theorem ba_append (a b : List UInt8) : (⟨a.toArray⟩ : ByteArray) ++ (⟨b.toArray⟩ : ByteArray) = ⟨(a ++ b).toArray⟩ := by
  apply ByteArray.ext; simp [ByteArray.data_append]
theorem ba_size (a : List UInt8) : (⟨a.toArray⟩ : ByteArray).size = a.length := by simp [ByteArray.size]
/-- What ListText returns. -/
def ltB (l : List Int) : ByteArray × Bool := if listB l then (txtB l, true) else (⟨#[]⟩, false)
theorem take_set (l : List Int) (i m : Nat) (h : i + (m + 1) = l.length) : (l.take i ++ List.replicate (m + 1) 0).set i (l[i]'(by omega)) = l.take (i + 1) ++ List.replicate m 0 := by
  have hi : i < l.length := by omega
  rw [List.set_append_right _ _ (by rw [List.length_take]; omega), List.length_take, Nat.min_eq_left (by omega), Nat.sub_self, List.replicate_succ, List.set_cons_zero, List.take_succ_eq_append_getElem hi, List.append_assoc]
  rfl
end Go.Proofs.YtpjhgfeibkldmaaGreatDoor

namespace Go.Proofs.YtpjhgfeibkldmaaGreatDoor
open Go

def isN (k : FloatKind) (b : Nat) : Bool := (k.format.read b).isNaN

/-- One not-a-number for all. -/
def nanb : FloatKind → Nat
  | .f32 => 2143289344
  | .f64 => 9221120237041090560

def cn (k : FloatKind) (b : Nat) : Nat := if isN k b then nanb k else b

theorem isN_nanb (k : FloatKind) : isN k (nanb k) = true := by cases k <;> decide

theorem cn_cn (k : FloatKind) (b : Nat) : cn k (cn k b) = cn k b := by
  unfold cn
  by_cases h : isN k b = true
  · simp [h, isN_nanb]
  · simp [h]

theorem isN_cn (k : FloatKind) (b : Nat) : isN k (cn k b) = isN k b := by
  unfold cn
  by_cases h : isN k b = true
  · simp [h, isN_nanb]
  · simp [h]

/-- Two numbers that are one but for the bits of a not-a-number. -/
structure Same (k : FloatKind) (r s : Nat) : Prop where
  out : cn k r = cn k s

theorem Same.refl (k : FloatKind) (r : Nat) : Same k r r := ⟨rfl⟩
theorem Same.trans {k : FloatKind} {r s t : Nat} (h : Same k r s) (g : Same k s t) : Same k r t := ⟨h.out.trans g.out⟩
theorem Same.symm {k : FloatKind} {r s : Nat} (h : Same k r s) : Same k s r := ⟨h.out.symm⟩
theorem Same.isN {k : FloatKind} {r s : Nat} (h : Same k r s) : isN k r = isN k s := by
  rw [← isN_cn k r, h.out, isN_cn]
theorem Same.eq {k : FloatKind} {r s : Nat} (h : Same k r s) (hn : Go.Proofs.YtpjhgfeibkldmaaGreatDoor.isN k s = false) : r = s := by
  have h1 := h.isN
  have h2 := h.out
  unfold cn at h2
  rw [h1, hn] at h2
  simpa using h2
theorem Same.of_nan {k : FloatKind} {r s : Nat} (hr : Go.Proofs.YtpjhgfeibkldmaaGreatDoor.isN k r = true) (hs : Go.Proofs.YtpjhgfeibkldmaaGreatDoor.isN k s = true) : Same k r s := ⟨by simp [cn, hr, hs]⟩

def padd (k : FloatKind) (x y : Nat) : Nat := (k.format.add x y).getD (nanb k)
def psub (k : FloatKind) (x y : Nat) : Nat := (k.format.sub x y).getD (nanb k)
def pmul (k : FloatKind) (x y : Nat) : Nat := (k.format.mul x y).getD (nanb k)
def pdiv (k : FloatKind) (x y : Nat) : Nat := (k.format.div x y).getD (nanb k)
def psqrt (k : FloatKind) (x : Nat) : Nat := (k.format.sqrt x).getD (nanb k)
/-- A number of one kind as one of another. -/
def pconv (s : FloatKind) (b : Nat) (k : FloatKind) : Nat := if isN s b then nanb k else k.format.write (s.format.read b)

/-- The operations, of numbers whose not-a-numbers have been made one. -/
def fadd (k : FloatKind) (x y : Nat) : Nat := padd k (cn k x) (cn k y)
def fsub (k : FloatKind) (x y : Nat) : Nat := psub k (cn k x) (cn k y)
def fmul (k : FloatKind) (x y : Nat) : Nat := pmul k (cn k x) (cn k y)
def fdiv (k : FloatKind) (x y : Nat) : Nat := pdiv k (cn k x) (cn k y)
def fsqrt (k : FloatKind) (x : Nat) : Nat := psqrt k (cn k x)
def fconv (s : FloatKind) (b : Nat) (k : FloatKind) : Nat := pconv s (cn s b) k

theorem read_nan {k : FloatKind} {b : Nat} (h : isN k b = true) : ∃ s t, k.format.read b = .nan s t := by
  unfold isN at h
  cases hr : k.format.read b <;> simp_all [Ieee.Datum.isNaN]

theorem sum_nan_left (s : Bool) (t : Nat) (d : Ieee.Datum) : Ieee.Datum.sum (.nan s t) d = none := by
  cases d <;> rfl
theorem sum_nan_right (s : Bool) (t : Nat) (d : Ieee.Datum) : Ieee.Datum.sum d (.nan s t) = none := by
  cases d <;> rfl
theorem product_nan_left (s : Bool) (t : Nat) (d : Ieee.Datum) : Ieee.Datum.product (.nan s t) d = none := by
  cases d <;> rfl
theorem product_nan_right (s : Bool) (t : Nat) (d : Ieee.Datum) : Ieee.Datum.product d (.nan s t) = none := by
  cases d <;> rfl
theorem quotient_nan_left (n : Nat) (s : Bool) (t : Nat) (d : Ieee.Datum) : Ieee.Datum.quotient n (.nan s t) d = none := by
  cases d <;> rfl
theorem quotient_nan_right (n : Nat) (s : Bool) (t : Nat) (d : Ieee.Datum) : Ieee.Datum.quotient n d (.nan s t) = none := by
  cases d <;> rfl
theorem order_nan_left (s : Bool) (t : Nat) (d : Ieee.Datum) : Ieee.Datum.order (.nan s t) d = none := by
  cases d <;> rfl
theorem order_nan_right (s : Bool) (t : Nat) (d : Ieee.Datum) : Ieee.Datum.order d (.nan s t) = none := by
  cases d <;> rfl

theorem add_cn (k : FloatKind) (x y : Nat) : k.format.add (cn k x) (cn k y) = k.format.add x y := by
  unfold Ieee.Format.add cn
  obtain ⟨s, t, hn⟩ := read_nan (isN_nanb k)
  by_cases hx : isN k x = true <;> by_cases hy : isN k y = true
  · obtain ⟨_, _, h⟩ := read_nan hx; obtain ⟨_, _, h'⟩ := read_nan hy; simp [hx, hy, hn, h, sum_nan_left]
  · obtain ⟨_, _, h⟩ := read_nan hx; simp [hx, hy, hn, h, sum_nan_left]
  · obtain ⟨_, _, h⟩ := read_nan hy; simp [hx, hy, hn, h, sum_nan_right]
  · simp [hx, hy]
theorem sub_cn (k : FloatKind) (x y : Nat) : k.format.sub (cn k x) (cn k y) = k.format.sub x y := by
  unfold Ieee.Format.sub cn
  obtain ⟨s, t, hn⟩ := read_nan (isN_nanb k)
  by_cases hx : isN k x = true <;> by_cases hy : isN k y = true
  · obtain ⟨_, _, h⟩ := read_nan hx; obtain ⟨_, _, h'⟩ := read_nan hy; simp [hx, hy, hn, h, sum_nan_left]
  · obtain ⟨_, _, h⟩ := read_nan hx; simp [hx, hy, hn, h, sum_nan_left]
  · obtain ⟨_, _, h⟩ := read_nan hy; simp [hx, hy, hn, h, sum_nan_right, Ieee.Datum.opposite]
  · simp [hx, hy]
theorem mul_cn (k : FloatKind) (x y : Nat) : k.format.mul (cn k x) (cn k y) = k.format.mul x y := by
  unfold Ieee.Format.mul cn
  obtain ⟨s, t, hn⟩ := read_nan (isN_nanb k)
  by_cases hx : isN k x = true <;> by_cases hy : isN k y = true
  · obtain ⟨_, _, h⟩ := read_nan hx; obtain ⟨_, _, h'⟩ := read_nan hy; simp [hx, hy, hn, h, product_nan_left]
  · obtain ⟨_, _, h⟩ := read_nan hx; simp [hx, hy, hn, h, product_nan_left]
  · obtain ⟨_, _, h⟩ := read_nan hy; simp [hx, hy, hn, h, product_nan_right]
  · simp [hx, hy]
theorem div_cn (k : FloatKind) (x y : Nat) : k.format.div (cn k x) (cn k y) = k.format.div x y := by
  unfold Ieee.Format.div cn
  obtain ⟨s, t, hn⟩ := read_nan (isN_nanb k)
  by_cases hx : isN k x = true <;> by_cases hy : isN k y = true
  · obtain ⟨_, _, h⟩ := read_nan hx; obtain ⟨_, _, h'⟩ := read_nan hy; simp [hx, hy, hn, h, quotient_nan_left]
  · obtain ⟨_, _, h⟩ := read_nan hx; simp [hx, hy, hn, h, quotient_nan_left]
  · obtain ⟨_, _, h⟩ := read_nan hy; simp [hx, hy, hn, h, quotient_nan_right]
  · simp [hx, hy]
theorem order_cn (k : FloatKind) (x y : Nat) : k.format.order (cn k x) (cn k y) = k.format.order x y := by
  unfold Ieee.Format.order cn
  obtain ⟨s, t, hn⟩ := read_nan (isN_nanb k)
  by_cases hx : isN k x = true <;> by_cases hy : isN k y = true
  · obtain ⟨_, _, h⟩ := read_nan hx; obtain ⟨_, _, h'⟩ := read_nan hy; simp [hx, hy, hn, h, order_nan_left]
  · obtain ⟨_, _, h⟩ := read_nan hx; simp [hx, hy, hn, h, order_nan_left]
  · obtain ⟨_, _, h⟩ := read_nan hy; simp [hx, hy, hn, h, order_nan_right]
  · simp [hx, hy]
theorem sqrt_cn (k : FloatKind) (x : Nat) : k.format.sqrt (cn k x) = k.format.sqrt x := by
  unfold Ieee.Format.sqrt cn
  obtain ⟨s, t, hn⟩ := read_nan (isN_nanb k)
  by_cases hx : isN k x = true
  · obtain ⟨_, _, h⟩ := read_nan hx; simp [hx, hn, h, Ieee.Datum.root]
  · simp [hx]

/-- A comparison, of numbers whose not-a-numbers have been made one. -/
def pord (k : FloatKind) (x y : Nat) : Option Ordering := k.format.order x y
theorem order_pord (k : FloatKind) (x y : Nat) : k.format.order x y = pord k (cn k x) (cn k y) := (order_cn k x y).symm

theorem ret_bool {a b : Bool} (h : a = b) : Ending.returned (.bool a) = .returned (.bool b) := by rw [h]
theorem ret_f {k : FloatKind} {a b : Nat} (h : a = b) : Ending.returned (.float k a) = .returned (.float k b) := by rw [h]
theorem ret_i64 {a b : Int} (h : a = b) : Ending.returned (.int .i64 a) = .returned (.int .i64 b) := by rw [h]

theorem fadd_eq (k : FloatKind) (x y : Nat) : fadd k x y = (k.format.add x y).getD (nanb k) := by unfold fadd padd; rw [add_cn]
theorem fsub_eq (k : FloatKind) (x y : Nat) : fsub k x y = (k.format.sub x y).getD (nanb k) := by unfold fsub psub; rw [sub_cn]
theorem fmul_eq (k : FloatKind) (x y : Nat) : fmul k x y = (k.format.mul x y).getD (nanb k) := by unfold fmul pmul; rw [mul_cn]
theorem fdiv_eq (k : FloatKind) (x y : Nat) : fdiv k x y = (k.format.div x y).getD (nanb k) := by unfold fdiv pdiv; rw [div_cn]
theorem fsqrt_eq (k : FloatKind) (x : Nat) : fsqrt k x = (k.format.sqrt x).getD (nanb k) := by unfold fsqrt psqrt; rw [sqrt_cn]

theorem Same.add {k : FloatKind} {x x' y y' : Nat} (h : Same k x x') (g : Same k y y') : fadd k x y = fadd k x' y' := by unfold fadd; rw [h.out, g.out]
theorem Same.sub {k : FloatKind} {x x' y y' : Nat} (h : Same k x x') (g : Same k y y') : fsub k x y = fsub k x' y' := by unfold fsub; rw [h.out, g.out]
theorem Same.mul {k : FloatKind} {x x' y y' : Nat} (h : Same k x x') (g : Same k y y') : fmul k x y = fmul k x' y' := by unfold fmul; rw [h.out, g.out]
theorem Same.div {k : FloatKind} {x x' y y' : Nat} (h : Same k x x') (g : Same k y y') : fdiv k x y = fdiv k x' y' := by unfold fdiv; rw [h.out, g.out]
theorem Same.sqrt {k : FloatKind} {x x' : Nat} (h : Same k x x') : fsqrt k x = fsqrt k x' := by unfold fsqrt; rw [h.out]
theorem Same.conv {k : FloatKind} {x x' : Nat} (h : Same k x x') (d : FloatKind) : fconv k x d = fconv k x' d := by unfold fconv; rw [h.out]
theorem Same.order {k : FloatKind} {x x' y y' : Nat} (h : Same k x x') (g : Same k y y') : k.format.order x y = k.format.order x' y' := by
  rw [← order_cn k x y, ← order_cn k x' y', h.out, g.out]

/-! ### What is drawn for a not-a-number is one. -/
theorem isN_draw (q : Question) (k : FloatKind) (hq : (∃ x y, q = .nanBits k x y) ∨ (∃ b, q = .nanConv k b)) (t : Nat) : isN k (q.cut t) = true := by
  have key : ∀ r : Nat, (∃ s m, s < 2 ∧ m < 2 ^ k.format.fractionBits - 1 ∧ r = s * k.format.signWeight + k.format.infRung + 1 + m) → isN k r = true := by
    rintro r ⟨s, m, hs, hm, rfl⟩
    have e : (s * k.format.signWeight + k.format.infRung + 1 + m) % k.format.signWeight = k.format.infRung + 1 + m := by
      have h1 := k.format.infRung_add_binade
      have h2 : k.format.binade = 2 ^ k.format.fractionBits := rfl
      rw [Nat.add_assoc, Nat.add_assoc, Nat.mul_comm, Nat.mul_add_mod, ← Nat.add_assoc]
      exact Nat.mod_eq_of_lt (by omega)
    have hb : k.format.binade ≤ k.format.infRung := by cases k <;> decide
    unfold isN Ieee.Format.read
    simp only [e]
    rw [if_neg (by omega), if_neg (by omega), if_neg (by omega)]
    rfl
  refine key _ ?_
  rcases hq with ⟨x, y, rfl⟩ | ⟨b, rfl⟩ <;> cases k
  · exact ⟨t % 2, (t / 2) % (2 ^ 23 - 1), Nat.mod_lt _ (by omega), Nat.mod_lt _ (by decide), by rfl⟩
  · exact ⟨t % 2, (t / 2) % (2 ^ 52 - 1), Nat.mod_lt _ (by omega), Nat.mod_lt _ (by decide), by rfl⟩
  · exact ⟨t % 2, (t / 2) % (2 ^ 23 - 1), Nat.mod_lt _ (by omega), Nat.mod_lt _ (by decide), by rfl⟩
  · exact ⟨t % 2, (t / 2) % (2 ^ 52 - 1), Nat.mod_lt _ (by omega), Nat.mod_lt _ (by decide), by rfl⟩

/-- The bits fit the kind. -/
def Fits (k : FloatKind) (r : Nat) : Prop := r < 2 ^ k.format.width
theorem fits_nanb (k : FloatKind) : Fits k (nanb k) := by cases k <;> (unfold Fits; decide)
theorem fits_write (k : FloatKind) (d : Ieee.Datum) : Fits k (k.format.write d) := k.format.write_lt d
theorem fits_draw (q : Question) (k : FloatKind) (hq : (∃ x y, q = .nanBits k x y) ∨ (∃ b, q = .nanConv k b)) (t : Nat) : Fits k (q.cut t) := by
  have h : ∀ a b : Nat, a < 2 → b < 2 ^ 23 - 1 → a * 2 ^ 31 + 0x7f800000 + 1 + b < 2 ^ 32 := by intro a b h1 h2; omega
  have g : ∀ a b : Nat, a < 2 → b < 2 ^ 52 - 1 → a * 2 ^ 63 + 0x7ff0000000000000 + 1 + b < 2 ^ 64 := by intro a b h1 h2; omega
  unfold Fits
  rcases hq with ⟨x, y, rfl⟩ | ⟨b, rfl⟩ <;> cases k
  · exact h _ _ (Nat.mod_lt _ (by omega)) (Nat.mod_lt _ (by decide))
  · exact g _ _ (Nat.mod_lt _ (by omega)) (Nat.mod_lt _ (by decide))
  · exact h _ _ (Nat.mod_lt _ (by omega)) (Nat.mod_lt _ (by decide))
  · exact g _ _ (Nat.mod_lt _ (by omega)) (Nat.mod_lt _ (by decide))
theorem fits_map (k : FloatKind) {z : Option Ieee.Datum} {r : Nat} (h : z.map k.format.write = some r) : Fits k r := k.format.map_write_lt h

/-! ### The walk's laws: an operation gives a number that is the told one, but for the bits of a not-a-number; some answers have been drawn. -/
def fbin (op : BinOp) (k : FloatKind) (x y : Nat) : Nat :=
  match op with
  | .add => fadd k x y
  | .sub => fsub k x y
  | .mul => fmul k x y
  | .quo => fdiv k x y
  | _ => 0

def isArith : BinOp → Bool
  | .add | .sub | .mul | .quo => true
  | _ => false

section
variable {P : Program} {ops : Array Oper} {Q : Exit → Act → World → Prop} {a : Act} {w : World} {rest : List Oper} {o : Oper}

theorem run_farith (op : BinOp) (hop : isArith op = true) (k : FloatKind) (x y : Nat) (w : World) :
    ∃ r n, (Op.floatArith op k x y).run P w = .ok (.float k r) (w.drewN n) ∧ Same k r (fbin op k x y) ∧ Fits k r := by
  have key : ∀ (z : Option Nat) (s : Sem Value), (∀ r, z = some r → Fits k r) → (∀ r, z = some r → s = pure (.float k r)) → (z = none → s = (do pure (Value.float k (← choose (.nanBits k x y))))) →
      ∃ (r n : Nat), s.run P w = Result.ok (Value.float k r) (w.drewN n) ∧ Same k r (z.getD (nanb k)) ∧ Fits k r := by
    intro z s h0 h1 h2
    cases z with
    | some r => exact ⟨r, 0, by rw [h1 r rfl]; simp [World.drewN_zero], Same.refl _ _, h0 r rfl⟩
    | none =>
      refine ⟨(Question.nanBits k x y).cut (w.tape w.drawn (.nanBits k x y)), 1, ?_, Same.of_nan (isN_draw _ k (.inl ⟨x, y, rfl⟩) _) (isN_nanb k), fits_draw _ k (.inl ⟨x, y, rfl⟩) _⟩
      rw [h2 rfl]
      simp [choose, Sem.run, Question.forced, World.drewN]
  cases op <;> simp only [isArith, Bool.false_eq_true] at hop
  · simp only [fbin, fadd_eq]; exact key _ _ (fun r h => fits_map k h) (fun r h => by simp [Op.floatArith, h]) (fun h => by simp [Op.floatArith, h])
  · simp only [fbin, fsub_eq]; exact key _ _ (fun r h => fits_map k h) (fun r h => by simp [Op.floatArith, h]) (fun h => by simp [Op.floatArith, h])
  · simp only [fbin, fmul_eq]; exact key _ _ (fun r h => fits_map k h) (fun r h => by simp [Op.floatArith, h]) (fun h => by simp [Op.floatArith, h])
  · simp only [fbin, fdiv_eq]; exact key _ _ (fun r h => fits_map k h) (fun r h => by simp [Op.floatArith, h]) (fun h => by simp [Op.floatArith, h])

theorem wp_farith {K : Act → World → Prop} (op : BinOp) (ty yt : TypeId) (X Y : Operand) (ho : o.op = .binOp op ty X Y yt) (hop : isArith op = true)
    (k : FloatKind) (x y : Nat) (hx : a.eval X = .float k x) (hy : a.eval Y = .float k y)
    (h : ∀ r n, Same k r (fbin op k x y) → Fits k r → K (a.put o.dst (.float k r)) (w.drewN n)) : o.wp P a w K Q := by
  obtain ⟨r, n, h1, h2, h3⟩ := run_farith (P := P) op hop k x y w
  have e : (execOp a.eval o).run P w = .ok (.value (.float k r)) (w.drewN n) := by
    unfold execOp
    rw [ho]
    have hb : binOp op ty (.float k x) (.float k y) = Op.floatArith op k x y := by cases op <;> simp_all [binOp, isArith]
    simp [hx, hy, eqGuard_at_float, hb, h1]
  unfold Oper.wp
  rw [e]
  exact h r n h2 h3

theorem wpList_farith (hgd : Region.wanted o (yielded ops a.tmps) = true) (op : BinOp) (ty yt : TypeId) (X Y : Operand) (ho : o.op = .binOp op ty X Y yt) (hop : isArith op = true)
    (k : FloatKind) (x y : Nat) (hx : a.eval X = .float k x) (hy : a.eval Y = .float k y)
    (h : ∀ r n, Same k r (fbin op k x y) → Fits k r → wpList P ops Q rest (a.put o.dst (.float k r)) (w.drewN n)) : wpList P ops Q (o :: rest) a w :=
  wpList_step fun _ hK => by rw [if_pos hgd]; exact wp_farith op ty yt X Y ho hop k x y hx hy fun r n hr hl => hK _ _ (h r n hr hl)

/-- A finite number that is too great for the other kind: there the language leaves the answer open. -/
def fover (s : FloatKind) (b : Nat) (k : FloatKind) : Bool :=
  match s.format.read b with
  | .number g m e => (k.format.read (k.format.write (.number g m e))).isInfinity
  | _ => false

theorem run_fconv (src dst : TypeId) (s : FloatKind) (k : FloatKind) (hne : s ≠ k) (b : Nat) (w : World) (hs : (P.underlying src).isSome = true) (hd : P.underlying dst = some (.float k)) :
    ∃ r n, (convert src dst (.float s b)).run P w = .ok (.float k r) (w.drewN n) ∧ (fover s b k = false → Same k r (fconv s b k)) ∧ Fits k r := by
  obtain ⟨u, hs'⟩ := Option.isSome_iff_exists.1 hs
  have e0 : (convert src dst (.float s b)).run P w = (Conv.floatToFloat s b k).run P w := by
    cases u <;> simp [convert, run_underlying hs', run_underlying hd]
  rw [e0]
  unfold Conv.floatToFloat
  rw [if_neg hne]
  cases hr : s.decode b with
  | nan g t =>
    have hn : isN s b = true := by unfold isN; rw [show s.format.read b = .nan g t from hr]; rfl
    refine ⟨(Question.nanConv k b).cut (w.tape w.drawn (.nanConv k b)), 1, ?_, fun _ => Same.of_nan (isN_draw _ k (.inr ⟨b, rfl⟩) _) ?_, fits_draw _ k (.inr ⟨b, rfl⟩) _⟩
    · simp [choose, Sem.run, Question.forced, World.drewN]
    · unfold fconv pconv; rw [if_pos (by rw [isN_cn]; exact hn)]; exact isN_nanb k
  | infinity g =>
    have hn : isN s b = false := by unfold isN; rw [show s.format.read b = .infinity g from hr]; rfl
    refine ⟨k.encode (.infinity g), 0, by simp [World.drewN_zero], fun _ => ⟨?_⟩, fits_write k _⟩
    unfold fconv pconv cn
    simp only [hn, Bool.false_eq_true, if_false]
    rw [show s.format.read b = .infinity g from hr]; rfl
  | number g m e =>
    have hn : isN s b = false := by unfold isN; rw [show s.format.read b = .number g m e from hr]; rfl
    by_cases ho : (k.decode (k.encode (.number g m e))).isInfinity = true
    · refine ⟨(Question.floatToFloat b).cut (w.tape w.drawn (.floatToFloat b)), 1, ?_, fun hv => ?_, ?_⟩
      · simp [ho, choose, Sem.run, Question.forced, World.drewN]
      · unfold fover at hv
        rw [show s.format.read b = .number g m e from hr] at hv
        exact absurd (show (k.format.read (k.format.write (.number g m e))).isInfinity = true from ho) (by simp [hv])
      · refine Nat.lt_of_lt_of_le (Nat.mod_lt _ (by decide) : _ < 2 ^ 32) ?_
        cases k <;> decide
    · refine ⟨k.encode (.number g m e), 0, by simp [ho, World.drewN_zero], fun _ => ⟨?_⟩, fits_write k _⟩
      unfold fconv pconv cn
      simp only [hn, Bool.false_eq_true, if_false]
      rw [show s.format.read b = .number g m e from hr]; rfl

theorem wp_fconv {K : Act → World → Prop} (src dst : TypeId) (X : Operand) (ho : o.op = .convert src dst X) (s : FloatKind) (b : Nat) (hx : a.eval X = .float s b) (k : FloatKind) (hne : s ≠ k)
    (hs : (P.underlying src).isSome = true) (hd : P.underlying dst = some (.float k))
    (h : ∀ r n, (fover s b k = false → Same k r (fconv s b k)) → Fits k r → K (a.put o.dst (.float k r)) (w.drewN n)) : o.wp P a w K Q := by
  obtain ⟨r, n, h1, h2, h3⟩ := run_fconv (P := P) src dst s k hne b w hs hd
  have e : (execOp a.eval o).run P w = .ok (.value (.float k r)) (w.drewN n) := by
    unfold execOp
    rw [ho]
    simp [hx, h1]
  unfold Oper.wp
  rw [e]
  exact h r n h2 h3

theorem wpList_fconv (hgd : Region.wanted o (yielded ops a.tmps) = true) (src dst : TypeId) (X : Operand) (ho : o.op = .convert src dst X) (s : FloatKind) (b : Nat) (hx : a.eval X = .float s b) (k : FloatKind) (hne : s ≠ k)
    (hs : (P.underlying src).isSome = true) (hd : P.underlying dst = some (.float k))
    (h : ∀ r n, (fover s b k = false → Same k r (fconv s b k)) → Fits k r → wpList P ops Q rest (a.put o.dst (.float k r)) (w.drewN n)) : wpList P ops Q (o :: rest) a w :=
  wpList_step fun _ hK => by rw [if_pos hgd]; exact wp_fconv src dst X ho s b hx k hne hs hd fun r n hr hl => hK _ _ (h r n hr hl)

theorem run_convert_same_float (src dst : TypeId) (k : FloatKind) (b : Nat) (w : World) (hs : (P.underlying src).isSome = true) (hd : P.underlying dst = some (.float k)) :
    (convert src dst (.float k b)).run P w = .ok (.float k b) w := by
  refine run_convert_float_float w src dst k k b b hs hd ?_
  simp [floatToFloatBits]

end

/-! ### The same as equations: what comes of an operation, with what is drawn, as a function of the world. For regions that draw their order. -/
def afv (op : BinOp) (k : FloatKind) (x y : Nat) (w : World) : Nat :=
  match floatBits op k x y with
  | some r => r
  | none => (Question.nanBits k x y).cut (w.tape w.drawn (.nanBits k x y))
def afn (op : BinOp) (k : FloatKind) (x y : Nat) : Nat :=
  match floatBits op k x y with
  | some _ => 0
  | none => 1

theorem fbin_eq (op : BinOp) (hop : isArith op = true) (k : FloatKind) (x y : Nat) : fbin op k x y = (floatBits op k x y).getD (nanb k) := by
  cases op <;> simp only [isArith, Bool.false_eq_true] at hop <;> simp only [fbin, floatBits, fadd_eq, fsub_eq, fmul_eq, fdiv_eq]

theorem cn_afv (op : BinOp) (hop : isArith op = true) (k : FloatKind) (x y : Nat) (w : World) : cn k (afv op k x y w) = cn k (fbin op k x y) := by
  rw [fbin_eq op hop]
  unfold afv
  cases h : floatBits op k x y with
  | some r => rfl
  | none => exact (Same.of_nan (isN_draw _ k (.inl ⟨x, y, rfl⟩) _) (isN_nanb k)).out

theorem fits_afv (op : BinOp) (k : FloatKind) (x y : Nat) (w : World) : Fits k (afv op k x y w) := by
  unfold afv
  cases h : floatBits op k x y with
  | some r =>
    have := floatBits_wf h
    unfold Fits
    cases k <;> (simp only [Lit.wf, decide_eq_true_eq] at this; exact this)
  | none => exact fits_draw _ k (.inl ⟨x, y, rfl⟩) _

theorem run_afv (P : Program) (op : BinOp) (hop : isArith op = true) (t : TypeId) (k : FloatKind) (x y : Nat) (w : World) :
    (binOp op t (.float k x) (.float k y)).run P w = .ok (.float k (afv op k x y w)) (w.drewN (afn op k x y)) := by
  have hb : binOp op t (.float k x) (.float k y) = Op.floatArith op k x y := by cases op <;> simp_all [binOp, isArith]
  rw [hb]
  unfold afv afn
  cases h : floatBits op k x y with
  | some r =>
    cases op <;> simp only [isArith, Bool.false_eq_true] at hop <;> simp only [floatBits] at h <;> simp [Op.floatArith, h, World.drewN_zero]
  | none =>
    cases op <;> simp only [isArith, Bool.false_eq_true] at hop <;> simp only [floatBits] at h <;> simp [Op.floatArith, h, choose, Sem.run, Question.forced, World.drewN]

end Go.Proofs.YtpjhgfeibkldmaaGreatDoor

namespace Go.Proofs.YtpjhgfeibkldmaaGreatDoor
open Go

@[go_sem] theorem ext_float32bits (x : Nat) (w : World) : (callFunc 56 #[.float .f32 x]).run Tryz.prog w = .ok (.value (.int .u32 x)) w := by rw [run_callFunc_extern (e := Extern.MathFloatBits.float32bits) Tryz.func56 (by kernel_rfl) (by kernel_rfl) (by kernel_rfl) (by kernel_rfl)]; rfl
@[go_sem] theorem ext_float64bits (x : Nat) (w : World) : (callFunc 84 #[.float .f64 x]).run Tryz.prog w = .ok (.value (.int .u64 x)) w := by rw [run_callFunc_extern (e := Extern.MathFloatBits.float64bits) Tryz.func84 (by kernel_rfl) (by kernel_rfl) (by kernel_rfl) (by kernel_rfl)]; rfl
@[go_sem] theorem ext_float32frombits (x : Int) (w : World) : (callFunc 55 #[.int .u32 x]).run Tryz.prog w = .ok (.value (.float .f32 x.toNat)) w := by rw [run_callFunc_extern (e := Extern.MathFloatBits.float32frombits) Tryz.func55 (by kernel_rfl) (by kernel_rfl) (by kernel_rfl) (by kernel_rfl)]; rfl
@[go_sem] theorem ext_float64frombits (x : Int) (w : World) : (callFunc 83 #[.int .u64 x]).run Tryz.prog w = .ok (.value (.float .f64 x.toNat)) w := by rw [run_callFunc_extern (e := Extern.MathFloatBits.float64frombits) Tryz.func83 (by kernel_rfl) (by kernel_rfl) (by kernel_rfl) (by kernel_rfl)]; rfl

theorem run_sqrt (P : Program) (x : Nat) (w : World) : ∃ r n, (Extern.MathSqrt.sqrt #[.float .f64 x]).run P w = .ok (.float .f64 r) (w.drewN n) ∧ Same .f64 r (fsqrt .f64 x) ∧ Fits .f64 r := by
  rw [fsqrt_eq]
  have e : Extern.MathSqrt.sqrt #[.float .f64 x] = (match FloatKind.f64.format.sqrt x with
    | some r => pure (.float .f64 r)
    | none => do pure (.float .f64 (← choose (.nanBits .f64 x x)))) := rfl
  rw [e]
  cases h : FloatKind.f64.format.sqrt x with
  | some r => exact ⟨r, 0, by simp [World.drewN_zero], Same.refl _ _, fits_map .f64 h⟩
  | none =>
    refine ⟨(Question.nanBits .f64 x x).cut (w.tape w.drawn (.nanBits .f64 x x)), 1, ?_, Same.of_nan (isN_draw _ .f64 (.inl ⟨x, x, rfl⟩) _) (isN_nanb .f64), fits_draw _ .f64 (.inl ⟨x, x, rfl⟩) _⟩
    simp [choose, Sem.run, Question.forced, World.drewN]

theorem ext_sqrt (x : Nat) (w : World) : ∃ r n, (callFunc 71 #[.float .f64 x]).run Tryz.prog w = .ok (.value (.float .f64 r)) (w.drewN n) ∧ Same .f64 r (fsqrt .f64 x) ∧ Fits .f64 r := by obtain ⟨r, n, h, hs⟩ := run_sqrt Tryz.prog x w; exact ⟨r, n, by rw [run_callFunc_extern (e := Extern.MathSqrt.sqrt) Tryz.func71 (by kernel_rfl) (by kernel_rfl) (by kernel_rfl) (by kernel_rfl), h]; rfl, hs⟩

end Go.Proofs.YtpjhgfeibkldmaaGreatDoor

namespace Go.Proofs.YtpjhgfeibkldmaaGreatDoor
open Ieee

theorem binade_pos (f : Format) : 0 < f.binade := Nat.two_pow_pos _

/-- The magnitude of a rung, in units of the least place; B: rungs to one binade. -/
def magB (B r : Nat) : Nat := if r < B then r else (B + r % B) * 2 ^ (r / B - 1)
def mag (f : Format) (r : Nat) : Nat := magB f.binade r

def rung (f : Format) (b : Nat) : Nat := b % f.signWeight
def sgn (f : Format) (b : Nat) : Bool := b / f.signWeight % 2 == 1

theorem magB_comb (B e k : Nat) (hB : 0 < B) (hk : k ≤ 2 * B) (h : e = 0 ∨ B ≤ k) : magB B (e * B + k) = k * 2 ^ e := by
  unfold magB
  have hmul : ∀ q t, t < B → (q * B + t) / B = q ∧ (q * B + t) % B = t := by
    intro q t ht
    rw [Nat.mul_comm q B, Nat.mul_add_div hB, Nat.mul_add_mod, Nat.div_eq_of_lt ht, Nat.mod_eq_of_lt ht]
    exact ⟨rfl, rfl⟩
  by_cases h1 : k < B
  · have he : e = 0 := by omega
    subst he
    simp [h1]
  · by_cases h2 : k < 2 * B
    · obtain ⟨t, rfl⟩ : ∃ t, k = B + t := ⟨k - B, by omega⟩
      have e1 : e * B + (B + t) = (e + 1) * B + t := by rw [Nat.add_mul]; omega
      have hge : ¬ ((e + 1) * B + t < B) := by
        have : B ≤ (e + 1) * B := Nat.le_mul_of_pos_left B (by omega)
        omega
      obtain ⟨hd, hm⟩ := hmul (e + 1) t (by omega)
      rw [e1, if_neg hge, hd, hm, Nat.add_sub_cancel]
    · have hk2 : k = 2 * B := by omega
      subst hk2
      have e1 : e * B + 2 * B = (e + 2) * B + 0 := by rw [Nat.add_mul]; omega
      have hge : ¬ ((e + 2) * B + 0 < B) := by
        have : 2 * B ≤ (e + 2) * B := Nat.mul_le_mul_right B (by omega)
        omega
      obtain ⟨hd, hm⟩ := hmul (e + 2) 0 hB
      rw [e1, if_neg hge, hd, hm]
      show (B + 0) * 2 ^ (e + 1) = 2 * B * 2 ^ e
      rw [Nat.pow_succ, Nat.add_zero, Nat.mul_comm (2 ^ e) 2, ← Nat.mul_assoc, Nat.mul_comm B 2]

/-- Each rung is e binades and k more. -/
theorem rung_form (B r : Nat) (hB : 0 < B) : ∃ e k, r = e * B + k ∧ k < 2 * B ∧ (e = 0 ∨ B ≤ k) := by
  by_cases h : r < B
  · exact ⟨0, r, by omega, by omega, .inl rfl⟩
  · have h1 : 0 < r / B := Nat.div_pos (by omega) hB
    refine ⟨r / B - 1, B + r % B, ?_, ?_, .inr (by omega)⟩
    · have h2 := Nat.div_add_mod r B
      obtain ⟨q, hq⟩ : ∃ q, r / B = q + 1 := ⟨r / B - 1, by omega⟩
      rw [hq, Nat.mul_add, Nat.mul_one, Nat.mul_comm B q] at h2
      rw [hq, Nat.add_sub_cancel]
      omega
    · have := Nat.mod_lt r hB
      omega

theorem magB_succ (B r : Nat) (hB : 0 < B) : magB B r < magB B (r + 1) := by
  obtain ⟨e, k, rfl, h1, h2⟩ := rung_form B r hB
  rw [magB_comb B e k hB (by omega) h2, show e * B + k + 1 = e * B + (k + 1) from rfl, magB_comb B e (k + 1) hB (by omega) (by omega), Nat.add_mul]
  have := Nat.two_pow_pos e
  omega

theorem magB_lt (B : Nat) (hB : 0 < B) {r s : Nat} (h : r < s) : magB B r < magB B s := by
  induction h with
  | refl => exact magB_succ B r hB
  | step _ ih => exact Nat.lt_trans ih (magB_succ B _ hB)

theorem magB_le (B : Nat) (hB : 0 < B) {r s : Nat} (h : r ≤ s) : magB B r ≤ magB B s := by
  rcases Nat.lt_or_eq_of_le h with h | h
  · exact Nat.le_of_lt (magB_lt B hB h)
  · rw [h]; exact Nat.le_refl _

theorem le_of_magB_le (B : Nat) (hB : 0 < B) {r s : Nat} (h : magB B r ≤ magB B s) : r ≤ s := by
  refine Nat.not_lt.1 fun hlt => ?_
  have := magB_lt B hB hlt
  omega

theorem lt_of_magB_lt (B : Nat) (hB : 0 < B) {r s : Nat} (h : magB B r < magB B s) : r < s := by
  refine Nat.not_le.1 fun hle => ?_
  have := magB_le B hB hle
  omega

theorem mag_inj (f : Format) {r s : Nat} (h : mag f r = mag f s) : r = s :=
  Nat.le_antisymm (le_of_magB_le _ (binade_pos f) (Nat.le_of_eq h)) (le_of_magB_le _ (binade_pos f) (Nat.le_of_eq h.symm))

/-- A finite word, read. -/
theorem read_fin (f : Format) (b : Nat) (h : rung f b < f.infRung) :
    ∃ m e : Nat, f.read b = .number (sgn f b) m (f.leastPlace + e) ∧ m * 2 ^ e = mag f (rung f b) ∧ m < 2 * f.binade ∧ rung f b = e * f.binade + m := by
  have hB := binade_pos f
  unfold Format.read
  unfold rung at h ⊢
  unfold sgn
  by_cases h1 : b % f.signWeight < f.binade
  · refine ⟨b % f.signWeight, 0, ?_, ?_, by omega, by omega⟩
    · simp [h1]
    · simp [mag, magB, h1]
  · have h3 : 0 < b % f.signWeight / f.binade := Nat.div_pos (by omega) hB
    refine ⟨f.binade + b % f.signWeight % f.binade, b % f.signWeight / f.binade - 1, ?_, ?_, ?_, ?_⟩
    · simp [h1, h]
    · simp [mag, magB, h1]
    · have := Nat.mod_lt (b % f.signWeight) hB; omega
    · have h2 := Nat.div_add_mod (b % f.signWeight) f.binade
      obtain ⟨q, hq⟩ : ∃ q, b % f.signWeight / f.binade = q + 1 := ⟨b % f.signWeight / f.binade - 1, by omega⟩
      rw [hq, Nat.mul_add, Nat.mul_one, Nat.mul_comm f.binade q] at h2
      rw [hq, Nat.add_sub_cancel]
      omega

theorem read_inf (f : Format) (hf : f.binade ≤ f.infRung) (b : Nat) (h : rung f b = f.infRung) : f.read b = .infinity (sgn f b) := by
  unfold Format.read
  unfold rung at h
  unfold sgn
  have hle : ¬ (f.infRung < f.binade) := by omega
  simp [hle, h]

theorem read_nan' (f : Format) (hf : f.binade ≤ f.infRung) (b : Nat) (h : f.infRung < rung f b) : f.read b = .nan (sgn f b) (rung f b - f.infRung) := by
  unfold Format.read
  unfold rung at h ⊢
  unfold sgn
  have h1 : ¬ (b % f.signWeight < f.binade) := by omega
  have h2 : ¬ (b % f.signWeight < f.infRung) := by omega
  have h3 : ¬ (b % f.signWeight = f.infRung) := by omega
  simp [h1, h2, h3]

/-! ### Cutting to the nearest. -/
theorem cut_even (s : Bool) (n drop : Nat) : ∃ more, Toward.even.cut s n drop = n / 2 ^ drop + more ∧ more ≤ 1 ∧
    (more = 1 → 2 ^ drop ≤ 2 * (n % 2 ^ drop)) ∧ (more = 0 → 2 * (n % 2 ^ drop) ≤ 2 ^ drop) := by
  unfold Toward.cut
  have hp := Nat.two_pow_pos drop
  by_cases hd : drop ≤ n.log2 + 2
  · simp only [Nat.min_eq_left hd, Nat.one_shiftLeft]
    generalize hg : (2 ^ drop : Nat) = g at *
    generalize n % g = r at *
    generalize n / g = l at *
    by_cases h1 : g < 2 * r
    · exact ⟨1, by simp [h1], by omega, fun _ => by omega, fun h => by omega⟩
    · by_cases h2 : g = 2 * r ∧ l % 2 = 1
      · exact ⟨1, by simp [h2.1, h2.2], by omega, fun _ => by omega, fun h => by omega⟩
      · refine ⟨0, ?_, by omega, fun h => by omega, fun _ => by omega⟩
        have : ¬ (g = 2 * r) ∨ ¬ (l % 2 = 1) := by omega
        rcases this with h3 | h3 <;> simp [h1, h3]
  · have hlt : n < 2 ^ (n.log2 + 1) := Nat.lt_log2_self
    have hm : min drop (n.log2 + 2) = n.log2 + 2 := Nat.min_eq_right (by omega)
    have hle : 2 ^ (n.log2 + 2) ≤ 2 ^ drop := Nat.pow_le_pow_right (by omega) (by omega)
    have h2 : 2 ^ (n.log2 + 2) = 2 * 2 ^ (n.log2 + 1) := by rw [Nat.pow_succ, Nat.mul_comm]
    simp only [hm, Nat.one_shiftLeft]
    generalize (2 ^ (n.log2 + 2) : Nat) = g at *
    generalize (2 ^ (n.log2 + 1) : Nat) = g' at *
    generalize (2 ^ drop : Nat) = d at *
    have e1 : n / g = 0 := Nat.div_eq_of_lt (by omega)
    have e2 : n % g = n := Nat.mod_eq_of_lt (by omega)
    have e3 : n / d = 0 := Nat.div_eq_of_lt (by omega)
    have e4 : n % d = n := Nat.mod_eq_of_lt (by omega)
    rw [e1, e2, e3, e4]
    refine ⟨0, ?_, by omega, fun h => by omega, fun _ => by omega⟩
    have h5 : ¬ (g < 2 * n) := by omega
    have h6 : ¬ (g = 2 * n) := by omega
    simp [h5]

/-- WHAT ROUNDING FINDS. 'up', 'dn': the place of the number against the least place. The rung is e binades and k more; k units of the binade are the number, cut to the nearest. -/
theorem nearest_core (f : Format) (neg : Bool) (n : Nat) (place : Int) (hn : n ≠ 0) :
    ∃ e k0 more, f.nearest neg n place = f.word neg (min (e * f.binade + (k0 + more)) f.infRung) ∧ more ≤ 1 ∧ k0 < 2 * f.binade ∧ (e = 0 ∨ f.binade ≤ k0) ∧
      k0 * 2 ^ e * 2 ^ (f.leastPlace - place).toNat ≤ n * 2 ^ (place - f.leastPlace).toNat ∧
      n * 2 ^ (place - f.leastPlace).toNat < (k0 + 1) * 2 ^ e * 2 ^ (f.leastPlace - place).toNat ∧
      (more = 1 → (2 * k0 + 1) * 2 ^ e * 2 ^ (f.leastPlace - place).toNat ≤ 2 * (n * 2 ^ (place - f.leastPlace).toNat)) ∧
      (more = 0 → 2 * (n * 2 ^ (place - f.leastPlace).toNat) ≤ (2 * k0 + 1) * 2 ^ e * 2 ^ (f.leastPlace - place).toNat) := by
  unfold Format.nearest
  rw [if_neg hn]
  have hB : f.binade = 2 ^ f.fractionBits := rfl
  generalize hfb : f.fractionBits = fb at *
  generalize hL : f.leastPlace = L at *
  have hl1 : 2 ^ n.log2 ≤ n := Nat.log2_self_le hn
  have hl2 : n < 2 ^ (n.log2 + 1) := Nat.lt_log2_self
  generalize n.log2 = l at *
  dsimp only
  -- what is kept, in general
  have gen : ∀ last : Int, L ≤ last → (n * 2 ^ (place - last).toNat) / 2 ^ (last - place).toNat < 2 * f.binade →
      ((last - L).toNat = 0 ∨ f.binade ≤ (n * 2 ^ (place - last).toNat) / 2 ^ (last - place).toNat) →
      ∃ e k0 more, f.word neg (min ((last - L).toNat * f.binade + Toward.even.cut neg (n <<< (place - last).toNat) (last - place).toNat) f.infRung) = f.word neg (min (e * f.binade + (k0 + more)) f.infRung) ∧ more ≤ 1 ∧ k0 < 2 * f.binade ∧ (e = 0 ∨ f.binade ≤ k0) ∧
      k0 * 2 ^ e * 2 ^ (L - place).toNat ≤ n * 2 ^ (place - L).toNat ∧
      n * 2 ^ (place - L).toNat < (k0 + 1) * 2 ^ e * 2 ^ (L - place).toNat ∧
      (more = 1 → (2 * k0 + 1) * 2 ^ e * 2 ^ (L - place).toNat ≤ 2 * (n * 2 ^ (place - L).toNat)) ∧
      (more = 0 → 2 * (n * 2 ^ (place - L).toNat) ≤ (2 * k0 + 1) * 2 ^ e * 2 ^ (L - place).toNat) := by
    intro last hlast hk hb
    obtain ⟨more, hc, hm, hm1, hm0⟩ := cut_even neg (n <<< (place - last).toNat) (last - place).toNat
    rw [hc]
    rw [Nat.shiftLeft_eq] at *
    have hex : (place - L).toNat + (last - place).toNat = (place - last).toNat + (last - L).toNat + (L - place).toNat := by omega
    generalize (place - L).toNat = up at *
    generalize (last - place).toNat = drop at *
    generalize (place - last).toNat = up' at *
    generalize (last - L).toNat = e at *
    generalize (L - place).toNat = dn at *
    refine ⟨e, _, more, rfl, hm, hk, hb, ?_⟩
    have hdm := Nat.div_add_mod (n * 2 ^ up') (2 ^ drop)
    have hr := Nat.mod_lt (n * 2 ^ up') (Nat.two_pow_pos drop)
    generalize n * 2 ^ up' / 2 ^ drop = k0 at *
    generalize n * 2 ^ up' % 2 ^ drop = r at *
    have hpd := Nat.two_pow_pos drop
    have e2 : n * 2 ^ up * 2 ^ drop = n * 2 ^ up' * (2 ^ e * 2 ^ dn) := by
      rw [Nat.mul_assoc, ← Nat.pow_add, hex, Nat.pow_add, Nat.pow_add, Nat.mul_assoc, Nat.mul_assoc]
    have hed : 0 < 2 ^ e * 2 ^ dn := Nat.mul_pos (Nat.two_pow_pos _) (Nat.two_pow_pos _)
    rw [← hdm] at e2
    generalize (2 ^ drop : Nat) = g at *
    rw [Nat.mul_assoc k0, Nat.mul_assoc (k0 + 1), Nat.mul_assoc (2 * k0 + 1)]
    generalize 2 ^ e * 2 ^ dn = x at *
    generalize n * 2 ^ up = v at *
    refine ⟨?_, ?_, ?_, ?_⟩
    · refine Nat.le_of_mul_le_mul_right ?_ hpd
      rw [e2, Nat.add_mul, Nat.mul_comm g k0, Nat.mul_right_comm k0 g x]
      exact Nat.le_add_right _ _
    · refine Nat.lt_of_mul_lt_mul_right (a := g) ?_
      rw [e2]
      have : g * k0 + r < (k0 + 1) * g := by rw [Nat.add_mul, Nat.mul_comm g k0]; omega
      have := Nat.mul_lt_mul_of_pos_right this hed
      rw [Nat.mul_right_comm] 
      exact this
    · intro hmo
      have h3 := hm1 hmo
      refine Nat.le_of_mul_le_mul_right ?_ hpd
      rw [Nat.mul_assoc 2 v g, e2, Nat.mul_right_comm, ← Nat.mul_assoc 2]
      refine Nat.mul_le_mul_right x ?_
      rw [Nat.add_mul, Nat.mul_assoc 2 k0, Nat.mul_comm k0 g]
      omega
    · intro hmo
      have h3 := hm0 hmo
      refine Nat.le_of_mul_le_mul_right ?_ hpd
      rw [Nat.mul_assoc 2 v g, e2, Nat.mul_right_comm, ← Nat.mul_assoc 2]
      refine Nat.mul_le_mul_right x ?_
      rw [Nat.add_mul, Nat.mul_assoc 2 k0, Nat.mul_comm k0 g]
      omega
  by_cases hc : L < place + l - fb
  · have hmax : max (place + l - fb) L = place + l - fb := by omega
    rw [hmax]
    refine gen _ (by omega) ?_ (.inr ?_)
    · rw [hB]
      by_cases h1 : fb ≤ l
      · rw [show (place - (place + l - fb)).toNat = 0 by omega, show (place + l - fb - place).toNat = l - fb by omega, Nat.pow_zero, Nat.mul_one]
        refine (Nat.div_lt_iff_lt_mul (Nat.two_pow_pos _)).2 ?_
        rw [Nat.mul_assoc, ← Nat.pow_add, show fb + (l - fb) = l by omega]
        rw [Nat.pow_succ] at hl2; omega
      · rw [show (place - (place + l - fb)).toNat = fb - l by omega, show (place + l - fb - place).toNat = 0 by omega, Nat.pow_zero, Nat.div_one]
        have := Nat.mul_lt_mul_of_pos_right hl2 (Nat.two_pow_pos (fb - l))
        rw [← Nat.pow_add, show l + 1 + (fb - l) = fb + 1 by omega, Nat.pow_succ] at this
        omega
    · rw [hB]
      by_cases h1 : fb ≤ l
      · rw [show (place - (place + l - fb)).toNat = 0 by omega, show (place + l - fb - place).toNat = l - fb by omega, Nat.pow_zero, Nat.mul_one]
        refine (Nat.le_div_iff_mul_le (Nat.two_pow_pos _)).2 ?_
        rw [← Nat.pow_add, show fb + (l - fb) = l by omega]
        exact hl1
      · rw [show (place - (place + l - fb)).toNat = fb - l by omega, show (place + l - fb - place).toNat = 0 by omega, Nat.pow_zero, Nat.div_one]
        have := Nat.mul_le_mul_right (2 ^ (fb - l)) hl1
        rw [← Nat.pow_add, show l + (fb - l) = fb by omega] at this
        exact this
  · have hmax : max (place + l - fb) L = L := by omega
    rw [hmax]
    refine gen _ (by omega) ?_ (.inl (by omega))
    rw [hB]
    by_cases h1 : L ≤ place
    · rw [show (L - place).toNat = 0 by omega, Nat.pow_zero, Nat.div_one]
      have h3 := Nat.mul_lt_mul_of_pos_right hl2 (Nat.two_pow_pos (place - L).toNat)
      rw [← Nat.pow_add] at h3
      have h4 : 2 ^ (l + 1 + (place - L).toNat) ≤ 2 ^ (fb + 1) := Nat.pow_le_pow_right (by omega) (by omega)
      rw [Nat.pow_succ] at h4
      omega
    · rw [show (place - L).toNat = 0 by omega, Nat.pow_zero, Nat.mul_one]
      refine (Nat.div_lt_iff_lt_mul (Nat.two_pow_pos _)).2 ?_
      have h4 : 2 ^ (l + 1) ≤ 2 ^ (fb + 1 + (L - place).toNat) := Nat.pow_le_pow_right (by omega) (by omega)
      rw [Nat.pow_add 2 (fb + 1), Nat.pow_succ (n := 2) (m := fb), Nat.mul_comm (2 ^ fb) 2] at h4
      exact Nat.lt_of_lt_of_le hl2 h4

/-- THE LAW OF ROUNDING: the rung found lies below each rung whose magnitude is not less than the number, and above each whose magnitude is not greater. -/
theorem nearest_rung (f : Format) (neg : Bool) (n : Nat) (place : Int) : ∃ R, f.nearest neg n place = f.word neg R ∧ R ≤ f.infRung ∧
    (∀ c, c ≤ f.infRung → n * 2 ^ (place - f.leastPlace).toNat ≤ mag f c * 2 ^ (f.leastPlace - place).toNat → R ≤ c) ∧
    (∀ c, c ≤ f.infRung → mag f c * 2 ^ (f.leastPlace - place).toNat ≤ n * 2 ^ (place - f.leastPlace).toNat → c ≤ R) := by
  have hB := binade_pos f
  by_cases hn : n = 0
  · subst hn
    refine ⟨0, by simp [Format.nearest], Nat.zero_le _, fun c _ _ => Nat.zero_le _, fun c _ h => ?_⟩
    refine Nat.not_lt.1 fun hc => ?_
    have h1 := magB_lt f.binade hB hc
    have h2 : 0 < mag f c := by unfold mag; omega
    have := Nat.mul_pos h2 (Nat.two_pow_pos (f.leastPlace - place).toNat)
    omega
  · obtain ⟨e, k0, more, h0, hm, hk, he, h1, h2, h3, h4⟩ := nearest_core f neg n place hn
    refine ⟨_, h0, Nat.min_le_right _ _, ?_, ?_⟩
    · intro c _ hv
      have hd := Nat.two_pow_pos (f.leastPlace - place).toNat
      generalize 2 ^ (f.leastPlace - place).toNat = d at *
      generalize n * 2 ^ (place - f.leastPlace).toNat = v at *
      have e0 : mag f (e * f.binade + k0) = k0 * 2 ^ e := magB_comb _ _ _ hB (by omega) he
      refine Nat.le_trans (Nat.min_le_left _ _) ?_
      by_cases hmo : more = 1
      · have h5 := h3 hmo
        have h6 : (2 * k0 + 1) * 2 ^ e * d ≤ 2 * mag f c * d := by rw [Nat.mul_assoc 2]; omega
        have h7 := Nat.le_of_mul_le_mul_right h6 hd
        have h8 : mag f (e * f.binade + k0) < mag f c := by
          rw [e0]
          have := Nat.two_pow_pos e
          rw [Nat.add_mul, Nat.mul_assoc] at h7
          omega
        have := lt_of_magB_lt f.binade hB h8
        omega
      · have h6 : mag f (e * f.binade + k0) * d ≤ mag f c * d := by rw [e0]; omega
        have := le_of_magB_le f.binade hB (Nat.le_of_mul_le_mul_right h6 hd)
        omega
    · intro c hc hv
      have hd := Nat.two_pow_pos (f.leastPlace - place).toNat
      generalize 2 ^ (f.leastPlace - place).toNat = d at *
      generalize n * 2 ^ (place - f.leastPlace).toNat = v at *
      have e0 : mag f (e * f.binade + (k0 + 1)) = (k0 + 1) * 2 ^ e := magB_comb _ _ _ hB (by omega) (by omega)
      have h6 : mag f c * d < mag f (e * f.binade + (k0 + 1)) * d := by rw [e0]; omega
      have h7 := lt_of_magB_lt f.binade hB (Nat.lt_of_mul_lt_mul_right h6)
      refine Nat.le_min.2 ⟨by omega, hc⟩

/-- What a rung holds is written as that rung. -/
theorem nearest_exact (f : Format) (neg : Bool) (n : Nat) (place : Int) (c : Nat) (hc : c ≤ f.infRung) (h : n * 2 ^ (place - f.leastPlace).toNat = mag f c * 2 ^ (f.leastPlace - place).toNat) : f.nearest neg n place = f.word neg c := by
  obtain ⟨R, h0, _, h1, h2⟩ := nearest_rung f neg n place
  rw [h0, Nat.le_antisymm (h1 c hc (Nat.le_of_eq h)) (h2 c hc (Nat.le_of_eq h.symm))]

theorem rung_word (f : Format) (s : Bool) (r : Nat) (h : r < f.signWeight) : rung f (f.word s r) = r := by
  unfold rung Format.word
  cases s
  · simpa using Nat.mod_eq_of_lt h
  · simpa using Nat.mod_eq_of_lt h

theorem sgn_word (f : Format) (s : Bool) (r : Nat) (h : r < f.signWeight) : sgn f (f.word s r) = s := by
  have hp : 0 < f.signWeight := Nat.two_pow_pos _
  unfold sgn Format.word
  cases s
  · simp [Nat.div_eq_of_lt h]
  · have : (f.signWeight + r) / f.signWeight = 1 := by
      rw [Nat.add_div_left _ hp, Nat.div_eq_of_lt h]
    simp [this]

theorem word_rung (f : Format) (b : Nat) (h : b < 2 ^ f.width) : f.word (sgn f b) (rung f b) = b := by
  have hp : 0 < f.signWeight := Nat.two_pow_pos _
  have two : 2 ^ f.width = 2 * f.signWeight := by
    unfold Format.width Format.signWeight
    rw [Nat.add_assoc, Nat.add_comm 1, Nat.pow_succ, Nat.mul_comm]
  have hd : b / f.signWeight < 2 := (Nat.div_lt_iff_lt_mul hp).2 (by omega)
  have hdm := Nat.div_add_mod b f.signWeight
  unfold Format.word sgn rung
  generalize hq : b / f.signWeight = q at *
  have : q = 0 ∨ q = 1 := by omega
  rcases this with rfl | rfl
  · simp; omega
  · simp; omega

/-- The number that a word stands for, in units of the least place; an infinity has the place behind the greatest. -/
def sval (f : Format) (b : Nat) : Int := if sgn f b then -(mag f (rung f b) : Int) else (mag f (rung f b) : Int)

theorem sval_eq (f : Format) (b : Nat) : sval f b = if sgn f b then -(mag f (rung f b) : Int) else (mag f (rung f b) : Int) := rfl

theorem signed_mul (s : Bool) (m e d : Nat) (h : d ≤ e) : signed s m (e - d) * (2 ^ d : Nat) = signed s m e := by
  have h1 : m <<< (e - d) * 2 ^ d = m <<< e := by
    rw [Nat.shiftLeft_eq, Nat.shiftLeft_eq, Nat.mul_assoc, ← Nat.pow_add, Nat.sub_add_cancel h]
  unfold signed
  cases s
  · simp only [Bool.false_eq_true, if_false]; rw [← h1]; simp
  · simp only [if_true]; rw [← h1, Int.neg_mul]; simp

theorem compare_mul (x y : Int) (d : Nat) (hd : 0 < d) : compare (x * d) (y * d) = compare x y := by
  have h1 : (x * d < y * d) ↔ x < y := ⟨fun h => Int.lt_of_mul_lt_mul_right h (by omega), fun h => Int.mul_lt_mul_of_pos_right h (by omega)⟩
  have h2 : (x * d = y * d) ↔ x = y := ⟨fun h => Int.eq_of_mul_eq_mul_right (by omega) h, fun h => by rw [h]⟩
  simp only [compare, compareOfLessAndEq, h1, h2]

theorem order_sval (f : Format) (hf : f.binade ≤ f.infRung) (x y : Nat) (hx : rung f x ≤ f.infRung) (hy : rung f y ≤ f.infRung) : f.order x y = some (compare (sval f x) (sval f y)) := by
  have hB := binade_pos f
  have hpos : ∀ b, rung f b < f.infRung → mag f (rung f b) < mag f f.infRung := fun b h => magB_lt _ hB h
  unfold Format.order
  rcases Nat.lt_or_eq_of_le hx with hx | hx <;> rcases Nat.lt_or_eq_of_le hy with hy | hy
  · obtain ⟨m, e, h1, h2, _, _⟩ := read_fin f x hx
    obtain ⟨n, g, h3, h4, _, _⟩ := read_fin f y hy
    rw [h1, h3]
    unfold Datum.order
    have e1 : (f.leastPlace + (e : Int) - min (f.leastPlace + (e : Int)) (f.leastPlace + (g : Int))).toNat = e - min e g := by omega
    have e2 : (f.leastPlace + (g : Int) - min (f.leastPlace + (e : Int)) (f.leastPlace + (g : Int))).toNat = g - min e g := by omega
    dsimp only
    rw [e1, e2, ← compare_mul _ _ (2 ^ min e g) (Nat.two_pow_pos _), signed_mul _ _ _ _ (Nat.min_le_left _ _), signed_mul _ _ _ _ (Nat.min_le_right _ _)]
    have s1 : signed (sgn f x) m e = sval f x := by unfold signed sval; rw [← h2, Nat.shiftLeft_eq]
    have s2 : signed (sgn f y) n g = sval f y := by unfold signed sval; rw [← h4, Nat.shiftLeft_eq]
    rw [s1, s2]
  · obtain ⟨m, e, h1, h2, _, _⟩ := read_fin f x hx
    rw [h1, read_inf f hf y hy]
    have hp := hpos x hx
    simp only [Datum.order, sval, hy]
    cases sgn f y <;> cases sgn f x <;> simp [compare, compareOfLessAndEq] <;> (repeat' split) <;> first | rfl | omega | (simp; omega)
  · obtain ⟨m, e, h1, h2, _, _⟩ := read_fin f y hy
    rw [h1, read_inf f hf x hx]
    have hp := hpos y hy
    simp only [Datum.order, sval, hx]
    cases sgn f y <;> cases sgn f x <;> simp [compare, compareOfLessAndEq] <;> (repeat' split) <;> first | rfl | omega | (simp; omega)
  · rw [read_inf f hf x hx, read_inf f hf y hy]
    have hp : 0 < mag f f.infRung := by
      have := magB_lt f.binade hB (r := 0) (s := f.infRung) (by omega)
      unfold mag; omega
    simp only [Datum.order, sval, hx, hy]
    cases sgn f y <;> cases sgn f x <;> simp [compare, compareOfLessAndEq] <;> (repeat' split) <;> first | rfl | omega | (simp; omega)

end Go.Proofs.YtpjhgfeibkldmaaGreatDoor

namespace Go.Proofs.YtpjhgfeibkldmaaGreatDoor
open Go
set_option linter.unusedVariables false
set_option linter.unusedSimpArgs false

theorem okF (k : FloatKind) : k.format.binade ≤ k.format.infRung := by cases k <;> decide

theorem isN_eq (k : FloatKind) (b : Nat) : isN k b = decide (k.format.infRung < rung k.format b) := by
  unfold isN
  by_cases h : k.format.infRung < rung k.format b
  · rw [read_nan' _ (okF k) b h]; simp [h, Ieee.Datum.isNaN]
  · by_cases h2 : rung k.format b = k.format.infRung
    · rw [read_inf _ (okF k) b h2]; simp [h, Ieee.Datum.isNaN]
    · obtain ⟨m, e, h3, _⟩ := read_fin k.format b (by omega)
      rw [h3]; simp [h, Ieee.Datum.isNaN]

theorem rung_le {k : FloatKind} {b : Nat} (h : isN k b = false) : rung k.format b ≤ k.format.infRung := by
  rw [isN_eq] at h; simpa using h

theorem order_nan_l {k : FloatKind} {x : Nat} (h : isN k x = true) (y : Nat) : k.format.order x y = none := by
  obtain ⟨s, t, hr⟩ := read_nan h
  unfold Ieee.Format.order; rw [hr]; exact order_nan_left _ _ _
theorem order_nan_r {k : FloatKind} {y : Nat} (h : isN k y = true) (x : Nat) : k.format.order x y = none := by
  obtain ⟨s, t, hr⟩ := read_nan h
  unfold Ieee.Format.order; rw [hr]; exact order_nan_right _ _ _

theorem order_num {k : FloatKind} {x y : Nat} (hx : isN k x = false) (hy : isN k y = false) : k.format.order x y = some (compare (sval k.format x) (sval k.format y)) :=
  order_sval _ (okF k) x y (rung_le hx) (rung_le hy)

theorem eql_num {k : FloatKind} {x y : Nat} (hx : isN k x = false) (hy : isN k y = false) : (k.format.order x y == some .eq) = decide (sval k.format x = sval k.format y) := by
  rw [order_num hx hy]
  by_cases h : sval k.format x < sval k.format y
  · have : ¬ sval k.format x = sval k.format y := by omega
    simp [compare, compareOfLessAndEq, h, this]
  · by_cases h2 : sval k.format x = sval k.format y
    · simp [compare, compareOfLessAndEq, h2]
    · simp [compare, compareOfLessAndEq, h, h2]
theorem lss_num {k : FloatKind} {x y : Nat} (hx : isN k x = false) (hy : isN k y = false) : (k.format.order x y == some .lt) = decide (sval k.format x < sval k.format y) := by
  rw [order_num hx hy]
  by_cases h : sval k.format x < sval k.format y
  · simp [compare, compareOfLessAndEq, h]
  · by_cases h2 : sval k.format x = sval k.format y
    · simp [compare, compareOfLessAndEq, h2]
    · simp [compare, compareOfLessAndEq, h, h2]
theorem gtr_num {k : FloatKind} {x y : Nat} (hx : isN k x = false) (hy : isN k y = false) : (k.format.order x y == some .gt) = decide (sval k.format y < sval k.format x) := by
  rw [order_num hx hy]
  by_cases h : sval k.format x < sval k.format y
  · have : ¬ sval k.format y < sval k.format x := by omega
    simp [compare, compareOfLessAndEq, h, this]
  · by_cases h2 : sval k.format x = sval k.format y
    · simp [compare, compareOfLessAndEq, h2]
    · have : sval k.format y < sval k.format x := by omega
      simp [compare, compareOfLessAndEq, h, h2, this]

/-- 'x != x' asks whether it is a not-a-number. -/
theorem order_self (k : FloatKind) (x : Nat) : (k.format.order x x != some .eq) = isN k x := by
  cases h : isN k x with
  | true => rw [order_nan_l h]; rfl
  | false => rw [bne, eql_num h h]; simp
theorem order_self' (k : FloatKind) (x : Nat) : (k.format.order x x == some .eq) = !isN k x := by
  have := order_self k x
  rw [bne] at this
  rw [← this]; simp

/-! ### A 32-bit number as a 64-bit one. -/
theorem widen_number (s : Bool) (m e : Nat) (hm : m < 2 ^ 24) (he : e ≤ 254) :
    ∃ c, c < Ieee.double.infRung ∧ Ieee.double.nearest s m (Ieee.single.leastPlace + e) = Ieee.double.word s c ∧ mag Ieee.double c = m * 2 ^ (e + 925) := by
  have l1 : Ieee.single.leastPlace = -149 := by decide
  have l2 : Ieee.double.leastPlace = -1074 := by decide
  have hB : Ieee.double.binade = 2 ^ 52 := rfl
  have hM : Ieee.double.infRung = 2047 * 2 ^ 52 := by decide
  by_cases h0 : m = 0
  · subst h0
    refine ⟨0, by decide, by simp [Ieee.Format.nearest], ?_⟩
    simp [mag, magB, hB]
  · have g1 : 2 ^ m.log2 ≤ m := Nat.log2_self_le h0
    have g2 : m < 2 ^ (m.log2 + 1) := Nat.lt_log2_self
    have g3 : m.log2 < 24 := (Nat.log2_lt h0).2 hm
    generalize m.log2 = l at *
    have k1 : 2 ^ 52 ≤ m * 2 ^ (52 - l) := by
      have := Nat.mul_le_mul_right (2 ^ (52 - l)) g1
      rwa [← Nat.pow_add, show l + (52 - l) = 52 by omega] at this
    have k2 : m * 2 ^ (52 - l) ≤ 2 * 2 ^ 52 := by
      have := Nat.mul_le_mul_right (2 ^ (52 - l)) (Nat.le_of_lt g2)
      rw [← Nat.pow_add, show l + 1 + (52 - l) = 53 by omega] at this
      exact this
    have k3 : m * 2 ^ (52 - l) * 2 ^ (e + 925 - (52 - l)) = m * 2 ^ (e + 925) := by
      rw [Nat.mul_assoc, ← Nat.pow_add, show 52 - l + (e + 925 - (52 - l)) = e + 925 by omega]
    have hc : (e + 925 - (52 - l)) * Ieee.double.binade + m * 2 ^ (52 - l) < Ieee.double.infRung := by
      rw [hB, hM]
      generalize m * 2 ^ (52 - l) = K at *
      omega
    have hmag : mag Ieee.double ((e + 925 - (52 - l)) * Ieee.double.binade + m * 2 ^ (52 - l)) = m * 2 ^ (e + 925) := by
      rw [← k3]
      exact magB_comb _ _ _ (binade_pos _) (by rw [hB]; exact k2) (.inr (by rw [hB]; exact k1))
    refine ⟨_, hc, nearest_exact _ s m _ _ (Nat.le_of_lt hc) ?_, hmag⟩
    rw [hmag, l1, l2, show (-149 + (e : Int) - -1074).toNat = e + 925 by omega, show (-1074 - (-149 + (e : Int))).toNat = 0 by omega, Nat.pow_zero, Nat.mul_one]

theorem widen_read (b : Nat) (h : rung Ieee.single b < Ieee.single.infRung) :
    ∃ c, c < Ieee.double.infRung ∧ Ieee.double.write (Ieee.single.read b) = Ieee.double.word (sgn Ieee.single b) c ∧ mag Ieee.double c = mag Ieee.single (rung Ieee.single b) * 2 ^ 925 := by
  obtain ⟨m, e, h1, h2, h3, h4⟩ := read_fin Ieee.single b h
  have hB : Ieee.single.binade = 2 ^ 23 := rfl
  have hM : Ieee.single.infRung = 255 * 2 ^ 23 := by decide
  obtain ⟨c, c1, c2, c3⟩ := widen_number (sgn Ieee.single b) m e (by rw [hB] at h3; omega) (by rw [hB] at h4; rw [hM, h4] at h; omega)
  refine ⟨c, c1, ?_, ?_⟩
  · rw [h1]; exact c2
  · rw [c3, ← h2, Nat.pow_add, Nat.mul_assoc]

/-- A 32-bit number as a 64-bit one. -/
def fwid (b : Nat) : Nat := fconv .f32 b .f64

theorem wid_nan {b : Nat} (h : isN .f32 b = true) : isN .f64 (fwid b) = true := by
  unfold fwid fconv pconv
  rw [if_pos (by rw [isN_cn]; exact h)]
  exact isN_nanb _

theorem wid_num {b : Nat} (h : isN .f32 b = false) : fwid b = Ieee.double.write (Ieee.single.read b) := by
  unfold fwid fconv pconv
  rw [if_neg (by rw [isN_cn, h]; simp)]
  unfold cn
  rw [h]; rfl

theorem wid_fin {b : Nat} (h : rung Ieee.single b < Ieee.single.infRung) :
    ∃ c, c < Ieee.double.infRung ∧ fwid b = Ieee.double.word (sgn Ieee.single b) c ∧ mag Ieee.double c = mag Ieee.single (rung Ieee.single b) * 2 ^ 925 := by
  obtain ⟨c, h1, h2, h3⟩ := widen_read b h
  refine ⟨c, h1, ?_, h3⟩
  rw [wid_num (by rw [isN_eq]; simp only [decide_eq_false_iff_not]; exact Nat.not_lt.2 (Nat.le_of_lt h)), h2]

theorem wid_inf {b : Nat} (h : rung Ieee.single b = Ieee.single.infRung) : fwid b = Ieee.double.word (sgn Ieee.single b) Ieee.double.infRung := by
  have hn : isN .f32 b = false := by
    rw [isN_eq]
    simp only [decide_eq_false_iff_not]
    exact Nat.not_lt.2 (Nat.le_of_eq h)
  rw [wid_num hn, read_inf Ieee.single (okF .f32) b h]
  rfl

theorem isInf_word (f : Ieee.Format) (s : Bool) (c : Nat) (hc : c < f.infRung) : (f.read (f.word s c)).isInfinity = false := by
  have hs := f.infRung_lt
  obtain ⟨m, e, h1, _⟩ := read_fin f (f.word s c) (by rw [rung_word f s c (by omega)]; exact hc)
  rw [h1]; rfl

theorem fover_wid (b : Nat) : fover .f32 b .f64 = false := by
  unfold fover
  by_cases h : rung Ieee.single b < Ieee.single.infRung
  · obtain ⟨m, e, h1, _⟩ := read_fin Ieee.single b h
    obtain ⟨c, c1, c2, _⟩ := widen_read b h
    rw [h1] at c2
    rw [show FloatKind.f32.format.read b = _ from h1]
    show (Ieee.double.read (Ieee.double.write (.number (sgn Ieee.single b) m (Ieee.single.leastPlace + e)))).isInfinity = false
    rw [c2]
    exact isInf_word _ _ _ c1
  · by_cases h2 : rung Ieee.single b = Ieee.single.infRung
    · rw [show FloatKind.f32.format.read b = _ from read_inf _ (okF .f32) b h2]
    · rw [show FloatKind.f32.format.read b = _ from read_nan' Ieee.single (okF .f32) b (by omega)]

section
variable {P : Program} {ops : Array Oper} {Q : Exit → Act → World → Prop} {a : Act} {w : World} {rest : List Oper} {o : Oper}

theorem wpList_fwid (hgd : Region.wanted o (yielded ops a.tmps) = true) (src dst : TypeId) (X : Operand) (ho : o.op = .convert src dst X) (b : Nat) (hx : a.eval X = .float .f32 b)
    (hs : (P.underlying src).isSome = true) (hd : P.underlying dst = some (.float .f64))
    (h : ∀ r n, Same .f64 r (fwid b) → Fits .f64 r → wpList P ops Q rest (a.put o.dst (.float .f64 r)) (w.drewN n)) : wpList P ops Q (o :: rest) a w :=
  wpList_fconv hgd src dst X ho .f32 b hx .f64 (by decide) hs hd fun r n hr hl => h r n (hr (fover_wid b)) hl
end

theorem wid_notnan {b : Nat} (h : isN .f32 b = false) : isN .f64 (fwid b) = false := by
  have hM := Ieee.double.infRung_lt
  rcases Nat.lt_or_eq_of_le (rung_le h) with h1 | h1
  · obtain ⟨c, c1, c2, _⟩ := wid_fin h1
    rw [isN_eq, c2, show rung FloatKind.f64.format (Ieee.double.word (sgn Ieee.single b) c) = c from rung_word Ieee.double _ c (by omega)]
    simp only [decide_eq_false_iff_not]
    exact Nat.not_lt.2 (Nat.le_of_lt c1)
  · rw [isN_eq, wid_inf h1, show rung FloatKind.f64.format (Ieee.double.word (sgn Ieee.single b) Ieee.double.infRung) = Ieee.double.infRung from rung_word Ieee.double _ _ hM]
    simp only [decide_eq_false_iff_not]
    exact Nat.lt_irrefl _

theorem wid_isN (b : Nat) : isN .f64 (fwid b) = isN .f32 b := by
  cases h : isN .f32 b with
  | true => exact wid_nan h
  | false => exact wid_notnan h

theorem wid_word {b : Nat} (h : isN .f32 b = false) : ∃ c, c ≤ Ieee.double.infRung ∧ fwid b = Ieee.double.word (sgn Ieee.single b) c := by
  rcases Nat.lt_or_eq_of_le (rung_le h) with h1 | h1
  · obtain ⟨c, c1, c2, _⟩ := wid_fin h1
    exact ⟨c, Nat.le_of_lt c1, c2⟩
  · exact ⟨_, Nat.le_refl _, wid_inf h1⟩

theorem sgn_big (b : Nat) (h : b < 2 ^ 64) : sgn Ieee.double b = decide (2 ^ 63 ≤ b) := by
  have e : Ieee.double.signWeight = 2 ^ 63 := by decide
  unfold sgn
  rw [e]
  by_cases h1 : 2 ^ 63 ≤ b
  · have : b / 2 ^ 63 = 1 := by omega
    simp [this]; omega
  · have : b / 2 ^ 63 = 0 := by omega
    simp [this]; omega

theorem wid_sgn {b : Nat} (h : isN .f32 b = false) : decide (2 ^ 63 ≤ fwid b) = sgn Ieee.single b := by
  have hM := Ieee.double.infRung_lt
  obtain ⟨c, c1, c2⟩ := wid_word h
  have hf : fwid b < 2 ^ 64 := by
    rw [c2]; exact Ieee.double.word_lt _ (by omega)
  rw [← sgn_big _ hf, c2, sgn_word _ _ _ (by omega)]

theorem abs_bits (x : Nat) (hx : x < 2 ^ 64) : (bits .andNot .u64 (x : Int) 9223372036854775808).toNat = x % 2 ^ 63 := by
  have h := u64_andNot_nat x 9223372036854775808 (by omega) (by omega)
  have h2 : bits .andNot .u64 (x : Int) 9223372036854775808 = bits .andNot .u64 (x : Int) ((9223372036854775808 : Nat) : Int) := rfl
  rw [h2, h, Int.toNat_natCast]
  exact Nat.and_two_pow_sub_one_eq_mod x 63

theorem neg_wrap64 (x : Nat) (hx : x < 2 ^ 64) : decide (RowKit.wrap64 (x : Int) < 0) = decide (2 ^ 63 ≤ x) := by
  rw [decide_eq_decide]
  unfold RowKit.wrap64
  omega

theorem eq_of_sval {k : FloatKind} {a b : Nat} (ha : a < 2 ^ k.format.width) (hb : b < 2 ^ k.format.width) (hs : sgn k.format a = sgn k.format b) (h : sval k.format a = sval k.format b) : a = b := by
  unfold sval at h
  rw [hs] at h
  have hm : mag k.format (rung k.format a) = mag k.format (rung k.format b) := by
    cases hb : sgn k.format b with
    | false => rw [hb] at h; simp only [Bool.false_eq_true, if_false] at h; omega
    | true => rw [hb] at h; simp only [if_true] at h; omega
  rw [← word_rung _ a ha, ← word_rung _ b hb, hs, mag_inj _ hm]

end Go.Proofs.YtpjhgfeibkldmaaGreatDoor

namespace Go.Proofs.YtpjhgfeibkldmaaGreatDoor
open Go
set_option linter.unusedVariables false
set_option linter.unusedSimpArgs false

def bitsOf (x : Nat) : Int := if isN .f32 x then 2143289344 else x

theorem impl_BitsOf (x : Nat) (w : World) (hx : x < 2 ^ 32) :
    Calls Tryz.prog 21 #[.float .f32 x] w fun e w' => e = .returned (.int .i64 (bitsOf x)) ∧ w = w' := by
  have e1 := order_self .f32 x
  by_cases hn : isN .f32 x = true
  · rw [hn] at e1
    have eb : bitsOf x = 2143289344 := by simp [bitsOf, hn]
    rw [eb]
    go_enter Tryz.func21, Tryz.ntmps21
    go_wp2
    go_ret
    exact ⟨rfl, rfl⟩
  · simp only [Bool.not_eq_true] at hn
    rw [hn] at e1
    have eb : bitsOf x = x := by simp [bitsOf, hn]
    rw [eb]
    go_enter Tryz.func21, Tryz.ntmps21
    go_wp2
    go_ret
    exact ⟨rfl, rfl⟩

theorem spec_l01Bits (x : Nat) (w : World) (hx : x < 2 ^ 32) :
    Calls Tryz.prog 70 #[.float .f32 x] w fun e w' => e = .returned (.int .i64 (bitsOf x)) ∧ w = w' := by
  have e1 := order_self .f32 x
  by_cases hn : isN .f32 x = true
  · rw [hn] at e1
    have eb : bitsOf x = 2143289344 := by simp [bitsOf, hn]
    rw [eb]
    go_enter Tryz.func70, Tryz.ntmps70
    go_wp2
    go_ret
    exact ⟨rfl, rfl⟩
  · simp only [Bool.not_eq_true] at hn
    rw [hn] at e1
    have eb : bitsOf x = x := by simp [bitsOf, hn]
    rw [eb]
    go_enter Tryz.func70, Tryz.ntmps70
    go_wp2
    go_ret
    exact ⟨rfl, rfl⟩

theorem math_Signbit (x : Nat) (w : World) (hx : x < 2 ^ 64) :
    Calls Tryz.prog 81 #[.float .f64 x] w fun e w' => e = .returned (.bool (decide (2 ^ 63 ≤ x))) ∧ w = w' := by
  go_enter Tryz.func81, Tryz.ntmps81
  go_wp2
  go_ret
  exact ⟨ret_bool (neg_wrap64 x hx), rfl⟩

theorem math_Abs (x : Nat) (w : World) (hx : x < 2 ^ 64) :
    Calls Tryz.prog 65 #[.float .f64 x] w fun e w' => e = .returned (.float .f64 (x % 2 ^ 63)) ∧ w = w' := by
  go_enter Tryz.func65, Tryz.ntmps65
  go_wp2
  go_ret
  exact ⟨ret_f (abs_bits x hx), rfl⟩

def sameB (a b : Nat) : Bool := bitsOf a == bitsOf b

theorem bitsOf_num {a : Nat} (h : isN .f32 a = false) : bitsOf a = a := by simp [bitsOf, h]
theorem nan_num : isN .f32 2143289344 = true := by decide
theorem sameB_nan_l {a b : Nat} (ha : isN .f32 a = true) (hb : isN .f32 b = false) : sameB a b = false := by
  unfold sameB
  rw [bitsOf_num hb]
  simp only [bitsOf, ha, if_true, beq_eq_false_iff_ne, ne_eq]
  intro h
  have : b = 2143289344 := by omega
  rw [this, nan_num] at hb
  cases hb
theorem sameB_nan_r {a b : Nat} (ha : isN .f32 a = false) (hb : isN .f32 b = true) : sameB a b = false := by
  unfold sameB
  rw [bitsOf_num ha]
  simp only [bitsOf, hb, if_true, beq_eq_false_iff_ne, ne_eq]
  intro h
  have : a = 2143289344 := by omega
  rw [this, nan_num] at ha
  cases ha
theorem sameB_nan {a b : Nat} (ha : isN .f32 a = true) (hb : isN .f32 b = true) : sameB a b = true := by
  simp [sameB, bitsOf, ha, hb]
theorem sameB_ne {a b : Nat} (ha : isN .f32 a = false) (hb : isN .f32 b = false) (h : (FloatKind.f32.format.order a b == some .eq) = false) : sameB a b = false := by
  rw [eql_num ha hb] at h
  simp only [decide_eq_false_iff_not] at h
  unfold sameB
  rw [bitsOf_num ha, bitsOf_num hb]
  simp only [beq_eq_false_iff_ne, ne_eq]
  intro e
  have : a = b := by omega
  exact h (by rw [this])
theorem sameB_eq {a b : Nat} (ha : isN .f32 a = false) (hb : isN .f32 b = false) (la : a < 2 ^ 32) (lb : b < 2 ^ 32) (h : (FloatKind.f32.format.order a b == some .eq) = true) :
    sameB a b = (sgn Ieee.single a == sgn Ieee.single b) := by
  rw [eql_num ha hb] at h
  simp only [decide_eq_true_eq] at h
  unfold sameB
  rw [bitsOf_num ha, bitsOf_num hb]
  by_cases hs : sgn Ieee.single a = sgn Ieee.single b
  · have := eq_of_sval (k := .f32) la lb hs h
    rw [this]; simp
  · have : ¬ a = b := fun e => hs (by rw [e])
    have h2 : ¬ ((a : Int) = b) := by omega
    rw [beq_eq_false_iff_ne.2 h2, beq_eq_false_iff_ne.2 hs]

theorem impl_SameNumber (a b : Nat) (w : World) (la : a < 2 ^ 32) (lb : b < 2 ^ 32) :
    Calls Tryz.prog 60 #[.float .f32 a, .float .f32 b] w fun e w' => ∃ n, e = .returned (.bool (sameB a b)) ∧ w' = w.drewN n := by
  have e1 := order_self .f32 a
  have e2 := order_self .f32 b
  cases ha : isN .f32 a with
  | true =>
    rw [ha] at e1
    cases hb : isN .f32 b with
    | true =>
      rw [hb] at e2
      rw [sameB_nan ha hb]
      go_enter Tryz.func60, Tryz.ntmps60
      go_wp2
      go_ret
      exact ⟨0, rfl, rfl⟩
    | false =>
      rw [hb] at e2
      rw [sameB_nan_l ha hb]
      go_enter Tryz.func60, Tryz.ntmps60
      go_wp2
      go_ret
      exact ⟨0, rfl, rfl⟩
  | false =>
    rw [ha] at e1
    cases hb : isN .f32 b with
    | true =>
      rw [hb] at e2
      rw [sameB_nan_r ha hb]
      go_enter Tryz.func60, Tryz.ntmps60
      go_wp2
      go_ret
      exact ⟨0, rfl, rfl⟩
    | false =>
      rw [hb] at e2
      cases ho : (FloatKind.f32.format.order a b == some .eq) with
      | false =>
        rw [sameB_ne ha hb ho]
        go_enter Tryz.func60, Tryz.ntmps60
        go_wp2
        go_ret
        exact ⟨0, rfl, rfl⟩
      | true =>
        rw [sameB_eq ha hb la lb ho, ← wid_sgn ha, ← wid_sgn hb]
        go_enter Tryz.func60, Tryz.ntmps60
        go_wp2_with (first | (refine wpList_farith rfl _ _ _ _ _ rfl rfl _ _ _ rfl rfl ?_; rintro r n ⟨hr⟩ hl; simp only [fbin] at hr) | (refine wpList_fwid rfl _ _ _ rfl _ rfl (by rw [Tryz.underlying28]; rfl) Tryz.underlying46 ?_; rintro r n ⟨hr⟩ hl) | (go_at_call 81; refine (math_Signbit _ _ hl).mono ?_; rintro e w' ⟨rfl, rfl⟩))
        go_ret
        refine ⟨_, ret_bool ?_, rfl⟩
        rename_i r1 n1 h1 l1
        rw [Same.eq ⟨h1⟩ (wid_notnan ha), Same.eq ⟨hr⟩ (wid_notnan hb)]

theorem spec_SameNumber (a b : Nat) (w : World) (la : a < 2 ^ 32) (lb : b < 2 ^ 32) :
    Calls Tryz.prog 10 #[.float .f32 a, .float .f32 b] w fun e w' => e = .returned (.bool (sameB a b)) ∧ w = w' := by
  go_enter Tryz.func10, Tryz.ntmps10
  go_wp2_with (first | (go_at_call 43; go_in) | (go_at_call 70; refine (spec_l01Bits _ _ (by first | exact la | exact lb)).mono ?_; rintro e w' ⟨rfl, rfl⟩))
  go_ret
  exact ⟨rfl, rfl⟩

end Go.Proofs.YtpjhgfeibkldmaaGreatDoor

namespace Go.Proofs.YtpjhgfeibkldmaaGreatDoor
open Go Go.RowKit Go.Proofs.YtpjhgfeibkldmaaGreatDoorW.PrintWords
set_option linter.unusedVariables false
set_option linter.unusedSimpArgs false

/-- One digit's byte. -/
def hexD (d : Nat) : UInt8 := UInt8.ofNat (if d < 10 then 48 + d else 87 + d)
/-- k digits of a number, the last ones. -/
def hexK : Nat → Nat → List UInt8
  | 0, _ => []
  | k + 1, u => hexK k (u / 16) ++ [hexD (u % 16)]
/-- As few digits as spell a number. -/
def hexL (u : Nat) : List UInt8 :=
  if h : u < 16 then [hexD u] else hexL (u / 16) ++ [hexD (u % 16)]
termination_by u
decreasing_by omega

theorem hexK_len : ∀ (k u : Nat), (hexK k u).length = k
  | 0, _ => rfl
  | k + 1, u => by rw [hexK, List.length_append, hexK_len k]; rfl
theorem hexK_zero : ∀ (k : Nat), hexK k 0 = List.replicate k 48
  | 0 => rfl
  | k + 1 => by
    rw [hexK, Nat.zero_div, hexK_zero k, List.replicate_succ']
    rfl
theorem hexL_pad : ∀ (k u : Nat), u < 16 ^ (k + 1) → (hexL u).length ≤ k + 1 ∧ List.replicate (k + 1 - (hexL u).length) 48 ++ hexL u = hexK (k + 1) u
  | 0, u, h => by
    have hu : u < 16 := by simpa using h
    rw [hexL, dif_pos hu]
    refine ⟨by simp, ?_⟩
    rw [hexK, hexK, Nat.mod_eq_of_lt hu]
    rfl
  | k + 1, u, h => by
    by_cases hu : u < 16
    · rw [hexL, dif_pos hu]
      refine ⟨by simp, ?_⟩
      rw [hexK, Nat.div_eq_of_lt hu, hexK_zero, Nat.mod_eq_of_lt hu]
      rfl
    · obtain ⟨h1, h2⟩ := hexL_pad k (u / 16) (by rw [Nat.pow_succ] at h; omega)
      rw [hexL, dif_neg hu, List.length_append, List.length_singleton]
      refine ⟨by omega, ?_⟩
      rw [hexK, ← h2, List.append_assoc]
      congr 2
      omega
theorem hexL_step (u : Nat) (h : ¬ u < 16) : hexL u = hexL (u / 16) ++ [hexD (u % 16)] := by rw [hexL, dif_neg h]
theorem hexL_last (u : Nat) (h : u < 16) : hexL u = [hexD u] := by rw [hexL, dif_pos h]
/-- The text of a number: the 8 digits of its bits. -/
def hexT (x : Nat) : ByteArray := ⟨(hexK 8 (bitsOf x).toNat).toArray⟩
theorem bitsOf_lt (x : Nat) (h : x < 2 ^ 32) : 0 ≤ bitsOf x ∧ bitsOf x < 4294967296 := by
  unfold bitsOf
  split <;> omega
theorem hexT_size (x : Nat) : (hexT x).size = 8 := by unfold hexT; rw [ba_size, hexK_len]

/-- The text of a list of numbers. -/
def ntxt (xs : List Nat) : ByteArray := if xs = [] then ⟨#[110, 111, 110, 101]⟩ else ⟨(Lib.join (xs.map fun x => (hexT x).data.toList) [44]).toArray⟩
end Go.Proofs.YtpjhgfeibkldmaaGreatDoor

