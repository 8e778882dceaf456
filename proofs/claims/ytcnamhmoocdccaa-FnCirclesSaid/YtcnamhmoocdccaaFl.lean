/- Floating point numbers up to the bits of a not-a-number: the operations of the walk as functions on bits. Under no condition. -/
import Derived.Laws.FloatArith
import Derived.Laws.Cover3
import Derived.Deep.Draws
import Derived.Tactics
namespace Go.Proofs.Ytcnamhmoocdccaa
open Go

def isN (k : FloatKind) (b : Nat) : Bool := (k.format.read b).isNaN

/-- One not-a-number for all. -/
def nanb : FloatKind → Nat
  | .f32 => 2143289344
  | .f64 => 9221120237041090560

def cn (k : FloatKind) (b : Nat) : Nat := if isN k b then nanb k else b

theorem isN_nanb (k : FloatKind) : isN k (nanb k) = true := by cases k <;> decide

theorem cn_cn (k : FloatKind) (b : Nat) : cn k (cn k b) = cn k b := by
  unfold cn
  by_cases h : isN k b = true
  · simp [h, isN_nanb]
  · simp [h]

theorem isN_cn (k : FloatKind) (b : Nat) : isN k (cn k b) = isN k b := by
  unfold cn
  by_cases h : isN k b = true
  · simp [h, isN_nanb]
  · simp [h]

/-- Two numbers that are one but for the bits of a not-a-number. -/
structure Same (k : FloatKind) (r s : Nat) : Prop where
  out : cn k r = cn k s

theorem Same.refl (k : FloatKind) (r : Nat) : Same k r r := ⟨rfl⟩
theorem Same.trans {k : FloatKind} {r s t : Nat} (h : Same k r s) (g : Same k s t) : Same k r t := ⟨h.out.trans g.out⟩
theorem Same.symm {k : FloatKind} {r s : Nat} (h : Same k r s) : Same k s r := ⟨h.out.symm⟩
theorem Same.isN {k : FloatKind} {r s : Nat} (h : Same k r s) : isN k r = isN k s := by
  rw [← isN_cn k r, h.out, isN_cn]
theorem Same.eq {k : FloatKind} {r s : Nat} (h : Same k r s) (hn : Go.Proofs.Ytcnamhmoocdccaa.isN k s = false) : r = s := by
  have h1 := h.isN
  have h2 := h.out
  unfold cn at h2
  rw [h1, hn] at h2
  simpa using h2
theorem Same.of_nan {k : FloatKind} {r s : Nat} (hr : Go.Proofs.Ytcnamhmoocdccaa.isN k r = true) (hs : Go.Proofs.Ytcnamhmoocdccaa.isN k s = true) : Same k r s := ⟨by simp [cn, hr, hs]⟩

def padd (k : FloatKind) (x y : Nat) : Nat := (k.format.add x y).getD (nanb k)
def psub (k : FloatKind) (x y : Nat) : Nat := (k.format.sub x y).getD (nanb k)
def pmul (k : FloatKind) (x y : Nat) : Nat := (k.format.mul x y).getD (nanb k)
def pdiv (k : FloatKind) (x y : Nat) : Nat := (k.format.div x y).getD (nanb k)
def psqrt (k : FloatKind) (x : Nat) : Nat := (k.format.sqrt x).getD (nanb k)
/-- A number of one kind as one of another. -/
def pconv (s : FloatKind) (b : Nat) (k : FloatKind) : Nat := if isN s b then nanb k else k.format.write (s.format.read b)

/-- The operations, of numbers whose not-a-numbers have been made one. -/
def fadd (k : FloatKind) (x y : Nat) : Nat := padd k (cn k x) (cn k y)
def fsub (k : FloatKind) (x y : Nat) : Nat := psub k (cn k x) (cn k y)
def fmul (k : FloatKind) (x y : Nat) : Nat := pmul k (cn k x) (cn k y)
def fdiv (k : FloatKind) (x y : Nat) : Nat := pdiv k (cn k x) (cn k y)
def fsqrt (k : FloatKind) (x : Nat) : Nat := psqrt k (cn k x)
def fconv (s : FloatKind) (b : Nat) (k : FloatKind) : Nat := pconv s (cn s b) k

theorem read_nan {k : FloatKind} {b : Nat} (h : isN k b = true) : ∃ s t, k.format.read b = .nan s t := by
  unfold isN at h
  cases hr : k.format.read b <;> simp_all [Ieee.Datum.isNaN]

theorem sum_nan_left (s : Bool) (t : Nat) (d : Ieee.Datum) : Ieee.Datum.sum (.nan s t) d = none := by
  cases d <;> rfl
theorem sum_nan_right (s : Bool) (t : Nat) (d : Ieee.Datum) : Ieee.Datum.sum d (.nan s t) = none := by
  cases d <;> rfl
theorem product_nan_left (s : Bool) (t : Nat) (d : Ieee.Datum) : Ieee.Datum.product (.nan s t) d = none := by
  cases d <;> rfl
theorem product_nan_right (s : Bool) (t : Nat) (d : Ieee.Datum) : Ieee.Datum.product d (.nan s t) = none := by
  cases d <;> rfl
theorem quotient_nan_left (n : Nat) (s : Bool) (t : Nat) (d : Ieee.Datum) : Ieee.Datum.quotient n (.nan s t) d = none := by
  cases d <;> rfl
theorem quotient_nan_right (n : Nat) (s : Bool) (t : Nat) (d : Ieee.Datum) : Ieee.Datum.quotient n d (.nan s t) = none := by
  cases d <;> rfl
theorem order_nan_left (s : Bool) (t : Nat) (d : Ieee.Datum) : Ieee.Datum.order (.nan s t) d = none := by
  cases d <;> rfl
theorem order_nan_right (s : Bool) (t : Nat) (d : Ieee.Datum) : Ieee.Datum.order d (.nan s t) = none := by
  cases d <;> rfl

theorem add_cn (k : FloatKind) (x y : Nat) : k.format.add (cn k x) (cn k y) = k.format.add x y := by
  unfold Ieee.Format.add cn
  obtain ⟨s, t, hn⟩ := read_nan (isN_nanb k)
  by_cases hx : isN k x = true <;> by_cases hy : isN k y = true
  · obtain ⟨_, _, h⟩ := read_nan hx; obtain ⟨_, _, h'⟩ := read_nan hy; simp [hx, hy, hn, h, sum_nan_left]
  · obtain ⟨_, _, h⟩ := read_nan hx; simp [hx, hy, hn, h, sum_nan_left]
  · obtain ⟨_, _, h⟩ := read_nan hy; simp [hx, hy, hn, h, sum_nan_right]
  · simp [hx, hy]
theorem sub_cn (k : FloatKind) (x y : Nat) : k.format.sub (cn k x) (cn k y) = k.format.sub x y := by
  unfold Ieee.Format.sub cn
  obtain ⟨s, t, hn⟩ := read_nan (isN_nanb k)
  by_cases hx : isN k x = true <;> by_cases hy : isN k y = true
  · obtain ⟨_, _, h⟩ := read_nan hx; obtain ⟨_, _, h'⟩ := read_nan hy; simp [hx, hy, hn, h, sum_nan_left]
  · obtain ⟨_, _, h⟩ := read_nan hx; simp [hx, hy, hn, h, sum_nan_left]
  · obtain ⟨_, _, h⟩ := read_nan hy; simp [hx, hy, hn, h, sum_nan_right, Ieee.Datum.opposite]
  · simp [hx, hy]
theorem mul_cn (k : FloatKind) (x y : Nat) : k.format.mul (cn k x) (cn k y) = k.format.mul x y := by
  unfold Ieee.Format.mul cn
  obtain ⟨s, t, hn⟩ := read_nan (isN_nanb k)
  by_cases hx : isN k x = true <;> by_cases hy : isN k y = true
  · obtain ⟨_, _, h⟩ := read_nan hx; obtain ⟨_, _, h'⟩ := read_nan hy; simp [hx, hy, hn, h, product_nan_left]
  · obtain ⟨_, _, h⟩ := read_nan hx; simp [hx, hy, hn, h, product_nan_left]
  · obtain ⟨_, _, h⟩ := read_nan hy; simp [hx, hy, hn, h, product_nan_right]
  · simp [hx, hy]
theorem div_cn (k : FloatKind) (x y : Nat) : k.format.div (cn k x) (cn k y) = k.format.div x y := by
  unfold Ieee.Format.div cn
  obtain ⟨s, t, hn⟩ := read_nan (isN_nanb k)
  by_cases hx : isN k x = true <;> by_cases hy : isN k y = true
  · obtain ⟨_, _, h⟩ := read_nan hx; obtain ⟨_, _, h'⟩ := read_nan hy; simp [hx, hy, hn, h, quotient_nan_left]
  · obtain ⟨_, _, h⟩ := read_nan hx; simp [hx, hy, hn, h, quotient_nan_left]
  · obtain ⟨_, _, h⟩ := read_nan hy; simp [hx, hy, hn, h, quotient_nan_right]
  · simp [hx, hy]
theorem order_cn (k : FloatKind) (x y : Nat) : k.format.order (cn k x) (cn k y) = k.format.order x y := by
  unfold Ieee.Format.order cn
  obtain ⟨s, t, hn⟩ := read_nan (isN_nanb k)
  by_cases hx : isN k x = true <;> by_cases hy : isN k y = true
  · obtain ⟨_, _, h⟩ := read_nan hx; obtain ⟨_, _, h'⟩ := read_nan hy; simp [hx, hy, hn, h, order_nan_left]
  · obtain ⟨_, _, h⟩ := read_nan hx; simp [hx, hy, hn, h, order_nan_left]
  · obtain ⟨_, _, h⟩ := read_nan hy; simp [hx, hy, hn, h, order_nan_right]
  · simp [hx, hy]
theorem sqrt_cn (k : FloatKind) (x : Nat) : k.format.sqrt (cn k x) = k.format.sqrt x := by
  unfold Ieee.Format.sqrt cn
  obtain ⟨s, t, hn⟩ := read_nan (isN_nanb k)
  by_cases hx : isN k x = true
  · obtain ⟨_, _, h⟩ := read_nan hx; simp [hx, hn, h, Ieee.Datum.root]
  · simp [hx]

/-- A comparison, of numbers whose not-a-numbers have been made one. -/
def pord (k : FloatKind) (x y : Nat) : Option Ordering := k.format.order x y
theorem order_pord (k : FloatKind) (x y : Nat) : k.format.order x y = pord k (cn k x) (cn k y) := (order_cn k x y).symm

theorem ret_bool {a b : Bool} (h : a = b) : Ending.returned (.bool a) = .returned (.bool b) := by rw [h]
theorem ret_f {k : FloatKind} {a b : Nat} (h : a = b) : Ending.returned (.float k a) = .returned (.float k b) := by rw [h]
theorem ret_i64 {a b : Int} (h : a = b) : Ending.returned (.int .i64 a) = .returned (.int .i64 b) := by rw [h]

theorem fadd_eq (k : FloatKind) (x y : Nat) : fadd k x y = (k.format.add x y).getD (nanb k) := by unfold fadd padd; rw [add_cn]
theorem fsub_eq (k : FloatKind) (x y : Nat) : fsub k x y = (k.format.sub x y).getD (nanb k) := by unfold fsub psub; rw [sub_cn]
theorem fmul_eq (k : FloatKind) (x y : Nat) : fmul k x y = (k.format.mul x y).getD (nanb k) := by unfold fmul pmul; rw [mul_cn]
theorem fdiv_eq (k : FloatKind) (x y : Nat) : fdiv k x y = (k.format.div x y).getD (nanb k) := by unfold fdiv pdiv; rw [div_cn]
theorem fsqrt_eq (k : FloatKind) (x : Nat) : fsqrt k x = (k.format.sqrt x).getD (nanb k) := by unfold fsqrt psqrt; rw [sqrt_cn]

theorem Same.add {k : FloatKind} {x x' y y' : Nat} (h : Same k x x') (g : Same k y y') : fadd k x y = fadd k x' y' := by unfold fadd; rw [h.out, g.out]
theorem Same.sub {k : FloatKind} {x x' y y' : Nat} (h : Same k x x') (g : Same k y y') : fsub k x y = fsub k x' y' := by unfold fsub; rw [h.out, g.out]
theorem Same.mul {k : FloatKind} {x x' y y' : Nat} (h : Same k x x') (g : Same k y y') : fmul k x y = fmul k x' y' := by unfold fmul; rw [h.out, g.out]
theorem Same.div {k : FloatKind} {x x' y y' : Nat} (h : Same k x x') (g : Same k y y') : fdiv k x y = fdiv k x' y' := by unfold fdiv; rw [h.out, g.out]
theorem Same.sqrt {k : FloatKind} {x x' : Nat} (h : Same k x x') : fsqrt k x = fsqrt k x' := by unfold fsqrt; rw [h.out]
theorem Same.conv {k : FloatKind} {x x' : Nat} (h : Same k x x') (d : FloatKind) : fconv k x d = fconv k x' d := by unfold fconv; rw [h.out]
theorem Same.order {k : FloatKind} {x x' y y' : Nat} (h : Same k x x') (g : Same k y y') : k.format.order x y = k.format.order x' y' := by
  rw [← order_cn k x y, ← order_cn k x' y', h.out, g.out]

/-! ### What is drawn for a not-a-number is one. -/
theorem isN_draw (q : Question) (k : FloatKind) (hq : (∃ x y, q = .nanBits k x y) ∨ (∃ b, q = .nanConv k b)) (t : Nat) : isN k (q.cut t) = true := by
  have key : ∀ r : Nat, (∃ s m, s < 2 ∧ m < 2 ^ k.format.fractionBits - 1 ∧ r = s * k.format.signWeight + k.format.infRung + 1 + m) → isN k r = true := by
    rintro r ⟨s, m, hs, hm, rfl⟩
    have e : (s * k.format.signWeight + k.format.infRung + 1 + m) % k.format.signWeight = k.format.infRung + 1 + m := by
      have h1 := k.format.infRung_add_binade
      have h2 : k.format.binade = 2 ^ k.format.fractionBits := rfl
      rw [Nat.add_assoc, Nat.add_assoc, Nat.mul_comm, Nat.mul_add_mod, ← Nat.add_assoc]
      exact Nat.mod_eq_of_lt (by omega)
    have hb : k.format.binade ≤ k.format.infRung := by cases k <;> decide
    unfold isN Ieee.Format.read
    simp only [e]
    rw [if_neg (by omega), if_neg (by omega), if_neg (by omega)]
    rfl
  refine key _ ?_
  rcases hq with ⟨x, y, rfl⟩ | ⟨b, rfl⟩ <;> cases k
  · exact ⟨t % 2, (t / 2) % (2 ^ 23 - 1), Nat.mod_lt _ (by omega), Nat.mod_lt _ (by decide), by rfl⟩
  · exact ⟨t % 2, (t / 2) % (2 ^ 52 - 1), Nat.mod_lt _ (by omega), Nat.mod_lt _ (by decide), by rfl⟩
  · exact ⟨t % 2, (t / 2) % (2 ^ 23 - 1), Nat.mod_lt _ (by omega), Nat.mod_lt _ (by decide), by rfl⟩
  · exact ⟨t % 2, (t / 2) % (2 ^ 52 - 1), Nat.mod_lt _ (by omega), Nat.mod_lt _ (by decide), by rfl⟩

/-- The bits fit the kind. -/
def Fits (k : FloatKind) (r : Nat) : Prop := r < 2 ^ k.format.width
theorem fits_nanb (k : FloatKind) : Fits k (nanb k) := by cases k <;> (unfold Fits; decide)
theorem fits_write (k : FloatKind) (d : Ieee.Datum) : Fits k (k.format.write d) := k.format.write_lt d
theorem fits_draw (q : Question) (k : FloatKind) (hq : (∃ x y, q = .nanBits k x y) ∨ (∃ b, q = .nanConv k b)) (t : Nat) : Fits k (q.cut t) := by
  have h : ∀ a b : Nat, a < 2 → b < 2 ^ 23 - 1 → a * 2 ^ 31 + 0x7f800000 + 1 + b < 2 ^ 32 := by intro a b h1 h2; omega
  have g : ∀ a b : Nat, a < 2 → b < 2 ^ 52 - 1 → a * 2 ^ 63 + 0x7ff0000000000000 + 1 + b < 2 ^ 64 := by intro a b h1 h2; omega
  unfold Fits
  rcases hq with ⟨x, y, rfl⟩ | ⟨b, rfl⟩ <;> cases k
  · exact h _ _ (Nat.mod_lt _ (by omega)) (Nat.mod_lt _ (by decide))
  · exact g _ _ (Nat.mod_lt _ (by omega)) (Nat.mod_lt _ (by decide))
  · exact h _ _ (Nat.mod_lt _ (by omega)) (Nat.mod_lt _ (by decide))
  · exact g _ _ (Nat.mod_lt _ (by omega)) (Nat.mod_lt _ (by decide))
theorem fits_map (k : FloatKind) {z : Option Ieee.Datum} {r : Nat} (h : z.map k.format.write = some r) : Fits k r := k.format.map_write_lt h

/-! ### The walk's laws: an operation gives a number that is the told one, but for the bits of a not-a-number; some answers have been drawn. -/
def fbin (op : BinOp) (k : FloatKind) (x y : Nat) : Nat :=
  match op with
  | .add => fadd k x y
  | .sub => fsub k x y
  | .mul => fmul k x y
  | .quo => fdiv k x y
  | _ => 0

def isArith : BinOp → Bool
  | .add | .sub | .mul | .quo => true
  | _ => false

section
variable {P : Program} {ops : Array Oper} {Q : Exit → Act → World → Prop} {a : Act} {w : World} {rest : List Oper} {o : Oper}

theorem run_farith (op : BinOp) (hop : isArith op = true) (k : FloatKind) (x y : Nat) (w : World) :
    ∃ r n, (Op.floatArith op k x y).run P w = .ok (.float k r) (w.drewN n) ∧ Same k r (fbin op k x y) ∧ Fits k r := by
  have key : ∀ (z : Option Nat) (s : Sem Value), (∀ r, z = some r → Fits k r) → (∀ r, z = some r → s = pure (.float k r)) → (z = none → s = (do pure (Value.float k (← choose (.nanBits k x y))))) →
      ∃ (r n : Nat), s.run P w = Result.ok (Value.float k r) (w.drewN n) ∧ Same k r (z.getD (nanb k)) ∧ Fits k r := by
    intro z s h0 h1 h2
    cases z with
    | some r => exact ⟨r, 0, by rw [h1 r rfl]; simp [World.drewN_zero], Same.refl _ _, h0 r rfl⟩
    | none =>
      refine ⟨(Question.nanBits k x y).cut (w.tape w.drawn (.nanBits k x y)), 1, ?_, Same.of_nan (isN_draw _ k (.inl ⟨x, y, rfl⟩) _) (isN_nanb k), fits_draw _ k (.inl ⟨x, y, rfl⟩) _⟩
      rw [h2 rfl]
      simp [choose, Sem.run, Question.forced, World.drewN]
  cases op <;> simp only [isArith, Bool.false_eq_true] at hop
  · simp only [fbin, fadd_eq]; exact key _ _ (fun r h => fits_map k h) (fun r h => by simp [Op.floatArith, h]) (fun h => by simp [Op.floatArith, h])
  · simp only [fbin, fsub_eq]; exact key _ _ (fun r h => fits_map k h) (fun r h => by simp [Op.floatArith, h]) (fun h => by simp [Op.floatArith, h])
  · simp only [fbin, fmul_eq]; exact key _ _ (fun r h => fits_map k h) (fun r h => by simp [Op.floatArith, h]) (fun h => by simp [Op.floatArith, h])
  · simp only [fbin, fdiv_eq]; exact key _ _ (fun r h => fits_map k h) (fun r h => by simp [Op.floatArith, h]) (fun h => by simp [Op.floatArith, h])

theorem wp_farith {K : Act → World → Prop} (op : BinOp) (ty yt : TypeId) (X Y : Operand) (ho : o.op = .binOp op ty X Y yt) (hop : isArith op = true)
    (k : FloatKind) (x y : Nat) (hx : a.eval X = .float k x) (hy : a.eval Y = .float k y)
    (h : ∀ r n, Same k r (fbin op k x y) → Fits k r → K (a.put o.dst (.float k r)) (w.drewN n)) : o.wp P a w K Q := by
  obtain ⟨r, n, h1, h2, h3⟩ := run_farith (P := P) op hop k x y w
  have e : (execOp a.eval o).run P w = .ok (.value (.float k r)) (w.drewN n) := by
    unfold execOp
    rw [ho]
    have hb : binOp op ty (.float k x) (.float k y) = Op.floatArith op k x y := by cases op <;> simp_all [binOp, isArith]
    simp [hx, hy, eqGuard_at_float, hb, h1]
  unfold Oper.wp
  rw [e]
  exact h r n h2 h3

theorem wpList_farith (hgd : Region.wanted o (yielded ops a.tmps) = true) (op : BinOp) (ty yt : TypeId) (X Y : Operand) (ho : o.op = .binOp op ty X Y yt) (hop : isArith op = true)
    (k : FloatKind) (x y : Nat) (hx : a.eval X = .float k x) (hy : a.eval Y = .float k y)
    (h : ∀ r n, Same k r (fbin op k x y) → Fits k r → wpList P ops Q rest (a.put o.dst (.float k r)) (w.drewN n)) : wpList P ops Q (o :: rest) a w :=
  wpList_step fun _ hK => by rw [if_pos hgd]; exact wp_farith op ty yt X Y ho hop k x y hx hy fun r n hr hl => hK _ _ (h r n hr hl)

/-- A finite number that is too great for the other kind: there the language leaves the answer open. -/
def fover (s : FloatKind) (b : Nat) (k : FloatKind) : Bool :=
  match s.format.read b with
  | .number g m e => (k.format.read (k.format.write (.number g m e))).isInfinity
  | _ => false

theorem run_fconv (src dst : TypeId) (s : FloatKind) (k : FloatKind) (hne : s ≠ k) (b : Nat) (w : World) (hs : (P.underlying src).isSome = true) (hd : P.underlying dst = some (.float k)) :
    ∃ r n, (convert src dst (.float s b)).run P w = .ok (.float k r) (w.drewN n) ∧ (fover s b k = false → Same k r (fconv s b k)) ∧ Fits k r := by
  obtain ⟨u, hs'⟩ := Option.isSome_iff_exists.1 hs
  have e0 : (convert src dst (.float s b)).run P w = (Conv.floatToFloat s b k).run P w := by
    cases u <;> simp [convert, run_underlying hs', run_underlying hd]
  rw [e0]
  unfold Conv.floatToFloat
  rw [if_neg hne]
  cases hr : s.decode b with
  | nan g t =>
    have hn : isN s b = true := by unfold isN; rw [show s.format.read b = .nan g t from hr]; rfl
    refine ⟨(Question.nanConv k b).cut (w.tape w.drawn (.nanConv k b)), 1, ?_, fun _ => Same.of_nan (isN_draw _ k (.inr ⟨b, rfl⟩) _) ?_, fits_draw _ k (.inr ⟨b, rfl⟩) _⟩
    · simp [choose, Sem.run, Question.forced, World.drewN]
    · unfold fconv pconv; rw [if_pos (by rw [isN_cn]; exact hn)]; exact isN_nanb k
  | infinity g =>
    have hn : isN s b = false := by unfold isN; rw [show s.format.read b = .infinity g from hr]; rfl
    refine ⟨k.encode (.infinity g), 0, by simp [World.drewN_zero], fun _ => ⟨?_⟩, fits_write k _⟩
    unfold fconv pconv cn
    simp only [hn, Bool.false_eq_true, if_false]
    rw [show s.format.read b = .infinity g from hr]; rfl
  | number g m e =>
    have hn : isN s b = false := by unfold isN; rw [show s.format.read b = .number g m e from hr]; rfl
    by_cases ho : (k.decode (k.encode (.number g m e))).isInfinity = true
    · refine ⟨(Question.floatToFloat b).cut (w.tape w.drawn (.floatToFloat b)), 1, ?_, fun hv => ?_, ?_⟩
      · simp [ho, choose, Sem.run, Question.forced, World.drewN]
      · unfold fover at hv
        rw [show s.format.read b = .number g m e from hr] at hv
        exact absurd (show (k.format.read (k.format.write (.number g m e))).isInfinity = true from ho) (by simp [hv])
      · refine Nat.lt_of_lt_of_le (Nat.mod_lt _ (by decide) : _ < 2 ^ 32) ?_
        cases k <;> decide
    · refine ⟨k.encode (.number g m e), 0, by simp [ho, World.drewN_zero], fun _ => ⟨?_⟩, fits_write k _⟩
      unfold fconv pconv cn
      simp only [hn, Bool.false_eq_true, if_false]
      rw [show s.format.read b = .number g m e from hr]; rfl

theorem wp_fconv {K : Act → World → Prop} (src dst : TypeId) (X : Operand) (ho : o.op = .convert src dst X) (s : FloatKind) (b : Nat) (hx : a.eval X = .float s b) (k : FloatKind) (hne : s ≠ k)
    (hs : (P.underlying src).isSome = true) (hd : P.underlying dst = some (.float k))
    (h : ∀ r n, (fover s b k = false → Same k r (fconv s b k)) → Fits k r → K (a.put o.dst (.float k r)) (w.drewN n)) : o.wp P a w K Q := by
  obtain ⟨r, n, h1, h2, h3⟩ := run_fconv (P := P) src dst s k hne b w hs hd
  have e : (execOp a.eval o).run P w = .ok (.value (.float k r)) (w.drewN n) := by
    unfold execOp
    rw [ho]
    simp [hx, h1]
  unfold Oper.wp
  rw [e]
  exact h r n h2 h3

theorem wpList_fconv (hgd : Region.wanted o (yielded ops a.tmps) = true) (src dst : TypeId) (X : Operand) (ho : o.op = .convert src dst X) (s : FloatKind) (b : Nat) (hx : a.eval X = .float s b) (k : FloatKind) (hne : s ≠ k)
    (hs : (P.underlying src).isSome = true) (hd : P.underlying dst = some (.float k))
    (h : ∀ r n, (fover s b k = false → Same k r (fconv s b k)) → Fits k r → wpList P ops Q rest (a.put o.dst (.float k r)) (w.drewN n)) : wpList P ops Q (o :: rest) a w :=
  wpList_step fun _ hK => by rw [if_pos hgd]; exact wp_fconv src dst X ho s b hx k hne hs hd fun r n hr hl => hK _ _ (h r n hr hl)

theorem run_convert_same_float (src dst : TypeId) (k : FloatKind) (b : Nat) (w : World) (hs : (P.underlying src).isSome = true) (hd : P.underlying dst = some (.float k)) :
    (convert src dst (.float k b)).run P w = .ok (.float k b) w := by
  refine run_convert_float_float w src dst k k b b hs hd ?_
  simp [floatToFloatBits]

end

/-! ### The same as equations: what comes of an operation, with what is drawn, as a function of the world. For regions that draw their order. -/
def afv (op : BinOp) (k : FloatKind) (x y : Nat) (w : World) : Nat :=
  match floatBits op k x y with
  | some r => r
  | none => (Question.nanBits k x y).cut (w.tape w.drawn (.nanBits k x y))
def afn (op : BinOp) (k : FloatKind) (x y : Nat) : Nat :=
  match floatBits op k x y with
  | some _ => 0
  | none => 1

theorem fbin_eq (op : BinOp) (hop : isArith op = true) (k : FloatKind) (x y : Nat) : fbin op k x y = (floatBits op k x y).getD (nanb k) := by
  cases op <;> simp only [isArith, Bool.false_eq_true] at hop <;> simp only [fbin, floatBits, fadd_eq, fsub_eq, fmul_eq, fdiv_eq]

theorem cn_afv (op : BinOp) (hop : isArith op = true) (k : FloatKind) (x y : Nat) (w : World) : cn k (afv op k x y w) = cn k (fbin op k x y) := by
  rw [fbin_eq op hop]
  unfold afv
  cases h : floatBits op k x y with
  | some r => rfl
  | none => exact (Same.of_nan (isN_draw _ k (.inl ⟨x, y, rfl⟩) _) (isN_nanb k)).out

theorem fits_afv (op : BinOp) (k : FloatKind) (x y : Nat) (w : World) : Fits k (afv op k x y w) := by
  unfold afv
  cases h : floatBits op k x y with
  | some r =>
    have := floatBits_wf h
    unfold Fits
    cases k <;> (simp only [Lit.wf, decide_eq_true_eq] at this; exact this)
  | none => exact fits_draw _ k (.inl ⟨x, y, rfl⟩) _

theorem run_afv (P : Program) (op : BinOp) (hop : isArith op = true) (t : TypeId) (k : FloatKind) (x y : Nat) (w : World) :
    (binOp op t (.float k x) (.float k y)).run P w = .ok (.float k (afv op k x y w)) (w.drewN (afn op k x y)) := by
  have hb : binOp op t (.float k x) (.float k y) = Op.floatArith op k x y := by cases op <;> simp_all [binOp, isArith]
  rw [hb]
  unfold afv afn
  cases h : floatBits op k x y with
  | some r =>
    cases op <;> simp only [isArith, Bool.false_eq_true] at hop <;> simp only [floatBits] at h <;> simp [Op.floatArith, h, World.drewN_zero]
  | none =>
    cases op <;> simp only [isArith, Bool.false_eq_true] at hop <;> simp only [floatBits] at h <;> simp [Op.floatArith, h, choose, Sem.run, Question.forced, World.drewN]

end Go.Proofs.Ytcnamhmoocdccaa
