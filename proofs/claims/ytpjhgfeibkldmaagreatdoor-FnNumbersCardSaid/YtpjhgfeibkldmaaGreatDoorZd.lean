/- A field that is built element by element. Under no condition. -/
import Derived.Test.YtpjhgfeibkldmaaGreatDoorZc
import Derived.Deep.RegionLaw
import Derived.Test.YtpjhgfeibkldmaaGreatDoorSl
import Derived.Lib.Hide
import Derived.Deep.QuietTactic
import Derived.BigQuiet
import Derived.Laws.Bits64b
import Derived.Test.YtpjhgfeibkldmaaGreatDoorCd
namespace Go.Proofs.YtpjhgfeibkldmaaGreatDoor
open Go Go.RowKit
set_option linter.unusedVariables false
set_option linter.unusedSimpArgs false

theorem step_call {P : Program} {w : World} {ops : Array Oper} {o : Oper} {a : Act} {K : Act → World → Prop} {Q : Exit → Act → World → Prop} {E : Prop} (hgd : o.guard = none) (f : FuncId) (args : Array Value)
    (hrun : (execOp a.eval o).run P w = .ok (.enter f args) w) (R : Ending → World → Prop) (hc : Calls P f args w R) (h : ∀ e w', R e w' → ∃ v, e = .returned v ∧ K (a.put o.dst v) w') :
    if Region.wanted o (yielded ops a.tmps) = true then Oper.wp P o a w K Q else E := by
  have hw : Region.wanted o (yielded ops a.tmps) = true := by simp [Region.wanted, hgd]
  rw [if_pos hw]
  unfold Oper.wp
  rw [hrun, Oper.upon_enter]
  refine hc.mono fun e w'' hh => ?_
  obtain ⟨v, rfl, hk⟩ := h e w'' hh
  exact hk

theorem grown_of_below {w w' : World} (h : Below w.heap.size w w') : w.grownBy w' none := ⟨h.os, h.tape, h.output, h.size, fun k hk _ => h.block k hk⟩
theorem below_of_grown {w w' : World} (h : w.grownBy w' none) : Below w.heap.size w w' := ⟨h.os, h.tape, h.output, h.size, fun k hk => h.block k hk (by simp)⟩
theorem grown_drew {w w' : World} {row : Option Nat} (h : w.grownBy w' row) : w.grownBy w'.drew row := ⟨h.os, h.tape, h.output, h.size, h.block⟩
theorem grown_refl (w : World) (row : Option Nat) : w.grownBy w row := ⟨rfl, rfl, rfl, Nat.le_refl _, fun _ _ _ => rfl⟩
theorem grown_alloc {w w' : World} {row : Option Nat} (h : w.grownBy w' row) (o : Obj) : w.grownBy (w'.alloc o) row := by
  refine ⟨h.os, h.tape, h.output, Nat.le_trans h.size (by simp), fun k hk hne => ?_⟩
  rw [Below.heap_alloc _ _ _ (Nat.lt_of_lt_of_le hk h.size)]; exact h.block k hk hne
theorem grown_setCell {w w' : World} {row : Option Nat} (h : w.grownBy w' row) (a : Addr) (v : Value) (ha : w.heap.size ≤ a.block ∨ row = some a.block) : w.grownBy (w'.setCell a v) row := by
  refine ⟨h.os, h.tape, h.output, by simpa [World.setCell] using h.size, fun k hk hne => ?_⟩
  rw [Below.heap_setCell _ _ _ _ (fun e => ha.elim (fun ha => by omega) (fun ha => hne (by rw [ha, e])))]; exact h.block k hk hne
/-- A step that writes a row of its own, or one that was let go. -/
theorem grown_trans {w w1 w2 : World} {row row' : Option Nat} (h : w.grownBy w1 row) (g : w1.grownBy w2 row') (hr : ∀ k, row' = some k → w.heap.size ≤ k ∨ row = some k) : w.grownBy w2 row := by
  refine ⟨g.os.trans h.os, g.tape.trans h.tape, g.output.trans h.output, Nat.le_trans h.size g.size, fun k hk hne => ?_⟩
  rw [g.block k (Nat.lt_of_lt_of_le hk h.size) (fun e => (hr k e.symm).elim (fun h1 => by omega) (fun h1 => hne h1.symm))]
  exact h.block k hk hne
theorem Own.grown {w w' : World} {B : Nat} {e : TypeId} {cur : Array Value} {row : Option Nat} (h : Own w B e cur) (g : w.grownBy w' row) (hne : row ≠ some B) : Own w' B e cur := by
  have hlt := h.lt
  unfold Own at *
  rw [g.block B hlt (Ne.symm hne)]; exact h

theorem FOwn.lt {w : World} {base : Nat} {v : Value} {vs : List Nat} (h : FOwn w base v vs) : ∀ k, v.ownBlock = some k → base ≤ k ∧ k < w.heap.size := World.ownsRow.lt h

/-- What a maker of fields hands back. -/
def FieldMade (x y : Int) (r : Bool) (n : Nat) (V : Nat → Nat) (W : World) (row : Option Nat) (e : Ending) (w' : World) : Prop :=
  ∃ v vs, e = .returned (.agg #[.int .i64 x, .int .i64 y, .bool r, v]) ∧ W.grownBy w' row ∧ FOwn w' W.heap.size v vs ∧ vs.length = n ∧ ∀ i, i < n → Same .f32 (vs.getD i 0) (V i)

theorem same_snoc {vs : List Nat} {V : Nat → Nat} {n b : Nat} (hn : vs.length = n) (h : ∀ i, i < n → Same .f32 (vs.getD i 0) (V i)) (hb : Same .f32 b (V n)) : ∀ i, i < n + 1 → Same .f32 ((vs ++ [b]).getD i 0) (V i) := by
  intro i hi
  by_cases e : i < n
  · have := h i e
    simpa [List.getD, List.getElem?_append_left (show i < vs.length by omega)] using this
  · have : i = n := by omega
    subst this
    subst hn
    simpa [List.getD] using hb

/-- An append of one number onto a list of the call's own. -/
theorem run_push (w : World) (base : Nat) (v : Value) (vs : List Nat) (b B c : Nat) (ty : TypeId) (hown : FOwn w base v vs) (hB : Own w B 28 #[.float .f32 b]) (hn : vs.length ≤ 1048576) (hbase : base ≤ w.heap.size) :
    ∃ g cap w', (Builtin.append_ #[52, 52] ty #[v, .slice (some ⟨B, 0, none⟩) 1 c]).run Tryz.prog w = .ok (.slice (some ⟨g, 0, none⟩) (vs.length + 1) cap) w' ∧
      FOwn w' base (.slice (some ⟨g, 0, none⟩) (vs.length + 1) cap) (vs ++ [b]) ∧ w.grownBy w' v.ownBlock ∧ (v.ownBlock = some g ∨ g = w.heap.size) ∧ g < w'.heap.size := by
  obtain ⟨i0, hi0, hz0, hz1, hz2⟩ := info_parts infof32
  obtain ⟨g, cap, w', h1, h2, h3⟩ := run_append_lies (P := Tryz.prog) w 52 ty base 28 i0 (.float .f32 0) 1 4 Tryz.underlying52 hi0 hz0 hz1 hz2 rfl (by omega) v vs.length _ hown
    ⟨B, 0, none⟩ 1 c [.float .f32 b] rfl (World.news_of_block (cs := #[.float .f32 b]) hB) (by simp [Value.oneCell']) (by omega) (by unfold maxLen; omega) (by omega) hbase _ rfl
  exact ⟨g, cap, w', h1, by simpa [FOwn] using h2, h3⟩

theorem FOwn.empty (w : World) : FOwn (w.alloc (.cells #[] 28)) w.heap.size (.slice (some ⟨w.heap.size, 0, none⟩) 0 0) [] :=
  FOwn.of_own (cur := #[]) (vs := []) (Nat.le_refl _) (Own.alloc w _ _) (by simp) (by unfold maxLen; omega) rfl (fun i hi => absurd hi (Nat.not_lt_zero _))

end Go.Proofs.YtpjhgfeibkldmaaGreatDoor

namespace Go.Proofs.YtpjhgfeibkldmaaGreatDoor
open Go Go.RowKit
set_option linter.unusedVariables false
set_option linter.unusedSimpArgs false

/-- The source in its block: where it stands, and its seed. -/
structure Src (w : World) (S : Nat) (a : Option Addr) (len cap K : Nat) : Prop where
  ex : ∃ (p : Nat) (seed : Int), p ≤ K ∧ 0 ≤ seed ∧ seed < 18446744073709551616 ∧ Own w S 88 #[.slice a len cap, .int .i64 (p : Int), .int .u64 seed]
/-- The bytes that came in. -/
structure Code (w : World) (S : Nat) (a : Option Addr) (len : Nat) (xs : List Int) : Prop where
  held : Holds w a len (ivals .u8 xs)
  wf : ∀ x ∈ xs, (Lit.int .u8 x).wf = true
  far : ∀ b o, a = some ⟨b, o, none⟩ → 0 < len → b < S
  small : len ≤ 1048576
theorem code_byte {xs : List Int} (h : ∀ x ∈ xs, (Lit.int .u8 x).wf = true) (i : Nat) : ∃ v : Nat, xs.getD i 0 = (v : Int) ∧ v < 256 := by
  rw [List.getD_eq_getElem?_getD]
  cases hx : xs[i]? with
  | none => exact ⟨0, rfl, by decide⟩
  | some v =>
    have := h v (List.mem_of_getElem? hx)
    simp [Lit.wf, IntKind.min, IntKind.max, IntKind.signed, IntKind.bits] at this
    exact ⟨v.toNat, by show v = _; omega, by omega⟩
theorem grown_drews {w w' : World} {row : Option Nat} (h : w.grownBy w' row) (n : Nat) : w.grownBy (w'.drewN n) row := ⟨h.os, h.tape, h.output, h.size, h.block⟩

theorem wrap_u64 (x : Int) : 0 ≤ IntKind.u64.wrap x ∧ IntKind.u64.wrap x < 18446744073709551616 := by
  have e : IntKind.u64.wrap x = x % 18446744073709551616 := by
    unfold IntKind.wrap
    rfl
  rw [e]
  omega
theorem low_byte (y : Int) : ∃ v : Nat, v < 256 ∧ wrap64 (bits .and .u64 (IntKind.u64.wrap y / 1099511627776) 255) = (v : Int) := by
  have h := wrap_u64 y
  obtain ⟨n, hn⟩ : ∃ n : Nat, IntKind.u64.wrap y / 1099511627776 = (n : Int) := ⟨(IntKind.u64.wrap y / 1099511627776).toNat, by omega⟩
  rw [hn]
  have e : bits .and .u64 (n : Int) 255 = ((n &&& 255 : Nat) : Int) := bits_and_u64_nat n 255 (by omega) (by decide)
  rw [e]
  have hlt : n &&& 255 < 256 := Nat.lt_of_le_of_lt Nat.and_le_right (by decide)
  generalize n &&& 255 = v at hlt
  refine ⟨v, hlt, ?_⟩
  have : wrap64 (v : Int) = (v : Int) := by unfold wrap64; omega
  exact this
theorem src_grown (w : World) (S m n : Nat) (u v : Value) : w.grownBy ((((w.drewN m).setCell ⟨S, 1, none⟩ u).setCell ⟨S, 2, none⟩ v).drewN n) (some S) := by
  have h1 := grown_drews (grown_refl w (some S)) m
  have h2 := grown_setCell h1 ⟨S, 1, none⟩ u (Or.inr rfl)
  have h3 := grown_setCell h2 ⟨S, 2, none⟩ v (Or.inr rfl)
  exact grown_drews h3 n
theorem src_step {w : World} {S len cap K p : Nat} {a : Option Addr} {seed : Int} (h : Own w S 88 #[.slice a len cap, .int .i64 (p : Int), .int .u64 seed]) (hp : p ≤ K) (m n : Nat) (x : Int) :
    Src ((((w.drewN m).setCell ⟨S, 1, none⟩ (.int .i64 ((p : Int) + 1))).setCell ⟨S, 2, none⟩ (.int .u64 (IntKind.u64.wrap x))).drewN n) S a len cap (K + 1) := by
  have k := wrap_u64 x
  exact ⟨⟨p + 1, IntKind.u64.wrap x, by omega, k.1, k.2, (((h.drewN m).set 1 _).set 2 _).drewN n⟩⟩
set_option maxRecDepth 100000 in
theorem src_next (S : Nat) (a : Option Addr) (len cap K : Nat) (xs : List Int) (w : World) (hs : Src w S a len cap K) (hc : Code w S a len xs) (hK : K ≤ 1048576) :
    Calls Tryz.prog 69 #[.pointer (some ⟨S, 0, none⟩)] w fun e w' => ∃ v : Nat, v < 256 ∧ e = .returned (.int .i64 (v : Int)) ∧ w.grownBy w' (some S) ∧ Src w' S a len cap (K + 1) := by
  obtain ⟨p, seed, hp, h0, h1, ho⟩ := hs.ex
  have HO := Lib.hid ho
  have c0 : w.cell? ⟨S, 0, none⟩ = some (.slice a len cap) := ho.cell 0
  have c1 : w.cell? ⟨S, 1, none⟩ = some (.int .i64 (p : Int)) := ho.cell 1
  have c2 : w.cell? ⟨S, 2, none⟩ = some (.int .u64 seed) := ho.cell 2
  have f1 := ho.frozen 1
  have f2 := ho.frozen 2
  have hsm := hc.small
  by_cases hlt : p < len
  · obtain ⟨b, o, rfl, hv⟩ : ∃ b o, a = some ⟨b, o, none⟩ ∧ w.cell? ⟨b, o + p, none⟩ = some (.int .u8 (xs.getD p 0)) := by
      rcases hc.held.split with e | ⟨b, o, e, hb, hcc⟩
      · omega
      · exact ⟨b, o, e, hcc p hlt⟩
    obtain ⟨v, hv2, hv3⟩ := code_byte hc.wf p
    rw [hv2] at hv
    have hne : b ≠ S := Nat.ne_of_lt (hc.far b o rfl (by omega))
    have d1 : decide ((p : Int) < (len : Int)) = true := decide_eq_true (by omega)
    have d2 : decide ((p : Int) + 1 ≤ (len : Int)) = true := decide_eq_true (by omega)
    clear ho hc hs
    go_enter Tryz.func69, Tryz.ntmps69
    go_wp2
    go_quiet (fail)
    go_wp2
    go_quiet (fail)
    go_wp2
    go_quiet (fail)
    go_wp2
    go_ret
    refine ⟨v, hv3, rfl, src_grown _ _ _ _ _ _, src_step HO.out hp _ _ _⟩
  · have hsm := hc.small
    have hp2 : p ≤ 1048576 := by omega
    have d1 : decide ((p : Int) < (len : Int)) = false := decide_eq_false (by omega)
    have d2 : decide ((p : Int) + 1 ≤ (len : Int)) = false := decide_eq_false (by omega)
    clear ho hc hs
    go_enter Tryz.func69, Tryz.ntmps69
    go_wp2
    go_quiet (fail)
    go_wp2
    go_quiet (fail)
    go_wp2
    go_ret
    obtain ⟨v, hv, e⟩ := low_byte (IntKind.u64.wrap (IntKind.u64.wrap (seed * 6364136223846793005)) + 1442695040888963407)
    exact ⟨v, hv, by rw [← e]; rfl, src_grown _ _ _ _ _ _, src_step HO.out hp _ _ _⟩
theorem Src.mono {w : World} {S len cap K K' : Nat} {a : Option Addr} (h : Src w S a len cap K) (hk : K ≤ K') : Src w S a len cap K' := by
  obtain ⟨p, seed, h1, h2, h3, h4⟩ := h.ex
  exact ⟨⟨p, seed, by omega, h2, h3, h4⟩⟩
theorem Code.grown {w w' : World} {S len : Nat} {a : Option Addr} {xs : List Int} (h : Code w S a len xs) (g : w.grownBy w' (some S)) : Code w' S a len xs := by
  refine ⟨?_, h.wf, h.far, h.small⟩
  rcases h.held.cells with h0 | ⟨b, o, rfl, hb, hc⟩
  · exact ⟨.inl h0⟩
  · by_cases hl : 0 < len
    · refine ⟨.inr ⟨b, o, rfl, Nat.lt_of_lt_of_le hb g.size, fun i hi => ?_⟩⟩
      rw [g.cell_far ⟨b, o + i, none⟩ hb (fun e => Nat.ne_of_lt (h.far b o rfl hl) (Option.some.inj e))]
      exact hc i hi
    · exact ⟨.inr ⟨b, o, rfl, Nat.lt_of_lt_of_le hb g.size, fun i hi => absurd hi (by omega)⟩⟩
theorem Code.drewN {w : World} {S len : Nat} {a : Option Addr} {xs : List Int} (h : Code w S a len xs) (n : Nat) : Code (w.drewN n) S a len xs := ⟨h.held.drewN n, h.wf, h.far, h.small⟩
theorem Code.below {w w' : World} {S len n : Nat} {a : Option Addr} {xs : List Int} (h : Code w S a len xs) (hb : Below n w w') (hS : S < n) : Code w' S a len xs := by
  refine ⟨?_, h.wf, h.far, h.small⟩
  rcases h.held.cells with h0 | ⟨b, o, rfl, hl, hc⟩
  · exact ⟨.inl h0⟩
  · by_cases h0 : 0 < len
    · have hbs := h.far b o rfl h0
      refine ⟨.inr ⟨b, o, rfl, Nat.lt_of_lt_of_le hl hb.size, fun i hi => ?_⟩⟩
      rw [World.cell?_of_block (hb.block b (by omega))]
      exact hc i hi
    · exact ⟨.inr ⟨b, o, rfl, Nat.lt_of_lt_of_le hl hb.size, fun i hi => absurd hi (by omega)⟩⟩
theorem Src.below {w w' : World} {S len cap K n : Nat} {a : Option Addr} (h : Src w S a len cap K) (hb : Below n w w') (hS : S < n) : Src w' S a len cap K := by
  obtain ⟨p, seed, h1, h2, h3, h4⟩ := h.ex
  exact ⟨⟨p, seed, h1, h2, h3, h4.below hb hS⟩⟩
theorem Src.drewN {w : World} {S len cap K : Nat} {a : Option Addr} (h : Src w S a len cap K) (n : Nat) : Src (w.drewN n) S a len cap K := by
  obtain ⟨p, seed, h1, h2, h3, h4⟩ := h.ex
  exact ⟨⟨p, seed, h1, h2, h3, h4.drewN n⟩⟩
theorem Src.alloc {w : World} {S len cap K : Nat} {a : Option Addr} (h : Src w S a len cap K) (o : Obj) : Src (w.alloc o) S a len cap K := by
  obtain ⟨p, seed, h1, h2, h3, h4⟩ := h.ex
  exact ⟨⟨p, seed, h1, h2, h3, h4.alloc_later o⟩⟩
theorem Src.lt {w : World} {S len cap K : Nat} {a : Option Addr} (h : Src w S a len cap K) : S < w.heap.size := by
  obtain ⟨p, seed, h1, h2, h3, h4⟩ := h.ex
  exact h4.lt
theorem Code.alloc {w : World} {S len : Nat} {a : Option Addr} {xs : List Int} (h : Code w S a len xs) (o : Obj) : Code (w.alloc o) S a len xs := h.grown (grown_alloc (grown_refl _ _) o)
theorem tmod_small (x n : Nat) (hn : 0 < n) : ∃ m : Nat, m < n ∧ Int.tmod (x : Int) (n : Int) = (m : Int) :=
  ⟨x % n, Nat.mod_lt _ hn, by rw [Int.tmod_eq_emod_of_nonneg (by omega)]; omega⟩
set_option maxRecDepth 100000 in
theorem src_pick (S : Nat) (a : Option Addr) (len cap K : Nat) (xs : List Int) (w : World) (n : Nat) (hs : Src w S a len cap K) (hc : Code w S a len xs) (hK : K ≤ 1048000) (hn : 2 ≤ n) (hn2 : n ≤ 65536) :
    Calls Tryz.prog 39 #[.pointer (some ⟨S, 0, none⟩), .int .i64 (n : Int)] w fun e w' => ∃ v : Nat, v < n ∧ e = .returned (.int .i64 (v : Int)) ∧ w.grownBy w' (some S) ∧ Src w' S a len cap (K + 2) := by
  have HS := Lib.hid hs
  have HC := Lib.hid hc
  have HK := Lib.hid hK
  have d0 : decide ((n : Int) ≤ 1) = false := decide_eq_false (by omega)
  have hn0 : ¬ ((n : Int) = 0) := by omega
  clear hs hc hK
  by_cases h200 : 200 < n
  · have d1 : decide ((200 : Int) < (n : Int)) = true := decide_eq_true (by omega)
    go_enter Tryz.func39, Tryz.ntmps39
    go_wp2_with fail
    refine (src_next S a len cap K xs _ HS.out HC.out (by have := HK.out; omega)).mono ?_
    rintro e w1 ⟨v1, hv1, rfl, g1, s1⟩
    have HS1 := Lib.hid s1
    have HC1 := Lib.hid (HC.out.grown g1)
    have G1 := Lib.hid g1
    clear s1 g1
    go_wp2_with fail
    refine (src_next S a len cap (K + 1) xs _ HS1.out HC1.out (by have := HK.out; omega)).mono ?_
    rintro e w2 ⟨v2, hv2, rfl, g2, s2⟩
    obtain ⟨m, hm, e⟩ := tmod_small (v1 * 256 + v2) n (by omega)
    have e' : Int.tmod ((v1 : Int) * 256 + (v2 : Int)) (n : Int) = (m : Int) := by rw [← e]; congr 1
    have HE := Lib.hid (And.intro hm (And.intro (grown_trans G1.out g2 (fun k hk => .inr hk)) s2))
    clear e hm g2 s2
    go_wp2_with fail
    go_ret
    exact ⟨m, HE.out.1, by first | rfl | (rw [← e']; rfl), HE.out.2.1, HE.out.2.2⟩
  · have d1 : decide ((200 : Int) < (n : Int)) = false := decide_eq_false (by omega)
    go_enter Tryz.func39, Tryz.ntmps39
    go_wp2_with fail
    refine (src_next S a len cap K xs _ HS.out HC.out (by have := HK.out; omega)).mono ?_
    rintro e w1 ⟨v1, hv1, rfl, g1, s1⟩
    obtain ⟨m, hm, e'⟩ := tmod_small v1 n (by omega)
    have HE := Lib.hid (And.intro hm (And.intro g1 (s1.mono (show K + 1 ≤ K + 2 by omega))))
    clear hm g1 s1
    go_wp2_with fail
    go_ret
    exact ⟨m, HE.out.1, by first | rfl | (rw [← e']; rfl), HE.out.2.1, HE.out.2.2⟩
end Go.Proofs.YtpjhgfeibkldmaaGreatDoor

namespace Go.Proofs.YtpjhgfeibkldmaaGreatDoor
open Go Go.RowKit
set_option linter.unusedVariables false
set_option linter.unusedSimpArgs false

theorem FOwn.put {w : World} {base g cap : Nat} {vs : List Nat} (h : FOwn w base (.slice (some ⟨g, 0, none⟩) vs.length cap) vs) {i : Nat} (hi : i < vs.length) (b : Nat) :
    FOwn (w.setCell ⟨g, i, none⟩ (.float .f32 b)) base (.slice (some ⟨g, 0, none⟩) vs.length cap) (vs.set i b) := by
  rcases h.form with ⟨e, rfl⟩ | ⟨g', cap', cur, e, hb, ho, hcap, hm, hs, hc⟩
  · simp at hi
  · simp only [Value.slice.injEq, Option.some.injEq, Addr.mk.injEq, and_true, true_and] at e
    obtain ⟨rfl, rfl⟩ := e
    have k := FOwn.of_own (vs := vs.set i b) hb (ho.set i (.float .f32 b)) (by simpa using hcap) hm (by simpa using hs) (by
      intro j hj
      rw [List.length_set] at hj
      rw [Array.getElem?_setIfInBounds]
      by_cases e : i = j
      · subst e
        have : i < cur.size := by omega
        simp [this, fvals, hi]
      · rw [if_neg e, hc j hj]
        simp [fvals, List.getD, List.getElem?_set_ne e])
    rwa [List.length_set] at k
theorem FOwn.spot {w : World} {base g cap : Nat} {vs : List Nat} (h : FOwn w base (.slice (some ⟨g, 0, none⟩) vs.length cap) vs) {i : Nat} (hi : i < vs.length) :
    w.cell? ⟨g, i, none⟩ = some (.float .f32 (vs.getD i 0)) ∧ w.frozen? ⟨g, i, none⟩ = false ∧ base ≤ g ∧ g < w.heap.size := by
  rcases h.form with ⟨e, rfl⟩ | ⟨g', cap', cur, e, hb, ho, hcap, hm, hs, hc⟩
  · simp at hi
  · simp only [Value.slice.injEq, Option.some.injEq, Addr.mk.injEq, and_true, true_and] at e
    obtain ⟨rfl, rfl⟩ := e
    exact ⟨by rw [ho.cell, hc i hi]; rfl, ho.frozen i, hb, ho.lt⟩
theorem FOwn.put' {w : World} {base g cap n : Nat} {vs : List Nat} (hn : vs.length = n) (h : FOwn w base (.slice (some ⟨g, 0, none⟩) n cap) vs) {i : Nat} (hi : i < n) (b : Nat) :
    FOwn (w.setCell ⟨g, i, none⟩ (.float .f32 b)) base (.slice (some ⟨g, 0, none⟩) n cap) (vs.set i b) := by subst hn; exact h.put hi b
theorem FOwn.spot' {w : World} {base g cap n : Nat} {vs : List Nat} (hn : vs.length = n) (h : FOwn w base (.slice (some ⟨g, 0, none⟩) n cap) vs) {i : Nat} (hi : i < n) :
    w.cell? ⟨g, i, none⟩ = some (.float .f32 (vs.getD i 0)) ∧ w.frozen? ⟨g, i, none⟩ = false ∧ base ≤ g ∧ g < w.heap.size := by subst hn; exact h.spot hi
theorem FOwn.at_block' {w : World} {base n : Nat} {v : Value} {vs : List Nat} (hn : vs.length = n) (h : FOwn w base v vs) (h0 : 0 < n) : ∃ g cap, v = .slice (some ⟨g, 0, none⟩) n cap := by
  subst hn
  rcases h.form with ⟨rfl, rfl⟩ | ⟨g, cap, cur, rfl, _⟩
  · simp at h0
  · exact ⟨g, cap, rfl⟩
theorem FOwn.at_block {w : World} {base : Nat} {v : Value} {vs : List Nat} (h : FOwn w base v vs) (hn : 0 < vs.length) : ∃ g cap, v = .slice (some ⟨g, 0, none⟩) vs.length cap := by
  rcases h.form with ⟨rfl, rfl⟩ | ⟨g, cap, cur, rfl, _⟩
  · simp at hn
  · exact ⟨g, cap, rfl⟩

/-- The cells of a list that lies in memory, as what an append asks. -/
theorem holds_news {w : World} {b o : Nat} {ys : List Nat} (h : Holds w (some ⟨b, o, none⟩) ys.length (fvals .f32 ys)) :
    ∀ j u, (ys.map (Value.float .f32))[j]? = some u → w.cell? ((⟨b, o, none⟩ : Addr).add j) = some u := by
  intro j u hu
  have hadd : (⟨b, o, none⟩ : Addr).add j = ⟨b, o + j, none⟩ := by unfold Addr.add; split <;> simp_all
  rw [hadd]
  by_cases hj : j < ys.length
  · rcases h.split with h0 | ⟨b', o', e, hb, hc⟩
    · omega
    simp only [Option.some.injEq, Addr.mk.injEq, and_true] at e
    obtain ⟨rfl, rfl⟩ := e
    rw [hc j hj]
    simpa [fvals, hj] using hu
  · rw [List.getElem?_eq_none (by simp; omega)] at hu
    cases hu

theorem list_pushes {w : World} {ops : Array Oper} {rest : List Oper} {o : Oper} {a : Act} {Q : Exit → Act → World → Prop} (hgd : o.guard = none) (s x : Operand)
    (ho : o.op = .call { callee := .builtin .append, args := #[s, x], argTypes := #[52, 52] })
    {base : Nat} {v : Value} {vs ys : List Nat} {b oo c m : Nat} (F : FOwn w base v vs) (hs : a.eval s = v) (hx : a.eval x = .slice (some ⟨b, oo, none⟩) m c) (hm : ys.length = m) (hm0 : 0 < m)
    (hy : Holds w (some ⟨b, oo, none⟩) m (fvals .f32 ys)) (hn : vs.length ≤ 1048576) (hn2 : m ≤ 1048576) (hbase : base ≤ w.heap.size)
    (h : ∀ g cap w', w.grownBy w' v.ownBlock → FOwn w' base (.slice (some ⟨g, 0, none⟩) (vs.length + m) cap) (vs ++ ys) → (v.ownBlock = some g ∨ g = w.heap.size) → g < w'.heap.size →
      wpList Tryz.prog ops Q rest (a.put o.dst (.slice (some ⟨g, 0, none⟩) (vs.length + m) cap)) w') :
    wpList Tryz.prog ops Q (o :: rest) a w := by
  subst hm
  obtain ⟨i0, hi0, hz0, hz1, hz2⟩ := info_parts infof32
  refine wpList_append_lies (P := Tryz.prog) w hgd s x 52 ho base 28 i0 (.float .f32 0) 1 4 Tryz.underlying52 hi0 hz0 hz1 hz2 rfl (by omega) v vs.length _ hs F
    ⟨b, oo, none⟩ ys.length c (ys.map (Value.float .f32)) hx (by simp) (holds_news hy) (by simp [Value.oneCell']) hm0 (by unfold maxLen; omega) (by omega) hbase _ rfl ?_
  intro g cap w' hown hgrow hat hlt
  exact h g cap w' hgrow (by simpa [FOwn] using hown) hat hlt

/-- A number appended. -/
theorem list_one {w : World} {ops : Array Oper} {rest : List Oper} {o : Oper} {a : Act} {Q : Exit → Act → World → Prop} (hgd : o.guard = none) (s x : Operand)
    (ho : o.op = .call { callee := .builtin .append, args := #[s, x], argTypes := #[52, 52] })
    {base : Nat} {v : Value} {vs : List Nat} (F : FOwn w base v vs) (b : Nat) (hs : a.eval s = v) (hx : a.eval x = .slice (some ⟨w.heap.size, 0, none⟩) 1 1) (hn : vs.length ≤ 1048576) (hbase : base ≤ w.heap.size)
    (h : ∀ v' w', Below base w w' → FOwn w' base v' (vs ++ [b]) → wpList Tryz.prog ops Q rest (a.put o.dst v') w') :
    wpList Tryz.prog ops Q (o :: rest) a (w.alloc (.cells #[.float .f32 b] 28)) := by
  have hb : Below w.heap.size w (w.alloc (.cells #[.float .f32 b] 28)) := keep_own w _
  have H : Holds (w.alloc (.cells #[.float .f32 b] 28)) (some ⟨w.heap.size, 0, none⟩) 1 (fvals .f32 [b]) := (Own.alloc w 28 #[.float .f32 b]).holds (fun i hi => by
    have : i = 0 := by omega
    subst this; rfl)
  refine list_pushes hgd s x ho (F.keep hb) hs hx (ys := [b]) rfl (by decide) H hn (by decide) (by rw [size_alloc']; omega) ?_
  intro g cap w' hg o' hat hlt
  refine h _ w' ?_ o'
  have hB : Below base w (w.alloc (.cells #[.float .f32 b] 28)) := hb.mono hbase
  exact hB.grown hg (by rw [size_alloc']; omega) (fun k e => (F.lt k e).1)
end Go.Proofs.YtpjhgfeibkldmaaGreatDoor

namespace Go.Proofs.YtpjhgfeibkldmaaGreatDoor
open Go Go.RowKit
set_option linter.unusedVariables false
set_option linter.unusedSimpArgs false

/-- What a drawing function does: it hands something back and moves the source on. -/
def Drew (S : Nat) (a : Option Addr) (len cap K : Nat) (w : World) (G : Ending → Prop) (e : Ending) (w' : World) : Prop := G e ∧ w.grownBy w' (some S) ∧ Src w' S a len cap K
theorem src_one (S : Nat) (a : Option Addr) (len cap K : Nat) (xs : List Int) (w : World) (n : Nat) (hs : Src w S a len cap K) (hc : Code w S a len xs) (hK : K ≤ 1048000) (hn : 2 ≤ n) (hn2 : n ≤ 65536) :
    Calls Tryz.prog 51 #[.pointer (some ⟨S, 0, none⟩), .int .i64 (n : Int)] w (Drew S a len cap (K + 2) w fun e => ∃ b : Bool, e = .returned (.bool b)) := by
  have C := Lib.hid (src_pick S a len cap K xs w n hs hc hK hn hn2)
  clear hs hc hK hn hn2
  go_enter Tryz.func51, Tryz.ntmps51
  go_wp2_with fail
  refine C.out.mono ?_
  rintro e w1 ⟨v, hv, rfl, g, s⟩
  have GS := Lib.hid (And.intro g s)
  clear g s
  go_wp2
  go_ret
  exact ⟨⟨_, rfl⟩, GS.out.1, GS.out.2⟩
theorem spec_l01From (n : Int) (w : World) (h0 : 0 ≤ n) (h1 : n < 4294967296) : Calls Tryz.prog 52 #[.int .i64 n] w fun e w' => (∃ r : Nat, r < 2 ^ 32 ∧ e = .returned (.float .f32 r)) ∧ w = w' := by
  go_enter Tryz.func52, Tryz.ntmps52
  go_wp2_with (first | (go_at_call 55; go_in))
  go_ret
  exact ⟨⟨_, by omega, rfl⟩, rfl⟩
set_option maxRecDepth 100000 in
theorem src_among (S : Nat) (a : Option Addr) (len cap K : Nat) (xs : List Int) (w : World) (L c : Nat) (vs : List Int) (hs : Src w S a len cap K) (hc : Code w S a len xs) (hK : K ≤ 1048000) (hL : Holds w (some ⟨L, 0, none⟩) vs.length (ivals .i64 vs)) (hne : L ≠ S) (h2 : 2 ≤ vs.length) (h3 : vs.length ≤ 65536) (hv : ∀ v ∈ vs, 0 ≤ v ∧ v < 4294967296) :
    Calls Tryz.prog 79 #[.pointer (some ⟨S, 0, none⟩), .slice (some ⟨L, 0, none⟩) vs.length c] w (Drew S a len cap (K + 2) w fun e => ∃ n : Int, e = .returned (.int .i64 n) ∧ 0 ≤ n ∧ n < 4294967296) := by
  have C := Lib.hid (src_pick S a len cap K xs w vs.length hs hc hK h2 h3)
  have HL := Lib.hid hL
  have HV := Lib.hid hv
  clear hs hc hK hL hv
  go_enter Tryz.func79, Tryz.ntmps79
  go_wp2_with fail
  refine C.out.mono ?_
  rintro e w1 ⟨v, hlt, rfl, g, s⟩
  have h1 : w1.cell? ⟨L, v, none⟩ = some (.int .i64 (vs.getD v 0)) := by
    rcases HL.out.split with h0 | ⟨b, o, e, hb, hcc⟩
    · omega
    · injection e with e
      injection e with e1 e2
      subst e1 e2
      rw [g.cell_far ⟨L, v, none⟩ hb (fun e => hne (Option.some.inj e))]
      have := hcc v hlt
      rwa [Nat.zero_add] at this
  have hr : 0 ≤ vs.getD v 0 ∧ vs.getD v 0 < 4294967296 := by
    rw [List.getD_eq_getElem?_getD, List.getElem?_eq_getElem hlt]
    exact HV.out _ (List.getElem_mem hlt)
  have GS := Lib.hid (And.intro g s)
  clear g s
  generalize vs.getD v 0 = y at h1 hr
  go_wp2_with fail
  go_ret
  exact ⟨⟨_, rfl, hr.1, hr.2⟩, GS.out.1, GS.out.2⟩
set_option maxRecDepth 100000 in
theorem spec_l01DrawPlain (S : Nat) (a : Option Addr) (len cap K : Nat) (xs : List Int) (w : World) (hs : Src w S a len cap K) (hc : Code w S a len xs) (hK : K ≤ 1040000) :
    Calls Tryz.prog 78 #[.pointer (some ⟨S, 0, none⟩)] w (Drew S a len cap (K + 4) w fun e => ∃ r : Nat, r < 2 ^ 32 ∧ e = .returned (.float .f32 r)) := by
  have HS := Lib.hid hs
  have HC := Lib.hid hc
  have HK := Lib.hid hK
  clear hs hc hK
  go_enter Tryz.func78, Tryz.ntmps78
  go_wp2_with fail
  refine (src_pick S a len cap K xs w 129 HS.out HC.out (by have := HK.out; omega) (by omega) (by omega)).mono ?_
  rintro e w1 ⟨v, hlt, rfl, g1, s1⟩
  have HS1 := Lib.hid s1
  have HC1 := Lib.hid (HC.out.grown g1)
  have G1 := Lib.hid g1
  clear s1 g1
  go_wp2_with fail
  refine (src_one S a len cap (K + 2) xs w1 4 HS1.out HC1.out (by have := HK.out; omega) (by omega) (by omega)).mono ?_
  rintro e w2 ⟨⟨b, rfl⟩, g2, s2⟩
  have HS2 := Lib.hid s2
  have G2 := Lib.hid (grown_trans G1.out g2 (fun k hk => .inr hk))
  clear s2 g2
  cases b with
  | true =>
    go_wp2_with (first | (refine wpList_farith rfl _ _ _ _ _ rfl rfl _ _ _ rfl rfl ?_; rintro r n ⟨hr⟩ hl; simp only [fbin] at hr) | (refine wpList_fwid rfl _ _ _ rfl _ rfl (by rw [Tryz.underlying28]; rfl) Tryz.underlying46 ?_; rintro r n ⟨hr⟩ hl))
    go_ret
    exact ⟨⟨_, hl, rfl⟩, grown_drews G2.out _, HS2.out.drewN _⟩
  | false =>
    go_wp2_with (first | (refine wpList_farith rfl _ _ _ _ _ rfl rfl _ _ _ rfl rfl ?_; rintro r n ⟨hr⟩ hl; simp only [fbin] at hr) | (refine wpList_fwid rfl _ _ _ rfl _ rfl (by rw [Tryz.underlying28]; rfl) Tryz.underlying46 ?_; rintro r n ⟨hr⟩ hl))
    go_ret
    exact ⟨⟨_, hl, rfl⟩, grown_drews G2.out _, HS2.out.drewN _⟩
end Go.Proofs.YtpjhgfeibkldmaaGreatDoor

namespace Go.Proofs.YtpjhgfeibkldmaaGreatDoor
open Go Go.RowKit
set_option linter.unusedVariables false
set_option linter.unusedSimpArgs false

theorem Drew.mono {S len cap K K' : Nat} {a : Option Addr} {w w' : World} {G : Ending → Prop} {e : Ending} (h : Drew S a len cap K w G e w') (hk : K ≤ K') : Drew S a len cap K' w G e w' := ⟨h.1, h.2.1, h.2.2.mono hk⟩
def IsFloat (e : Ending) : Prop := ∃ r : Nat, r < 2 ^ 32 ∧ e = .returned (.float .f32 r)
theorem list_holds (w : World) (vs : List Int) : Holds (w.alloc (.cells (vs.map (Value.int .i64)).toArray 2)) (some ⟨w.heap.size, 0, none⟩) vs.length (ivals .i64 vs) :=
  (Own.alloc w 2 (vs.map (Value.int .i64)).toArray).holds fun i hi => by
    unfold ivals
    simp [List.getD_eq_getElem?_getD, List.getElem?_eq_getElem hi]
def ten0 : List Int := [0, 2147483648, 2139095040, 4286578688, 2143289344, 1, 2139095039, 8388608, 8388607, 2147483649]
def four0 : List Int := [8388608, 2130706432, 1610612736, 536870912]
theorem ten_ok : ∀ v ∈ ten0, 0 ≤ v ∧ v < 4294967296 := by decide
theorem four_ok : ∀ v ∈ four0, 0 ≤ v ∧ v < 4294967296 := by decide
set_option maxHeartbeats 2000000 in
set_option maxRecDepth 100000 in
theorem spec_l01DrawFloat (S : Nat) (a : Option Addr) (len cap K : Nat) (xs : List Int) (w : World) (hs : Src w S a len cap K) (hc : Code w S a len xs) (hK : K ≤ 1000000) :
    Calls Tryz.prog 53 #[.pointer (some ⟨S, 0, none⟩)] w (Drew S a len cap (K + 12) w IsFloat) := by
  have HS := Lib.hid hs
  have HC := Lib.hid hc
  have HK := Lib.hid hK
  have HT := Lib.hid (fun u : World => list_holds u ten0)
  have HF := Lib.hid (fun u : World => list_holds u four0)
  clear hs hc hK
  go_enter Tryz.func53, Tryz.ntmps53
  go_wp2_with fail
  refine (src_one S a len cap K xs w 12 HS.out HC.out (by have := HK.out; omega) (by omega) (by omega)).mono ?_
  rintro e w1 ⟨⟨b, rfl⟩, g1, s1⟩
  have HS1 := Lib.hid s1
  have HC1 := Lib.hid (HC.out.grown g1)
  have G1 := Lib.hid g1
  clear s1 g1
  cases b with
  | false =>
    go_wp2_with fail
    refine (spec_l01DrawPlain S a len cap (K + 2) xs w1 HS1.out HC1.out (by have := HK.out; omega)).mono ?_
    rintro e w2 ⟨⟨r, hr, rfl⟩, g2, s2⟩
    have GS := Lib.hid (And.intro (grown_trans G1.out g2 (fun k hk => .inr hk)) s2)
    clear g2 s2
    go_wp2
    go_ret
    exact ⟨⟨r, hr, rfl⟩, GS.out.1, GS.out.2.mono (by omega)⟩
  | true =>
    go_wp2_with fail
    refine (src_pick S a len cap (K + 2) xs w1 4 HS1.out HC1.out (by have := HK.out; omega) (by omega) (by omega)).mono ?_
    rintro e w2 ⟨v, hv, rfl, g2, s2⟩
    have HS2 := Lib.hid s2
    have HC2 := Lib.hid (HC1.out.grown g2)
    have G2 := Lib.hid (grown_trans G1.out g2 (fun k hk => .inr hk))
    clear s2 g2
    have hv4 : v = 0 ∨ v = 1 ∨ v = 2 ∨ v = 3 := by omega
    rcases hv4 with rfl | rfl | rfl | rfl
    · have hH : Holds (w2.alloc (.cells #[.int .i64 0, .int .i64 2147483648, .int .i64 2139095040, .int .i64 4286578688, .int .i64 2143289344, .int .i64 1, .int .i64 2139095039, .int .i64 8388608, .int .i64 8388607, .int .i64 2147483649] 2)) (some ⟨w2.heap.size, 0, none⟩) 10 (ivals .i64 ten0) := HT.out w2
      have HH := Lib.hid hH
      clear hH
      go_wp2_with fail
      refine (src_among S a len cap (K + 4) xs _ w2.heap.size 10 ten0 (HS2.out.alloc _) (HC2.out.alloc _) (by have := HK.out; omega) HH.out (by have := HS2.out.lt; omega) (by decide) (by decide) ten_ok).mono ?_
      rintro e w3 ⟨⟨n, rfl, h0, h1⟩, g3, s3⟩
      have GS := Lib.hid (And.intro (grown_trans (grown_alloc G2.out _) g3 (fun k hk => .inr hk)) s3)
      clear g3 s3
      go_wp2_with fail
      refine (spec_l01From n _ h0 h1).mono ?_
      rintro e w4 ⟨⟨r, hr, rfl⟩, rfl⟩
      go_wp2
      go_ret
      exact ⟨⟨r, hr, rfl⟩, GS.out.1, GS.out.2.mono (by omega)⟩
    · go_wp2_with fail
      refine (src_pick S a len cap (K + 4) xs w2 65536 HS2.out HC2.out (by have := HK.out; omega) (by omega) (by omega)).mono ?_
      rintro e w3 ⟨u, hu, rfl, g3, s3⟩
      have HS3 := Lib.hid s3
      have HC3 := Lib.hid (HC2.out.grown g3)
      have G3 := Lib.hid (grown_trans G2.out g3 (fun k hk => .inr hk))
      clear s3 g3
      go_wp2_with fail
      refine (src_pick S a len cap (K + 6) xs w3 65536 HS3.out HC3.out (by have := HK.out; omega) (by omega) (by omega)).mono ?_
      rintro e w4 ⟨u2, hu2, rfl, g4, s4⟩
      have GS := Lib.hid (And.intro (grown_trans G3.out g4 (fun k hk => .inr hk)) s4)
      clear g4 s4
      go_wp2_with fail
      refine (spec_l01From ((u : Int) * 65536 + (u2 : Int)) _ (by omega) (by omega)).mono ?_
      rintro e w5 ⟨⟨r, hr, rfl⟩, rfl⟩
      go_wp2
      go_ret
      exact ⟨⟨r, hr, rfl⟩, GS.out.1, GS.out.2.mono (by omega)⟩
    · go_wp2_with fail
      refine (src_pick S a len cap (K + 4) xs w2 65536 HS2.out HC2.out (by have := HK.out; omega) (by omega) (by omega)).mono ?_
      rintro e w3 ⟨u, hu, rfl, g3, s3⟩
      have GS := Lib.hid (And.intro (grown_trans G2.out g3 (fun k hk => .inr hk)) s3)
      clear g3 s3
      go_wp2_with fail
      refine (spec_l01From ((u : Int) * 65536) _ (by omega) (by omega)).mono ?_
      rintro e w5 ⟨⟨r, hr, rfl⟩, rfl⟩
      go_wp2
      go_ret
      exact ⟨⟨r, hr, rfl⟩, GS.out.1, GS.out.2.mono (by omega)⟩
    · go_wp2_with fail
      refine (spec_l01DrawPlain S a len cap (K + 4) xs w2 HS2.out HC2.out (by have := HK.out; omega)).mono ?_
      rintro e w3 ⟨⟨r, hr, rfl⟩, g3, s3⟩
      have HS3 := Lib.hid s3
      have HC3 := Lib.hid (HC2.out.grown g3)
      have G3 := Lib.hid (grown_trans G2.out g3 (fun k hk => .inr hk))
      clear s3 g3
      have hH : Holds (w3.alloc (.cells #[.int .i64 8388608, .int .i64 2130706432, .int .i64 1610612736, .int .i64 536870912] 2)) (some ⟨w3.heap.size, 0, none⟩) 4 (ivals .i64 four0) := HF.out w3
      have HH := Lib.hid hH
      clear hH
      go_wp2_with fail
      refine (src_among S a len cap (K + 8) xs _ w3.heap.size 4 four0 (HS3.out.alloc _) (HC3.out.alloc _) (by have := HK.out; omega) HH.out (by have := HS3.out.lt; omega) (by decide) (by decide) four_ok).mono ?_
      rintro e w4 ⟨⟨n, rfl, h0, h1⟩, g4, s4⟩
      have GS := Lib.hid (And.intro (grown_trans (grown_alloc G3.out _) g4 (fun k hk => .inr hk)) s4)
      clear g4 s4
      go_wp2_with fail
      refine (spec_l01From n _ h0 h1).mono ?_
      rintro e w5 ⟨⟨r2, hr2, rfl⟩, rfl⟩
      go_wp2_with (first | (refine wpList_farith rfl _ _ _ _ _ rfl rfl _ _ _ rfl rfl ?_; rintro r n ⟨hr⟩ hl; simp only [fbin] at hr) | (refine wpList_fwid rfl _ _ _ rfl _ rfl (by rw [Tryz.underlying28]; rfl) Tryz.underlying46 ?_; rintro r n ⟨hr⟩ hl))
      go_ret
      exact ⟨⟨_, hl, rfl⟩, grown_drews GS.out.1 _, (GS.out.2.drewN _).mono (by omega)⟩
end Go.Proofs.YtpjhgfeibkldmaaGreatDoor

namespace Go.Proofs.YtpjhgfeibkldmaaGreatDoor
open Go Go.RowKit
set_option linter.unusedVariables false
set_option linter.unusedSimpArgs false

theorem src_new (w : World) (a : Option Addr) (len cap : Nat) : Src (w.alloc (.cells #[.slice a len cap, .int .i64 0, .int .u64 0] 88)) w.heap.size a len cap 0 :=
  ⟨⟨0, 0, Nat.le_refl _, by decide, by decide, Own.alloc w _ _⟩⟩
theorem code_of {w : World} {a : Option Addr} {len cap : Nat} {xs : List Int} (h : IRow .u8 w a len cap xs) (hl : len ≤ 1048576) (o : Obj) : Code (w.alloc o) w.heap.size a len xs := by
  refine ⟨h.1.keep (keep_own w o), h.2.2.2.2, ?_, hl⟩
  intro b oo e h0
  rcases h.1.cells with h1 | ⟨b', o', e', hb, _⟩
  · omega
  · rw [e] at e'
    injection e' with e'
    injection e' with e1 e2
    subst e1
    exact hb
theorem spec_l00From (a : Option Addr) (len cap : Nat) (w : World) : Calls Tryz.prog 38 #[.slice a len cap] w fun e w' => e = .returned (.pointer (some ⟨w.heap.size, 0, none⟩)) ∧ w' = w.alloc (.cells #[.slice a len cap, .int .i64 0, .int .u64 0] 88) := by
  go_enter Tryz.func38, Tryz.ntmps38
  go_wp2
  go_ret
  exact ⟨rfl, rfl⟩
theorem below_src {w w' : World} {o : Obj} (g : (w.alloc o).grownBy w' (some w.heap.size)) : Below w.heap.size w w' :=
  below_of_grown (grown_trans (grown_alloc (grown_refl w none) o) g (fun k hk => .inl (by injection hk with hk; omega)))
set_option maxRecDepth 100000 in
theorem spec_B10Number (a : Option Addr) (len cap : Nat) (xs : List Int) (w : World) (h : IRow .u8 w a len cap xs) (hl : len ≤ 1048576) :
    Calls Tryz.prog 19 #[.slice a len cap] w fun e w' => IsFloat e ∧ Below w.heap.size w w' := by
  have HC := Lib.hid (code_of h hl (.cells #[.slice a len cap, .int .i64 0, .int .u64 0] 88))
  have HS := Lib.hid (src_new w a len cap)
  have HB := Lib.hid (fun (w' : World) (g : (w.alloc (.cells #[.slice a len cap, .int .i64 0, .int .u64 0] 88)).grownBy w' (some w.heap.size)) => below_src g)
  clear h hl
  generalize hW : w.alloc (.cells #[.slice a len cap, .int .i64 0, .int .u64 0] 88) = W at *
  go_enter Tryz.func19, Tryz.ntmps19
  go_wp2_with fail
  refine (spec_l00From a len cap w).mono ?_
  rintro e w1 ⟨rfl, rfl⟩
  rw [hW]
  clear hW
  go_wp2_with fail
  refine (src_one w.heap.size a len cap 0 xs W 2 HS.out HC.out (by omega) (by omega) (by omega)).mono ?_
  rintro e w2 ⟨⟨b, rfl⟩, g2, s2⟩
  have HS2 := Lib.hid s2
  have HC2 := Lib.hid (HC.out.grown g2)
  have G2 := Lib.hid g2
  clear s2 g2
  cases b with
  | false =>
    go_wp2_with fail
    refine (spec_l01DrawFloat w.heap.size a len cap (0 + 2) xs w2 HS2.out HC2.out (by omega)).mono ?_
    rintro e w3 ⟨⟨r, hr, rfl⟩, g3, s3⟩
    have G3 := Lib.hid (HB.out _ (grown_trans G2.out g3 (fun k hk => .inr hk)))
    clear g3 s3
    go_wp2
    go_ret
    exact ⟨⟨r, hr, rfl⟩, G3.out⟩
  | true =>
    go_wp2_with fail
    refine (src_pick w.heap.size a len cap (0 + 2) xs w2 65536 HS2.out HC2.out (by omega) (by omega) (by omega)).mono ?_
    rintro e w3 ⟨u, hu, rfl, g3, s3⟩
    have HS3 := Lib.hid s3
    have HC3 := Lib.hid (HC2.out.grown g3)
    have G3 := Lib.hid (grown_trans G2.out g3 (fun k hk => .inr hk))
    clear s3 g3
    go_wp2_with fail
    refine (src_pick w.heap.size a len cap (0 + 2 + 2) xs w3 65536 HS3.out HC3.out (by omega) (by omega) (by omega)).mono ?_
    rintro e w4 ⟨u2, hu2, rfl, g4, s4⟩
    have G4 := Lib.hid (HB.out _ (grown_trans G3.out g4 (fun k hk => .inr hk)))
    clear g4 s4
    go_wp2_with fail
    refine (spec_l01From ((u : Int) * 65536 + (u2 : Int)) _ (by omega) (by omega)).mono ?_
    rintro e w5 ⟨⟨r, hr, rfl⟩, rfl⟩
    go_wp2
    go_ret
    exact ⟨⟨r, hr, rfl⟩, G4.out⟩

theorem F_keep {w w' : World} {base S : Nat} {v : Value} {us : List Nat} (h : FOwn w base v us) (g : w.grownBy w' (some S)) (hS : S < base) : FOwn w' base v us := by
  refine h.other g ?_
  cases e : v.ownBlock with
  | none => exact .inl rfl
  | some k => exact .inr (fun e2 => by have := (h.lt k e).1; injection e2 with e2; omega)
theorem grown_below {w w1 w' : World} {S n : Nat} (h : w.grownBy w1 (some S)) (hb : Below n w1 w') (hn : w.heap.size ≤ n) : w.grownBy w' (some S) := by
  refine ⟨hb.os.trans h.os, hb.tape.trans h.tape, hb.output.trans h.output, Nat.le_trans h.size hb.size, fun k hk hne => ?_⟩
  rw [hb.block k (by omega)]
  exact h.block k hk hne
set_option maxHeartbeats 2000000 in
set_option maxRecDepth 100000 in
theorem spec_l01DrawFloats (S : Nat) (a : Option Addr) (len cap K : Nat) (xs : List Int) (w : World) (n : Nat) (hs : Src w S a len cap K) (hc : Code w S a len xs) (hK : K ≤ 900000) (hn : n ≤ 16) :
    Calls Tryz.prog 64 #[.pointer (some ⟨S, 0, none⟩), .int .i64 (n : Int)] w fun e w' => (∃ A c us, e = .returned (.slice A n c) ∧ FOwn w' w.heap.size (.slice A n c) us ∧ us.length = n ∧ ∀ x ∈ us, x < 2 ^ 32) ∧ w.grownBy w' (some S) := by
  have HS := Lib.hid hs
  have HC := Lib.hid hc
  have HK := Lib.hid hK
  have HSL := Lib.hid hs.lt
  clear hs hc hK
  go_enter Tryz.func64, Tryz.ntmps64
  go_wp2_with fail
  refine (src_one S a len cap K xs _ 4 (HS.out.alloc _) (HC.out.alloc _) (by have := HK.out; omega) (by omega) (by omega)).mono ?_
  rintro e w1 ⟨⟨b, rfl⟩, g1, s1⟩
  have HF1 := Lib.hid (F_keep (FOwn.empty w) g1 HSL.out)
  have HS1 := Lib.hid s1
  have HC1 := Lib.hid ((HC.out.alloc (.cells #[] 28)).grown g1)
  have G1 := Lib.hid (grown_trans (grown_alloc (grown_refl w (some S)) _) g1 (fun k hk => .inr hk))
  clear s1 g1
  go_wp2_with fail
  go_loopw [1, 5] (fun c1 c5 wr => ∃ (i : Nat) (us : List Nat), i ≤ n ∧ c1 = .int .i64 ((n : Int) - (i : Int)) ∧ Hid (FOwn wr w.heap.size c5 us) ∧ Hid (us.length = i) ∧ Hid (∀ x ∈ us, x < 2 ^ 32) ∧ Hid (w.grownBy wr (some S)) ∧ Hid (Src wr S a len cap (K + 2 + 12 * i)) ∧ Hid (Code wr S a len xs)) (fun c1 _ _ => (intOf c1).toNat)
  case atStart => exact ⟨0, [], by omega, by simp, HF1, Lib.hid rfl, Lib.hid (fun x hx => by cases hx), G1, HS1, HC1⟩
  case round =>
    clear HF1 HS1 HC1 G1
    obtain ⟨i, us, hin, rfl, HF, HN, HV, HG, HSS, HCC⟩ := hrel
    by_cases hlt : i < n
    · have HVS : Hid (us.length ≤ 1048576) := Lib.hid (by have := HN.out; omega)
      have d1 : decide ((0 : Int) < (n : Int) - (i : Int)) = true := decide_eq_true (by omega)
      cases b with
      | true =>
        go_wp2_with (first
          | (go_at_call 53; refine (spec_l01DrawFloat S a len cap (K + 2 + 12 * i) xs _ HSS.out HCC.out (by have := HK.out; omega)).mono ?_; rintro e w2 ⟨⟨r, hr, rfl⟩, g2, s2⟩; have HF2 := Lib.hid (F_keep HF.out g2 HSL.out); have HS2 := Lib.hid s2; have HC2 := Lib.hid (HCC.out.grown g2); have HG2 := Lib.hid (grown_trans HG.out g2 (fun k hk => .inr hk)); clear g2 s2)
          | (at_builtin; refine list_one (by rfl) (.tmp 15) (.tmp 18) (by rfl) HF2.out _ (by rfl) (by rfl) HVS.out HG2.out.size ?_; intro v3 w3 hb3 ho3; have HF3 := Lib.hid ho3; have HS3 := Lib.hid (HS2.out.below hb3 HSL.out); have HC3 := Lib.hid (HC2.out.below hb3 HSL.out); have HG3 := Lib.hid (grown_below HG2.out hb3 (Nat.le_refl _)); clear hb3 ho3))
        go_roundw
        case rel => exact ⟨i + 1, us ++ [r], by omega, by go_num, HF3, Lib.hid (by rw [List.length_append, HN.out]; rfl), Lib.hid (fun x hx => by
          rcases List.mem_append.1 hx with hx | hx
          · exact HV.out x hx
          · rw [List.mem_singleton.1 hx]; exact hr), HG3, Lib.hid (HS3.out.mono (by omega)), HC3⟩
        case measure => simp [intOf]; omega
      | false =>
        go_wp2_with (first
          | (go_at_call 78; refine (spec_l01DrawPlain S a len cap (K + 2 + 12 * i) xs _ HSS.out HCC.out (by have := HK.out; omega)).mono ?_; rintro e w2 ⟨⟨r, hr, rfl⟩, g2, s2⟩; have HF2 := Lib.hid (F_keep HF.out g2 HSL.out); have HS2 := Lib.hid s2; have HC2 := Lib.hid (HCC.out.grown g2); have HG2 := Lib.hid (grown_trans HG.out g2 (fun k hk => .inr hk)); clear g2 s2)
          | (at_builtin; refine list_one (by rfl) (.tmp 20) (.tmp 23) (by rfl) HF2.out _ (by rfl) (by rfl) HVS.out HG2.out.size ?_; intro v3 w3 hb3 ho3; have HF3 := Lib.hid ho3; have HS3 := Lib.hid (HS2.out.below hb3 HSL.out); have HC3 := Lib.hid (HC2.out.below hb3 HSL.out); have HG3 := Lib.hid (grown_below HG2.out hb3 (Nat.le_refl _)); clear hb3 ho3))
        go_roundw
        case rel => exact ⟨i + 1, us ++ [r], by omega, by go_num, HF3, Lib.hid (by rw [List.length_append, HN.out]; rfl), Lib.hid (fun x hx => by
          rcases List.mem_append.1 hx with hx | hx
          · exact HV.out x hx
          · rw [List.mem_singleton.1 hx]; exact hr), HG3, Lib.hid (HS3.out.mono (by omega)), HC3⟩
        case measure => simp [intOf]; omega
    · have hi2 : i = n := by omega
      subst hi2
      have d1 : decide ((0 : Int) < (i : Int) - (i : Int)) = false := decide_eq_false (by omega)
      obtain ⟨A, c, hv, h3⟩ := HF.out.value
      subst hv
      clear h3
      have e1 := HN.out
      go_wp2
      go_ret
      refine ⟨⟨A, c, us, ?_, ?_, HN.out, HV.out⟩, HG.out⟩
      · rw [← e1]; rfl
      · have := HF.out
        rwa [e1] at this
theorem spec_B10Numbers (a : Option Addr) (len cap : Nat) (xs : List Int) (w : World) (n : Nat) (h : IRow .u8 w a len cap xs) (hl : len ≤ 1048576) (hn : n ≤ 16) :
    Calls Tryz.prog 29 #[.slice a len cap, .int .i64 (n : Int)] w fun e w' => (∃ A c us, e = .returned (.slice A n c) ∧ FOwn w' w.heap.size (.slice A n c) us ∧ us.length = n ∧ ∀ x ∈ us, x < 2 ^ 32) ∧ Below w.heap.size w w' := by
  have HC := Lib.hid (code_of h hl (.cells #[.slice a len cap, .int .i64 0, .int .u64 0] 88))
  have HS := Lib.hid (src_new w a len cap)
  have HB := Lib.hid (fun (w' : World) (g : (w.alloc (.cells #[.slice a len cap, .int .i64 0, .int .u64 0] 88)).grownBy w' (some w.heap.size)) => below_src g)
  have HZ : Hid (w.heap.size ≤ (w.alloc (.cells #[.slice a len cap, .int .i64 0, .int .u64 0] 88)).heap.size) := Lib.hid (by rw [size_alloc']; omega)
  clear h hl
  generalize hW : w.alloc (.cells #[.slice a len cap, .int .i64 0, .int .u64 0] 88) = W at *
  go_enter Tryz.func29, Tryz.ntmps29
  go_wp2_with fail
  refine (spec_l00From a len cap w).mono ?_
  rintro e w1 ⟨rfl, rfl⟩
  rw [hW]
  clear hW
  go_wp2_with fail
  refine (spec_l01DrawFloats w.heap.size a len cap 0 xs W n HS.out HC.out (by omega) hn).mono ?_
  rintro e w2 ⟨⟨A, c, us, rfl, ho, hlen, hv⟩, g2⟩
  have HR := Lib.hid (And.intro (ho.base HZ.out) (And.intro hlen (And.intro hv (HB.out _ g2))))
  clear ho hlen hv g2
  go_wp2
  go_ret
  exact ⟨⟨A, c, us, rfl, HR.out.1, HR.out.2.1, HR.out.2.2.1⟩, HR.out.2.2.2⟩
end Go.Proofs.YtpjhgfeibkldmaaGreatDoor

