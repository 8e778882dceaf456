/- ReadList: the program's side, by the library's contracts. The tables and errors of the library read as the program's text lays them. -/
import Derived.Test.YtmfaickanmdfnaaDoorRl
import Derived.Test.YtmfaickanmdfnaaDoorRe
namespace Go.Proofs.YtmfaickanmdfnaaDoor
open Go Go.RowKit Go.Proofs.YtmfaickanmdfnaaDoorW.PrintWords Go.Proofs.YtmfaickanmdfnaaDoorW.PrintLast Go.Proofs.YtmfaickanmdfnaaDoorW.PrintMore
attribute [local go_sem] max2_int min2_int max_two min_two max_three min_three max_four min_four
set_option linter.unusedVariables false
set_option linter.unusedSimpArgs false

theorem shaped_on {w w' : World} (h : w.ShapedOpen Tryd.prog) (hb : Below w.heap.size w w') : w'.ShapedOpen Tryd.prog := by
  have same : ∀ {i : Nat} {o : Obj}, w.heap[i]? = some o → w'.heap[i]? = some o := fun {i o} ho => (hb.block i (by
    rcases Nat.lt_or_ge i w.heap.size with h' | h'
    · exact h'
    · simp [Array.getElem?_eq_none h'] at ho)).trans ho
  refine ⟨fun g zero t hg hz => ?_, fun k hk1 hk2 => ?_⟩
  · obtain ⟨cs, h1, h2, h3⟩ := h.1 g zero t hg hz
    refine ⟨cs, same h1, h2, fun hb' => Row.ok_of_shape (fun b x hx => ?_) (h3 hb')⟩
    unfold World.shape? at hx ⊢
    cases e : w.heap[b]? with
    | none => rw [e] at hx; cases hx
    | some o => rw [e] at hx; rw [same e]; exact hx
  · obtain ⟨o, o₀, h1, h2, h3⟩ := h.2 k hk1 hk2
    exact ⟨o, o₀, same h1, h2, h3⟩

/-- A row of texts that lies whole in a block. -/
structure Parts (w : World) (ad : Addr) (ps : List ByteArray) : Prop where
  blk : w.heap[ad.block]? = some (.cells (ps.map Value.string).toArray 9 (0, 0))
  at0 : ad = ⟨ad.block, 0, none⟩
  few : ps.length ≤ 1048577
theorem Parts.lt {w : World} {ad : Addr} {ps : List ByteArray} (h : Parts w ad ps) : ad.block < w.heap.size := lt_of_block h.blk
theorem Parts.on {w w' : World} {ad : Addr} {ps : List ByteArray} (h : Parts w ad ps) (hb : Below w.heap.size w w') : Parts w' ad ps := ⟨(hb.block _ h.lt).trans h.blk, h.at0, h.few⟩
theorem Parts.grown {w w' : World} {ad : Addr} {ps : List ByteArray} {row : Option Nat} (h : Parts w ad ps) (hg : w.grownBy w' row) (hne : some ad.block ≠ row) : Parts w' ad ps := ⟨(hg.block _ h.lt hne).trans h.blk, h.at0, h.few⟩
theorem Parts.C {w : World} {ad : Addr} {ps : List ByteArray} (h : Parts w ad ps) : Kd.C Kd.string w (some ad) ps.length ps := by
  have hlen : ps.length ≤ 9223372036854775807 := by have := h.few; omega
  refine Kd.C_of_reads (d := ByteArray.empty) ⟨rfl, hlen, fun hn => ⟨_, rfl, fun j hj => ?_⟩⟩
  have e1 : ps.getD j ByteArray.empty = ps[j] := by rw [List.getD_eq_getElem?_getD, List.getElem?_eq_getElem hj]; rfl
  have e2 : ad.add j = ⟨ad.block, j, none⟩ := by
    rw [h.at0]
    unfold Addr.add; split
    · rename_i h0; subst h0; rfl
    · simp
  rw [e1, e2]
  unfold World.cell?
  rw [h.blk]
  simp [hj]
theorem split_calls (s : ByteArray) (hs : s.size ≤ 1048576) (w : World) (h : w.ShapedOpen Tryd.prog) :
    Calls Tryd.prog 49 #[.string s, .string ⟨#[44]⟩] w fun e w' => (∃ ad, e = .returned (.slice (some ad) (partsB s).length (partsB s).length) ∧ Parts w' ad (partsB s) ∧ w.heap.size ≤ ad.block) ∧ Below w.heap.size w w' := by
  refine (Tryd.strings_Split_shaped s ⟨#[44]⟩ w h (by omega) (by decide)).mono ?_
  rintro e w' ⟨rfl, rfl⟩
  rw [split_parts, ← split_len]
  have hlen : (partsB s).length ≤ 1048577 := by
    have := cutFrom_len s.data.toList []
    rw [data_length] at this
    unfold partsB; rw [List.length_map]; omega
  exact ⟨⟨_, rfl, ⟨by show (w.heap.push _)[w.heap.size]? = _; simp, rfl, hlen⟩, Nat.le_refl _⟩, (Below.refl _ _).alloc (Nat.le_refl _) _⟩

/-- The rest is read behind what has been read. -/
def Read (ps : List ByteArray) (i : Nat) (acc : List Int) : Prop := acc.length = i ∧ i ≤ 64 ∧ i ≤ ps.length ∧ readAll ps = (readAll (ps.drop i)).map (acc ++ ·)
theorem Read.start (ps : List ByteArray) : Read ps 0 [] := ⟨rfl, by omega, by omega, by rw [List.drop_zero]; cases readAll ps <;> simp⟩
theorem Read.next {ps : List ByteArray} {i : Nat} {acc : List Int} (h : Read ps i acc) (hi : i < ps.length) (h6 : i ≠ 64) (hb : (rdB ps[i]).2 = true) : Read ps (i + 1) (acc ++ [(rdB ps[i]).1]) := by
  obtain ⟨h1, h2, h3, h4⟩ := h
  refine ⟨by rw [List.length_append, h1]; rfl, by omega, by omega, ?_⟩
  rw [h4, List.drop_eq_getElem_cons hi, readAll, if_pos hb, Option.map_map]
  congr 1
  funext l
  simp
theorem Read.bad {ps : List ByteArray} {i : Nat} {acc : List Int} (h : Read ps i acc) (hi : i < ps.length) (hb : (rdB ps[i]).2 = false) : readAll ps = none := by
  obtain ⟨h1, h2, h3, h4⟩ := h
  rw [h4, List.drop_eq_getElem_cons hi, readAll, if_neg (by rw [hb]; decide)]; rfl
theorem Read.done {ps : List ByteArray} {acc : List Int} (h : Read ps ps.length acc) : readAll ps = some acc ∧ ps.length ≤ 64 := by
  obtain ⟨h1, h2, h3, h4⟩ := h
  rw [List.drop_length] at h4
  refine ⟨?_, h2⟩
  rw [h4]; simp [readAll]
theorem rl_bad (s : ByteArray) (h0 : ¬ s.toList = ([110, 111, 110, 101] : List UInt8)) (h : readAll (partsB s) = none ∨ (partsB s).length > 64) : rlB s = ([], false) := by
  unfold rlB
  rw [if_neg h0]
  split
  · rfl
  · rcases h with h | h
    · rw [h]; rfl
    · contradiction
theorem rl_done (s : ByteArray) (h0 : ¬ s.toList = ([110, 111, 110, 101] : List UInt8)) {acc : List Int} (h : Read (partsB s) (partsB s).length acc) : rlB s = (acc, true) := by
  obtain ⟨h1, h2⟩ := h.done
  unfold rlB
  rw [if_neg h0, if_neg (by omega), h1]; rfl

theorem impl_ReadList (s : ByteArray) (hs : s.size ≤ 1048576) (w : World) (hY : Lay w) (hSh : w.ShapedOpen Tryd.prog) :
    Calls Tryd.prog 23 #[.string s] w fun e w' => ∃ v : Value, e = .returned (.tuple #[v, .bool (rlB s).2]) ∧ Kd.R (Kd.int .i64) 2 w' w.heap.size (fun _ => True) v (rlB s).1 ∧ Below w.heap.size w w' := by
  have HB := Aside0.mk (Below.refl w.heap.size w)
  have HY := Aside0.mk hY
  have HSh := Aside0.mk hSh
  clear hY hSh
  by_cases h0 : s.toList = ([110, 111, 110, 101] : List UInt8)
  · have e : rlB s = ([], true) := by unfold rlB; rw [if_pos h0]
    rw [e]; clear e
    have c1 : (s.toList == ([110, 111, 110, 101] : List UInt8)) = true := beq_iff_eq.2 h0
    go_enter Tryd.func23, Tryd.ntmps23
    go_wp2_with (first | ((with_reducible refine gate_dst (N := 9) rfl ?_); refine Kd.R_lit (Kd.int .i64) _ 2 ?hg (N := 9) ?hd (xs := ([] : List Int)) (inner := []) (ok := fun _ => True) (okp := fun _ => True) ?hr ?hp (fun _ hk => hk) trivial (Below.refl _ _) (Nat.le_refl _) (by simp) ?_; (case hd => rfl); (case hg => rfl); (case hr => first | (go_simp; done) | (go_simp; rfl)); (case hp => exact (Reps.none _ _)); intro v127 w3 ho4 hb hg_ hnew_; clear hg_ hnew_; have HO := Aside0.mk ho4; have HB2 := Aside0.mk hb; clear ho4 hb HB))
    go_ret2
    exact ⟨_, rfl, HO.out, HB2.out⟩
  · have c1 : (s.toList == ([110, 111, 110, 101] : List UInt8)) = false := beq_eq_false_iff_ne.2 h0
    have HE0 : Aside0 (readAll (partsB s) = none ∨ (partsB s).length > 64 → rlB s = ([], false)) := ⟨rl_bad s h0⟩
    have HE1 : Aside0 (∀ acc, Read (partsB s) (partsB s).length acc → rlB s = (acc, true)) := ⟨fun acc => rl_done s h0⟩
    have HSm : Aside0 (∀ p ∈ partsB s, p.size ≤ 1048576) := ⟨fun p hp => Nat.le_trans (parts_small s p hp) hs⟩
    have HSp : Aside0 (∀ w : World, w.ShapedOpen Tryd.prog → Calls Tryd.prog 49 #[.string s, .string ⟨#[44]⟩] w fun e w' => (∃ ad, e = .returned (.slice (some ad) (partsB s).length (partsB s).length) ∧ Parts w' ad (partsB s) ∧ w.heap.size ≤ ad.block) ∧ Below w.heap.size w w') := ⟨fun w h => split_calls s hs w h⟩
    have HLn : (partsB s).length ≤ 1048577 := by
      have := cutFrom_len s.data.toList []
      rw [data_length] at this
      unfold partsB; rw [List.length_map]; omega
    obtain ⟨R, hR⟩ : ∃ y, y = rlB s := ⟨_, rfl⟩
    rw [← hR] at HE0 HE1 ⊢
    obtain ⟨ps, hps⟩ : ∃ y, y = partsB s := ⟨_, rfl⟩
    rw [← hps] at HE0 HE1 HSm HSp HLn
    clear hR hps
    go_enter Tryd.func23, Tryd.ntmps23
    go_wp2_with (first | ((with_reducible refine gate_dst (N := 9) rfl ?_); refine Kd.R_lit (Kd.int .i64) _ 2 ?hg (N := 9) ?hd (xs := ([] : List Int)) (inner := []) (ok := fun _ => True) (okp := fun _ => True) ?hr ?hp (fun _ hk => hk) trivial (Below.refl _ _) (Nat.le_refl _) (by simp) ?_; (case hd => rfl); (case hg => rfl); (case hr => first | (go_simp; done) | (go_simp; rfl)); (case hp => exact (Reps.none _ _)); intro v127 w3 ho4 hb hg_ hnew_; clear hg_ hnew_; have HO := Aside0.mk ho4; have HB2 := Aside0.mk hb; clear ho4 hb HB) | (go_at_call 49; refine (HSp.out _ (shaped_on HSh.out HB2.out)).mono ?_; rintro e w5 ⟨⟨ad, rfl, hrP, hge⟩, hb⟩; have n0 := Aside0.mk (Kd.R_below (Kd.R_mono (ok' := fun k => k ≠ ad.block) (Kd.R_bound HO.out) (fun k hk => by have := hk.2.2.1; omega)) hb); have n1 := Aside0.mk (below_step HB2.out hb); have HPs := Aside0.mk hrP; clear HO HB2 hb hrP hge; have HO := n0; have HB2 := n1; clear n0 n1))
    clear HSp
    have HR0 := Aside0.mk (Read.start ps)
    go_loopg [4, 16] (ps.length + 1) (fun kq v4 v16 w' => ∃ (i : Int) (acc : List Int), 0 ≤ i ∧ i ≤ ps.length ∧ v16 = .int .i64 i ∧ Aside0 (Read ps i.toNat acc) ∧ Aside0 ((kq : Int) + i = ps.length + 1) ∧ Aside0 (Kd.R (Kd.int .i64) 2 w' w.heap.size (fun k => k ≠ ad.block) v4 acc) ∧ Aside0 (Below w.heap.size w w') ∧ Aside0 (Parts w' ad ps))
    case atStart => exact ⟨0, [], Int.le_refl _, by omega, rfl, HR0, ⟨by simp⟩, HO, HB2, HPs⟩
    case round =>
      clear HO HB2 HPs HR0
      obtain ⟨i, acc, hi0, hi1, rfl, HR, HK, HO, HB, HPs⟩ := hrel
      cases gk with
      | zero => exact absurd HK.out (by simp; omega)
      | succ k1 =>
        by_cases hlt : i < (ps.length : Int)
        · obtain ⟨ad2, e0, hc⟩ := Kd.at_string HPs.out.C i hi0 hlt
          obtain rfl : ad = ad2 := by injection e0
          have p1 := eq_true hi0
          have q1 := eq_true hlt
          have p2 := decide_eq_true hlt
          have hi : i.toNat < ps.length := by omega
          have er := rdOf_at ps i.toNat hi
          rw [Int.toNat_of_nonneg hi0] at er
          have HSz : Aside0 ((rdOf ByteArray.empty ps i).size ≤ 1048576) := ⟨by rw [er]; exact HSm.out _ (List.getElem_mem hi)⟩
          have HBad : Aside0 ((rdB (rdOf ByteArray.empty ps i)).2 = false → R = ([], false)) := ⟨fun h => HE0.out (Or.inl (HR.out.bad hi (by rw [← er]; exact h)))⟩
          have HNext : Aside0 (i ≠ 64 → (rdB (rdOf ByteArray.empty ps i)).2 = true → Read ps (i + 1).toNat (acc ++ [(rdB (rdOf ByteArray.empty ps i)).1])) := ⟨fun h6 hb => by
            have := HR.out.next hi (by omega) (by rw [← er]; exact hb)
            rw [show (i + 1).toNat = i.toNat + 1 by omega, er]; exact this⟩
          have hlen : (acc.length : Int) = i := by have := HR.out.1; omega
          clear er hi
          obtain ⟨A4, c4, rfl⟩ := Kd.R_slice HO.out
          rcases hP : rdB (rdOf ByteArray.empty ps i) with ⟨n, b⟩
          rw [hP] at HBad HNext
          have HP := Aside0.mk hP
          clear hP
          cases b with
          | false =>
            have HF := Aside0.mk (HBad.out rfl)
            clear HBad HNext HE0 HE1
            go_wp2_with (first | (go_at_call 21; refine (impl_ReadDecimal _ HSz.out _ (HY.out.on HB.out)).mono ?_; rw [HP.out]; rintro e w5 ⟨rfl, hb⟩; have n1 := Aside0.mk (below_step HB.out hb); clear HO HB hb HPs; have HB := n1; clear n1))
            go_ret2
            rw [HF.out]
            exact ⟨_, rfl, Kd.R_nil _ _ _ _ _, HB.out⟩
          | true =>
            by_cases h6 : i = 64
            · have HF := Aside0.mk (HE0.out (Or.inr (by omega)))
              have c2 : ((acc.length : Int) == 64) = true := beq_iff_eq.2 (by omega)
              clear h6 hlen HBad HNext HE0 HE1
              go_wp2_with (first | (go_at_call 21; refine (impl_ReadDecimal _ HSz.out _ (HY.out.on HB.out)).mono ?_; rw [HP.out]; rintro e w5 ⟨rfl, hb⟩; have n1 := Aside0.mk (below_step HB.out hb); clear HO HB hb HPs; have HB := n1; clear n1))
              go_ret2
              rw [HF.out]
              exact ⟨_, rfl, Kd.R_nil _ _ _ _ _, HB.out⟩
            · have HN := Aside0.mk (HNext.out h6 rfl)
              have c2 : ((acc.length : Int) == 64) = false := beq_eq_false_iff_ne.2 (by omega)
              have HLen : Aside0 (acc.length ≤ 64) := ⟨by have := HR.out.2.1; have := HR.out.1; omega⟩
              clear HBad HNext HR
              go_wp2_with (first | (go_at_call 21; refine (impl_ReadDecimal _ HSz.out _ (HY.out.on HB.out)).mono ?_; rw [HP.out]; rintro e w5 ⟨rfl, hb⟩; have n0 := Aside0.mk (Kd.R_below HO.out hb); have n1 := Aside0.mk (below_step HB.out hb); have n2 := Aside0.mk (HPs.out.on hb); clear HO HB hb HPs; have HO := n0; have HB := n1; have HPs := n2; clear n0 n1 n2) | ((with_reducible refine gate_builtin (b := .append) (xs := #[.tmp 32, .tmp 34]) rfl ?_); at_builtin; refine Kd.R_append (Kd.int .i64) (w0 := w) w.heap.size rfl (.tmp 32) (.tmp 34) 24 2 (.int .i64 0) 8 rfl Tryd.underlying24 Pr.info2 rfl (by decide) (by omega) (.slice A4 acc.length c4) acc n [.int .i64 n] (fun k => k ≠ ad.block) (fun _ => False) rfl rfl ?aP (fun _ hk => hk.elim) ?aF ?aO ?aB ?aS ?aL ?_; (case aP => exact rfl); (case aB => exact (by repeat (first | (with_reducible first | exact HB.out | apply below_alloc | apply pw_below_drewN | apply below_drew1) | exact HB.out))); (case aF => exact (fun k hk => by have := HPs.out.lt; simp only [ne_eq]; omega)); (case aO => exact (by (with_reducible repeat (first | apply Kd.R_alloc | apply Kd.R_drewN | apply Kd.R_drew)); exact HO.out)); (case aS => exact (below_size (by repeat (first | (with_reducible first | exact HB.out | apply below_alloc | apply pw_below_drewN | apply below_drew1) | exact HB.out)))); (case aL => have := HLen.out; omega); intro v130 w11 ho hb hg hat; have n0_ := Aside0.mk (hb); have n1_ := Aside0.mk (ho); have n2_ := Aside0.mk (HPs.out.grown hg (fun e => HO.out.1 _ e.symm rfl)); clear HB; clear HO; clear HPs; have HB := n0_; have HO := n1_; have HPs := n2_; clear n0_ n1_ n2_; clear ho hb hg hat))
              go_roundg k1
              case measure => omega
              case rel => exact ⟨i + 1, _, by omega, by omega, rfl, HN, ⟨by have := HK.out; push_cast at this ⊢; omega⟩, HO, HB, HPs⟩
        · have hk2 : i = (ps.length : Int) := by omega
          subst hk2
          have HF := Aside0.mk (HE1.out acc (by have := HR.out; rwa [Int.toNat_natCast] at this))
          clear HE0 HE1 HSm
          go_wp2
          go_ret2
          rw [HF.out]
          exact ⟨_, rfl, Kd.R_mono HO.out (fun _ _ => trivial), HB.out⟩
end Go.Proofs.YtmfaickanmdfnaaDoor
