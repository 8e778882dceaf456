/- ReadComplex: both sides, walked. The library's tables and errors read as the program's text lays them. -/
import Derived.Test.YtmfaickanmdfnaaDoorJb
namespace Go.Proofs.YtmfaickanmdfnaaDoor
open Go Go.RowKit Go.Proofs.YtmfaickanmdfnaaDoorW.PrintWords Go.Proofs.YtmfaickanmdfnaaDoorW.PrintLast Go.Proofs.YtmfaickanmdfnaaDoorW.PrintMore
set_option linter.unusedVariables false
set_option linter.unusedSimpArgs false

/-- The complex number with a text of sixteen digits. -/
def rdC (p : ByteArray) : Option (Nat × Nat) := if p.size = 16 then (rdH (p.extract 0 8)).bind fun x => (rdH (p.extract 8 16)).map fun y => (x, y) else none
theorem rdC_size {p : ByteArray} (h : p.size ≠ 16) : rdC p = none := if_neg h
theorem rdC_one {p : ByteArray} (h : rdH (p.extract 0 8) = none) : rdC p = none := by unfold rdC; rw [h]; split <;> rfl
theorem rdC_two {p : ByteArray} (h : rdH (p.extract 8 16) = none) : rdC p = none := by
  unfold rdC
  rw [h]
  split
  · cases rdH (p.extract 0 8) <;> rfl
  · rfl
theorem rdC_both {p : ByteArray} {x y : Nat} (h : p.size = 16) (h1 : rdH (p.extract 0 8) = some x) (h2 : rdH (p.extract 8 16) = some y) : rdC p = some (x, y) := by
  unfold rdC; rw [if_pos h, h1, h2]; rfl
theorem half_one {p : ByteArray} (h : p.size = 16) : (p.extract 0 8).size = 8 := by rw [ByteArray.size_extract]; omega
theorem half_two {p : ByteArray} (h : p.size = 16) : (p.extract 8 16).size = 8 := by rw [ByteArray.size_extract]; omega
def readC : List ByteArray → Option (List (Nat × Nat))
  | [] => some []
  | p :: ps => (rdC p).bind fun x => (readC ps).map (x :: ·)
def endC : Option (List (Nat × Nat)) → List (Nat × Nat) × Bool
  | some l => (l, true)
  | none => ([], false)
/-- What ReadComplex returns. -/
def rcB (s : ByteArray) : List (Nat × Nat) × Bool :=
  if s.toList = ([110, 111, 110, 101] : List UInt8) then ([], true)
  else if (partsB s).length > 256 then ([], false) else endC (readC (partsB s))
theorem readC_len : ∀ (ps : List ByteArray) (l : List (Nat × Nat)), readC ps = some l → l.length = ps.length
  | [], l, h => by simp only [readC] at h; injection h with h; subst h; rfl
  | p :: ps, l, h => by
    rw [readC] at h
    cases hr : rdC p with
    | none => rw [hr] at h; cases h
    | some x =>
      rw [hr, Option.bind_some] at h
      cases hr2 : readC ps with
      | none => rw [hr2] at h; cases h
      | some l' =>
        rw [hr2] at h
        injection h with h
        subst h
        have := readC_len ps l' hr2
        simp only [List.length_cons]; omega
theorem rcB_len (s : ByteArray) : (rcB s).1.length ≤ 256 := by
  unfold rcB
  split
  · simp
  · split
    · simp
    · cases hr : readC (partsB s) with
      | none => simp [endC]
      | some l =>
        have := readC_len _ _ hr
        simp only [endC]; omega
/-- The rest is read behind what has been read. -/
def RdC (ps : List ByteArray) (i : Nat) (acc : List (Nat × Nat)) : Prop := acc.length = i ∧ i ≤ ps.length ∧ readC ps = (readC (ps.drop i)).map (acc ++ ·)
theorem RdC.start (ps : List ByteArray) : RdC ps 0 [] := ⟨rfl, by omega, by rw [List.drop_zero]; cases readC ps <;> simp⟩
theorem RdC.next {ps : List ByteArray} {i : Nat} {x : Nat × Nat} {acc : List (Nat × Nat)} (h : RdC ps i acc) (hi : i < ps.length) (hb : rdC ps[i] = some x) : RdC ps (i + 1) (acc ++ [x]) := by
  obtain ⟨h1, h3, h4⟩ := h
  refine ⟨by rw [List.length_append, h1]; rfl, by omega, ?_⟩
  rw [h4, List.drop_eq_getElem_cons hi, readC, hb, Option.bind_some, Option.map_map]
  congr 1
  funext l
  simp
theorem RdC.bad {ps : List ByteArray} {i : Nat} {acc : List (Nat × Nat)} (h : RdC ps i acc) (hi : i < ps.length) (hb : rdC ps[i] = none) : readC ps = none := by
  obtain ⟨h1, h3, h4⟩ := h
  rw [h4, List.drop_eq_getElem_cons hi, readC, hb]; rfl
theorem RdC.done {ps : List ByteArray} {acc : List (Nat × Nat)} (h : RdC ps ps.length acc) : readC ps = some acc := by
  obtain ⟨h1, h3, h4⟩ := h
  rw [List.drop_length] at h4
  rw [h4]; simp [readC]
theorem rc_bad (s : ByteArray) (h0 : ¬ s.toList = ([110, 111, 110, 101] : List UInt8)) (h : readC (partsB s) = none ∨ (partsB s).length > 256) : rcB s = ([], false) := by
  unfold rcB
  rw [if_neg h0]
  split
  · rfl
  · rcases h with h | h
    · rw [h]; rfl
    · contradiction
theorem rc_done (s : ByteArray) (h0 : ¬ s.toList = ([110, 111, 110, 101] : List UInt8)) (hl : (partsB s).length ≤ 256) {acc : List (Nat × Nat)} (h : RdC (partsB s) (partsB s).length acc) : rcB s = (acc, true) := by
  unfold rcB
  rw [if_neg h0, if_neg (by omega), h.done]; rfl


/-- Rows of complex numbers. -/
def Kc : Kd (Nat × Nat) := Kd.scalar encC (fun _ => rfl)
theorem infoc64 : (Tryd.prog.info? 68).map (fun i => (i.zero, i.size, i.bytes)) = some (some (.complex .f32 0 0), 1, 8) := by kernel_rfl
set_option maxHeartbeats 1000000 in
theorem impl_ReadComplex (s : ByteArray) (hs : s.size ≤ 1048576) (w : World) (hY : Lay w) (hT : Tz w) (hSh : w.ShapedOpen Tryd.prog) :
    Calls Tryd.prog 31 #[.string s] w fun e w' => ∃ v : Value, e = .returned (.tuple #[v, .bool (rcB s).2]) ∧ Kd.R Kc 68 w' w.heap.size (fun _ => True) v (rcB s).1 ∧ Below w.heap.size w w' := by
  have HB := Aside0.mk (Below.refl w.heap.size w)
  have HY := Aside0.mk hY
  have HT := Aside0.mk hT
  have HSh := Aside0.mk hSh
  clear hY hT hSh
  by_cases h0 : s.toList = ([110, 111, 110, 101] : List UInt8)
  · have e : rcB s = ([], true) := by unfold rcB; rw [if_pos h0]
    rw [e]; clear e
    have HA : Aside0 (∀ w, Calls Tryd.prog 51 #[.string s] w fun e w' => e = .returned (.tuple #[.slice none 0 0, .bool true]) ∧ w = w') := ⟨impl_apart_none s h0⟩
    go_enter Tryd.func31, Tryd.ntmps31
    go_wp2_with (first | (go_at_call 51; refine (HA.out _).mono ?_; rintro e w5 ⟨rfl, rfl⟩) | ((with_reducible refine gate_dst (N := 18) rfl ?_); refine Kd.R_lit Kc _ 68 ?hg (N := 18) ?hd (xs := ([] : List (Nat × Nat))) (inner := []) (ok := fun _ => True) (okp := fun _ => True) ?hr ?hp (fun _ hk => hk) trivial (Below.refl _ _) (Nat.le_refl _) (by simp) ?_; (case hd => rfl); (case hg => rfl); (case hr => first | (go_simp; done) | (go_simp; rfl)); (case hp => exact (Reps.none _ _)); intro v127 w3 ho4 hb hg_ hnew_; clear hg_ hnew_; have HO := Aside0.mk ho4; have HB2 := Aside0.mk hb; clear ho4 hb HB))
    go_loopg [6, 21] 1 (fun kq v6 v21 w' => v21 = .int .i64 0 ∧ v6 = v127 ∧ w' = w3)
    case atStart => exact ⟨rfl, rfl, rfl⟩
    case round =>
      obtain ⟨rfl, rfl, rfl⟩ := hrel
      go_wp2
      go_ret2
      exact ⟨_, rfl, HO.out, HB2.out⟩
  · have HA : Aside0 (∀ w : World, w.ShapedOpen Tryd.prog → Calls Tryd.prog 51 #[.string s] w fun e w' => (∃ ad, e = .returned (.tuple #[.slice (some ad) (partsB s).length (partsB s).length, .bool (decide ((partsB s).length ≤ 256))]) ∧ PartG w' ad (partsB s)) ∧ Below w.heap.size w w') := ⟨fun w h => impl_apart s hs h0 w h⟩
    have HE0 : Aside0 (readC (partsB s) = none ∨ (partsB s).length > 256 → rcB s = ([], false)) := ⟨rc_bad s h0⟩
    have HE1 : Aside0 ((partsB s).length ≤ 256 → ∀ acc, RdC (partsB s) (partsB s).length acc → rcB s = (acc, true)) := ⟨fun h acc => rc_done s h0 h⟩
    have HSm : Aside0 (∀ p ∈ partsB s, p.size ≤ 1048576) := ⟨fun p hp => Nat.le_trans (parts_small s p hp) hs⟩
    have HLn : (partsB s).length ≤ 1048577 := by
      have := cutFrom_len s.data.toList []
      rw [data_length] at this
      unfold partsB; rw [List.length_map]; omega
    obtain ⟨R, hR⟩ : ∃ y, y = rcB s := ⟨_, rfl⟩
    rw [← hR] at HE0 HE1 ⊢
    obtain ⟨ps, hps⟩ : ∃ y, y = partsB s := ⟨_, rfl⟩
    rw [← hps] at HE0 HE1 HSm HA HLn
    clear hR hps
    by_cases h256 : ps.length ≤ 256
    · have d1 : decide (ps.length ≤ 256) = true := decide_eq_true h256
      rw [d1] at HA
      go_enter Tryd.func31, Tryd.ntmps31
      go_wp2_with (first | (go_at_call 51; refine (HA.out _ HSh.out).mono ?_; rintro e w5 ⟨⟨ad, rfl, hp⟩, hb⟩; have HPs := Aside0.mk hp; have n0 := Aside0.mk hb; clear hp hb HB; have HB := n0; clear n0) | ((with_reducible refine gate_dst (N := 18) rfl ?_); refine Kd.R_lit Kc (w0 := w) w.heap.size 68 ?hg (N := 18) ?hd (xs := ([] : List (Nat × Nat))) (inner := []) (ok := fun k => k ≠ ad.block) (okp := fun _ => False) ?hr ?hp (fun _ hk => hk.elim) ?hfr HB.out ?hbase (by simp) ?_; (case hfr => exact (by have := HPs.out.lt; simp only [ne_eq]; omega)); (case hbase => exact HB.out.size); (case hd => rfl); (case hg => rfl); (case hr => first | (go_simp; done) | (go_simp; rfl)); (case hp => exact (Reps.none _ _)); intro v127 w3 ho4 hb hg_ hnew_; have HO := Aside0.mk ho4; have HB2 := Aside0.mk hb; have n2 := Aside0.mk (HPs.out.grown hg_ (by simp)); clear hg_ hnew_ ho4 hb HB HPs; have HPs := n2; clear n2))
      have HR0 := Aside0.mk (RdC.start ps)
      go_loopg [6, 21] (ps.length + 1) (fun kq v6 v21 w' => ∃ (i : Int) (acc : List (Nat × Nat)), 0 ≤ i ∧ i ≤ ps.length ∧ v21 = .int .i64 i ∧ Aside0 (RdC ps i.toNat acc) ∧ Aside0 ((kq : Int) + i = ps.length + 1) ∧ Aside0 (Kd.R Kc 68 w' w.heap.size (fun k => k ≠ ad.block) v6 acc) ∧ Aside0 (Below w.heap.size w w') ∧ Aside0 (PartG w' ad ps))
      case atStart => exact ⟨0, [], Int.le_refl _, by omega, rfl, HR0, ⟨by simp⟩, HO, HB2, HPs⟩
      case round =>
        clear HO HB2 HPs HR0
        obtain ⟨i, acc, hi0, hi1, rfl, HR, HK, HO, HB, HPs⟩ := hrel
        cases gk with
        | zero => exact absurd HK.out (by simp; omega)
        | succ k1 =>
          by_cases hlt : i < (ps.length : Int)
          · obtain ⟨ad2, e0, hc⟩ := Kd.at_string HPs.out.C i hi0 hlt
            obtain rfl : ad = ad2 := by injection e0
            have p1 := eq_true hi0
            have q1 := eq_true hlt
            have p2 := decide_eq_true hlt
            have hi : i.toNat < ps.length := by omega
            have er := part_fact hi0 hlt
            have HSz : Aside0 ((rdOf ByteArray.empty ps i).size ≤ 1048576) := ⟨by rw [er]; exact HSm.out _ (List.getElem_mem hi)⟩
            have HBad : Aside0 (rdC (rdOf ByteArray.empty ps i) = none → R = ([], false)) := ⟨fun h => HE0.out (Or.inl (HR.out.bad hi (by rw [← er]; exact h)))⟩
            have HNext : Aside0 (∀ x, rdC (rdOf ByteArray.empty ps i) = some x → RdC ps (i + 1).toNat (acc ++ [x])) := ⟨fun x hb => by
              have := HR.out.next hi (by rw [← er]; exact hb)
              rw [show (i + 1).toNat = i.toNat + 1 by omega]; exact this⟩
            have HLen : Aside0 (acc.length ≤ 256) := ⟨by have := HR.out.1; omega⟩
            clear er hi
            obtain ⟨P, hPe⟩ : ∃ y, y = rdOf ByteArray.empty ps i := ⟨_, rfl⟩
            rw [← hPe] at hc HBad HNext HSz
            clear hPe
            by_cases h16 : P.size = 16
            · have e8 : ((P.size : Int) != 16) = false := bne_eq_false_iff_eq.2 (by omega)
              have e8' : ((P.size : Int) == 16) = true := beq_iff_eq.2 (by omega)
              have HZ1 : Aside0 ((P.extract 0 8).size ≤ 1048576) := ⟨by rw [half_one h16]; decide⟩
              have HZ2 : Aside0 ((P.extract 8 16).size ≤ 1048576) := ⟨by rw [half_two h16]; decide⟩
              have H16 := Aside0.mk h16
              rcases hP1 : rdH (P.extract 0 8) with _ | x
              · have HF := Aside0.mk (HBad.out (rdC_one hP1))
                have HP1 := Aside0.mk hP1
                clear HBad HNext HE0 HE1 hP1
                rcases hP2 : rdH (P.extract 8 16) with _ | y
                all_goals
                  have HP2 := Aside0.mk hP2
                  clear hP2
                  go_wp2_with (first | (go_at_call 52; ((with_reducible refine (impl_readDigits (P.extract 0 8) HZ1.out _ (HY.out.on HB.out) (HT.out.on HB.out)).mono ?_)); rw [HP1.out]; rintro e w5 ⟨⟨x', rfl, hx'⟩, hb⟩; have HXX := Aside0.mk hx'; have n0 := Aside0.mk (Kd.R_below HO.out hb); have n1 := Aside0.mk (below_step HB.out hb); have n2 := Aside0.mk (HPs.out.on hb); clear HO HB hb HPs hx'; have HO := n0; have HB := n1; have HPs := n2; clear n0 n1 n2; refine Hid.out ?_))
                  refine Lib.hid ?_
                  go_wp2_with (first | (go_at_call 52; ((with_reducible refine (impl_readDigits (P.extract 8 16) HZ2.out _ (HY.out.on HB.out) (HT.out.on HB.out)).mono ?_)); rw [HP2.out]; rintro e w6 ⟨⟨y', rfl, hy'⟩, hb⟩; have HYY := Aside0.mk hy'; have n0 := Aside0.mk (Kd.R_below HO.out hb); have n1 := Aside0.mk (below_step HB.out hb); have n2 := Aside0.mk (HPs.out.on hb); clear HO HB hb HPs hy'; have HO := n0; have HB := n1; have HPs := n2; clear n0 n1 n2; refine Hid.out ?_))
                  refine Lib.hid ?_
                  go_wp2
                  go_ret2
                  rw [HF.out]
                  exact ⟨_, rfl, Kd.R_nil _ _ _ _ _, HB.out⟩
              · have HP1 := Aside0.mk hP1
                rcases hP2 : rdH (P.extract 8 16) with _ | y
                · have HF := Aside0.mk (HBad.out (rdC_two hP2))
                  have HP2 := Aside0.mk hP2
                  clear HBad HNext HE0 HE1 hP1 hP2
                  go_wp2_with (first | (go_at_call 52; ((with_reducible refine (impl_readDigits (P.extract 0 8) HZ1.out _ (HY.out.on HB.out) (HT.out.on HB.out)).mono ?_)); rw [HP1.out]; rintro e w5 ⟨⟨x', rfl, hx'⟩, hb⟩; have HXX := Aside0.mk hx'; have n0 := Aside0.mk (Kd.R_below HO.out hb); have n1 := Aside0.mk (below_step HB.out hb); have n2 := Aside0.mk (HPs.out.on hb); clear HO HB hb HPs hx'; have HO := n0; have HB := n1; have HPs := n2; clear n0 n1 n2; refine Hid.out ?_))
                  refine Lib.hid ?_
                  go_wp2_with (first | (go_at_call 52; ((with_reducible refine (impl_readDigits (P.extract 8 16) HZ2.out _ (HY.out.on HB.out) (HT.out.on HB.out)).mono ?_)); rw [HP2.out]; rintro e w6 ⟨⟨y', rfl, hy'⟩, hb⟩; have HYY := Aside0.mk hy'; have n0 := Aside0.mk (Kd.R_below HO.out hb); have n1 := Aside0.mk (below_step HB.out hb); have n2 := Aside0.mk (HPs.out.on hb); clear HO HB hb HPs hy'; have HO := n0; have HB := n1; have HPs := n2; clear n0 n1 n2; refine Hid.out ?_))
                  refine Lib.hid ?_
                  go_wp2
                  go_ret2
                  rw [HF.out]
                  exact ⟨_, rfl, Kd.R_nil _ _ _ _ _, HB.out⟩
                · have HN := Aside0.mk (HNext.out (x, y) (rdC_both h16 hP1 hP2))
                  have HP2 := Aside0.mk hP2
                  clear HBad HNext HR hP1 hP2
                  go_wp2_with (first | (go_at_call 52; ((with_reducible refine (impl_readDigits (P.extract 0 8) HZ1.out _ (HY.out.on HB.out) (HT.out.on HB.out)).mono ?_)); rw [HP1.out]; rintro e w5 ⟨⟨x', rfl, hx'⟩, hb⟩; have HXX := Aside0.mk hx'; have n0 := Aside0.mk (Kd.R_below HO.out hb); have n1 := Aside0.mk (below_step HB.out hb); have n2 := Aside0.mk (HPs.out.on hb); clear HO HB hb HPs hx'; have HO := n0; have HB := n1; have HPs := n2; clear n0 n1 n2; refine Hid.out ?_))
                  refine Lib.hid ?_
                  obtain rfl : x' = x := HXX.out x rfl
                  go_wp2_with (first | (go_at_call 52; ((with_reducible refine (impl_readDigits (P.extract 8 16) HZ2.out _ (HY.out.on HB.out) (HT.out.on HB.out)).mono ?_)); rw [HP2.out]; rintro e w6 ⟨⟨y', rfl, hy'⟩, hb⟩; have HYY := Aside0.mk hy'; have n0 := Aside0.mk (Kd.R_below HO.out hb); have n1 := Aside0.mk (below_step HB.out hb); have n2 := Aside0.mk (HPs.out.on hb); clear HO HB hb HPs hy'; have HO := n0; have HB := n1; have HPs := n2; clear n0 n1 n2; refine Hid.out ?_))
                  refine Lib.hid ?_
                  obtain rfl : y' = y := HYY.out y rfl
                  clear HXX HYY
                  go_wp2_with (first | ((with_reducible refine gate_builtin (b := .append) (xs := #[.tmp 50, .tmp 54]) rfl ?_); at_builtin; refine Kd.R_append Kc (w0 := w) w.heap.size rfl (.tmp 50) (.tmp 54) 44 68 (.complex .f32 0 0) 8 rfl Tryd.underlying44 infoc64 rfl (by decide) (by omega) u6 acc (x', y') [.complex .f32 x' y'] (fun k => k ≠ ad.block) (fun _ => False) rfl rfl ?aP (fun _ hk => hk.elim) ?aF ?aO ?aB ?aS ?aL ?_; (case aP => exact rfl); (case aB => exact (by repeat (first | (with_reducible first | exact HB.out | apply below_alloc | apply pw_below_drewN | apply below_drew1) | exact HB.out))); (case aF => exact (fun k hk => by have := HPs.out.lt; simp only [ne_eq]; omega)); (case aO => exact (by (with_reducible repeat (first | apply Kd.R_alloc | apply Kd.R_drewN | apply Kd.R_drew)); exact HO.out)); (case aS => exact (below_size (by repeat (first | (with_reducible first | exact HB.out | apply below_alloc | apply pw_below_drewN | apply below_drew1) | exact HB.out)))); (case aL => have := HLen.out; omega); intro v130 w11 ho hb hg hat; have n0_ := Aside0.mk (hb); have n1_ := Aside0.mk (ho); have n2_ := Aside0.mk (HPs.out.grown hg (fun e => HO.out.1 _ e.symm rfl)); clear HB; clear HO; clear HPs; have HB := n0_; have HO := n1_; have HPs := n2_; clear n0_ n1_ n2_; clear ho hb hg hat))
                  go_roundg k1
                  case measure => omega
                  case rel => exact ⟨i + 1, _, by omega, by omega, rfl, HN, ⟨by have := HK.out; push_cast at this ⊢; omega⟩, HO, HB, HPs⟩
            · have e8 : ((P.size : Int) != 16) = true := bne_iff_ne.2 (by omega)
              have e8' : ((P.size : Int) == 16) = false := beq_eq_false_iff_ne.2 (by omega)
              have HF := Aside0.mk (HBad.out (rdC_size h16))
              clear HBad HNext HE0 HE1 h16
              go_wp2
              go_ret2
              rw [HF.out]
              exact ⟨_, rfl, Kd.R_nil _ _ _ _ _, HB.out⟩
          · have hk2 : i = (ps.length : Int) := by omega
            subst hk2
            have HF := Aside0.mk (HE1.out h256 acc (by have := HR.out; rwa [Int.toNat_natCast] at this))
            clear HE0 HE1 HSm
            go_wp2
            go_ret2
            rw [HF.out]
            exact ⟨_, rfl, Kd.R_mono HO.out (fun _ _ => trivial), HB.out⟩
    · have d1 : decide (ps.length ≤ 256) = false := decide_eq_false h256
      have HF := Aside0.mk (HE0.out (Or.inr (by omega)))
      rw [d1] at HA
      clear HE0 HE1
      go_enter Tryd.func31, Tryd.ntmps31
      go_wp2_with (first | (go_at_call 51; refine (HA.out _ HSh.out).mono ?_; rintro e w5 ⟨⟨ad, rfl, hp⟩, hb⟩; have HPs := Aside0.mk hp; have n0 := Aside0.mk hb; clear hp hb HB; have HB := n0; clear n0) | ((with_reducible refine gate_dst (N := 18) rfl ?_); refine Kd.R_lit Kc (w0 := w) w.heap.size 68 ?hg (N := 18) ?hd (xs := ([] : List (Nat × Nat))) (inner := []) (ok := fun k => k ≠ ad.block) (okp := fun _ => False) ?hr ?hp (fun _ hk => hk.elim) ?hfr HB.out ?hbase (by simp) ?_; (case hfr => exact (by have := HPs.out.lt; simp only [ne_eq]; omega)); (case hbase => exact HB.out.size); (case hd => rfl); (case hg => rfl); (case hr => first | (go_simp; done) | (go_simp; rfl)); (case hp => exact (Reps.none _ _)); intro v127 w3 ho4 hb hg_ hnew_; have HO := Aside0.mk ho4; have HB2 := Aside0.mk hb; have n2 := Aside0.mk (HPs.out.grown hg_ (by simp)); clear hg_ hnew_ ho4 hb HB HPs; have HPs := n2; clear n2))
      go_loopg [6, 21] 1 (fun kq v6 v21 w' => v21 = .int .i64 0 ∧ Aside0 (Below w.heap.size w w') ∧ Aside0 (PartG w' ad ps))
      case atStart => exact ⟨rfl, HB2, HPs⟩
      case round =>
        clear HB2 HPs HO
        obtain ⟨rfl, HB, HPs⟩ := hrel
        have hlt : (0 : Int) < (ps.length : Int) := by omega
        obtain ⟨ad2, e0, hc⟩ := Kd.at_string HPs.out.C 0 (Int.le_refl _) hlt
        obtain rfl : ad = ad2 := by injection e0
        have ea : ad.add (0 : Int).toNat = ad := by unfold Addr.add; rfl
        rw [ea] at hc
        have q1 := eq_true hlt
        have q2 := eq_true (show 0 < ps.length by omega)
        have p2 := decide_eq_true hlt
        clear ea HSm
        go_wp2
        go_ret2
        rw [HF.out]
        exact ⟨_, rfl, Kd.R_nil _ _ _ _ _, HB.out⟩
set_option maxHeartbeats 4000000 in
set_option maxRecDepth 100000 in
theorem spec_l01CRead (s : ByteArray) (hs : s.size ≤ 1048576) (w : World) :
    Calls Tryd.prog 53 #[.string s] w fun e w' => ∃ v : Value, e = .returned (.tuple #[v, .bool (rcB s).2]) ∧ Kd.R Kc 68 w' w.heap.size (fun _ => True) v (rcB s).1 ∧ Below w.heap.size w w' := by
  have HB := Aside0.mk (Below.refl w.heap.size w)
  by_cases h0 : s.toList = ([110, 111, 110, 101] : List UInt8)
  · have e : rcB s = ([], true) := by unfold rcB; rw [if_pos h0]
    rw [e]; clear e
    have c1 : (s.toList == ([110, 111, 110, 101] : List UInt8)) = true := beq_iff_eq.2 h0
    go_enter Tryd.func53, Tryd.ntmps53
    go_wp2_with (first | ((with_reducible refine gate_dst (N := 11) rfl ?_); refine Kd.R_lit Kc _ 68 ?hg (N := 11) ?hd (xs := ([] : List (Nat × Nat))) (inner := []) (ok := fun _ => True) (okp := fun _ => True) ?hr ?hp (fun _ hk => hk) trivial (Below.refl _ _) (Nat.le_refl _) (by simp) ?_; (case hd => rfl); (case hg => rfl); (case hr => first | (go_simp; done) | (go_simp; rfl)); (case hp => exact (Reps.none _ _)); intro v127 w3 ho4 hb hg_ hnew_; clear hg_ hnew_; have HO := Aside0.mk ho4; have HB2 := Aside0.mk hb; clear ho4 hb HB))
    go_ret2
    exact ⟨_, rfl, HO.out, HB2.out⟩
  · have c1 : (s.toList == ([110, 111, 110, 101] : List UInt8)) = false := beq_eq_false_iff_ne.2 h0
    have HA : Aside0 (∀ w : World, Calls Tryd.prog 65 #[.string s, .int .u8 44] w fun e w' => (∃ ad c, e = .returned (.slice (some ad) (partsB s).length c) ∧ PartG w' ad (partsB s) ∧ w.heap.size ≤ ad.block) ∧ Below w.heap.size w w') := ⟨fun w => cut_calls s hs w⟩
    have HE0 : Aside0 (readC (partsB s) = none ∨ (partsB s).length > 256 → rcB s = ([], false)) := ⟨rc_bad s h0⟩
    have HE1 : Aside0 ((partsB s).length ≤ 256 → ∀ acc, RdC (partsB s) (partsB s).length acc → rcB s = (acc, true)) := ⟨fun h acc => rc_done s h0 h⟩
    have HLn := parts_few s hs
    obtain ⟨R, hR⟩ : ∃ y, y = rcB s := ⟨_, rfl⟩
    rw [← hR] at HE0 HE1 ⊢
    obtain ⟨ps, hps⟩ : ∃ y, y = partsB s := ⟨_, rfl⟩
    rw [← hps] at HE0 HE1 HA HLn
    clear hR hps
    by_cases h256 : ps.length ≤ 256
    · have d1 : decide ((ps.length : Int) > 256) = false := decide_eq_false (by omega)
      have d2 : decide ((256 : Int) < (ps.length : Int)) = false := decide_eq_false (by omega)
      go_enter Tryd.func53, Tryd.ntmps53
      go_wp2_with (first | ((with_reducible refine gate_dst (N := 11) rfl ?_); refine Kd.R_lit Kc _ 68 ?hg (N := 11) ?hd (xs := ([] : List (Nat × Nat))) (inner := []) (ok := fun _ => True) (okp := fun _ => True) ?hr ?hp (fun _ hk => hk) trivial (Below.refl _ _) (Nat.le_refl _) (by simp) ?_; (case hd => rfl); (case hg => rfl); (case hr => first | (go_simp; done) | (go_simp; rfl)); (case hp => exact (Reps.none _ _)); intro v127 w3 ho4 hb hg_ hnew_; clear hg_ hnew_; have HO := Aside0.mk ho4; have HB2 := Aside0.mk hb; clear ho4 hb HB) | (go_at_call 65; refine (HA.out _).mono ?_; rintro e w5 ⟨⟨ad, cP, rfl, hp, hge⟩, hb⟩; have n0 := Aside0.mk (Kd.R_below (Kd.R_mono (ok' := fun k => k ≠ ad.block) (Kd.R_bound HO.out) (fun k hk => by have := hk.2.2.1; omega)) hb); have n1 := Aside0.mk (below_step HB2.out hb); have HPs := Aside0.mk hp; clear HO HB2 hb hp hge; have HO := n0; have HB2 := n1; clear n0 n1))
      have HR0 := Aside0.mk (RdC.start ps)
      go_loopg [4, 6] (ps.length + 1) (fun kq v4 v6 w' => ∃ (i : Int) (acc : List (Nat × Nat)), 0 ≤ i ∧ i ≤ ps.length ∧ v6 = .int .i64 i ∧ Aside0 (RdC ps i.toNat acc) ∧ Aside0 ((kq : Int) + i = ps.length + 1) ∧ Aside0 (Kd.R Kc 68 w' w.heap.size (fun k => k ≠ ad.block) v4 acc) ∧ Aside0 (Below w.heap.size w w') ∧ Aside0 (PartG w' ad ps))
      case atStart => exact ⟨0, [], Int.le_refl _, by omega, rfl, HR0, ⟨by simp⟩, HO, HB2, HPs⟩
      case round =>
        clear HO HB2 HPs HR0 HA
        obtain ⟨i, acc, hi0, hi1, rfl, HR, HK, HO, HB, HPs⟩ := hrel
        cases gk with
        | zero => exact absurd HK.out (by simp; omega)
        | succ k1 =>
          by_cases hlt : i < (ps.length : Int)
          · obtain ⟨ad2, e0, hc⟩ := Kd.at_string HPs.out.C i hi0 hlt
            obtain rfl : ad = ad2 := by injection e0
            have p1 := eq_true hi0
            have q1 := eq_true hlt
            have p2 := decide_eq_true hlt
            have hi : i.toNat < ps.length := by omega
            have er := part_fact hi0 hlt
            have HBad : Aside0 (rdC (rdOf ByteArray.empty ps i) = none → R = ([], false)) := ⟨fun h => HE0.out (Or.inl (HR.out.bad hi (by rw [← er]; exact h)))⟩
            have HNext : Aside0 (∀ x, rdC (rdOf ByteArray.empty ps i) = some x → RdC ps (i + 1).toNat (acc ++ [x])) := ⟨fun x hb => by
              have := HR.out.next hi (by rw [← er]; exact hb)
              rw [show (i + 1).toNat = i.toNat + 1 by omega]; exact this⟩
            have HLen : Aside0 (acc.length ≤ 256) := ⟨by have := HR.out.1; omega⟩
            clear er hi
            obtain ⟨P, hPe⟩ : ∃ y, y = rdOf ByteArray.empty ps i := ⟨_, rfl⟩
            rw [← hPe] at hc HBad HNext
            clear hPe
            by_cases h16 : P.size = 16
            · have e8 : ((P.size : Int) != 16) = false := bne_eq_false_iff_eq.2 (by omega)
              have e8' : ((P.size : Int) == 16) = true := beq_iff_eq.2 (by omega)
              have HZ1 : Aside0 ((P.extract 0 8).size = 8) := ⟨half_one h16⟩
              have HZ2 : Aside0 ((P.extract 8 16).size = 8) := ⟨half_two h16⟩
              have H16 := Aside0.mk h16
              rcases hP1 : rdH (P.extract 0 8) with _ | x
              · have HF := Aside0.mk (HBad.out (rdC_one hP1))
                have HP1 := Aside0.mk hP1
                clear HBad HNext HE0 HE1 hP1
                rcases hP2 : rdH (P.extract 8 16) with _ | y
                all_goals
                  have HP2 := Aside0.mk hP2
                  clear hP2
                  go_wp2_with (first | (go_at_call 71; ((with_reducible refine (spec_l01Digits (P.extract 0 8) HZ1.out _).mono ?_)); rw [HP1.out]; rintro e w5 ⟨⟨x', rfl, hx'⟩, rfl⟩; have HXX := Aside0.mk hx'; clear hx'; refine Hid.out ?_))
                  refine Lib.hid ?_
                  go_wp2_with (first | (go_at_call 71; ((with_reducible refine (spec_l01Digits (P.extract 8 16) HZ2.out _).mono ?_)); rw [HP2.out]; rintro e w5 ⟨⟨y', rfl, hy'⟩, rfl⟩; have HYY := Aside0.mk hy'; clear hy'; refine Hid.out ?_))
                  refine Lib.hid ?_
                  go_wp2
                  go_ret2
                  rw [HF.out]
                  exact ⟨_, rfl, Kd.R_nil _ _ _ _ _, HB.out⟩
              · have HP1 := Aside0.mk hP1
                rcases hP2 : rdH (P.extract 8 16) with _ | y
                · have HF := Aside0.mk (HBad.out (rdC_two hP2))
                  have HP2 := Aside0.mk hP2
                  clear HBad HNext HE0 HE1 hP1 hP2
                  go_wp2_with (first | (go_at_call 71; ((with_reducible refine (spec_l01Digits (P.extract 0 8) HZ1.out _).mono ?_)); rw [HP1.out]; rintro e w5 ⟨⟨x', rfl, hx'⟩, rfl⟩; have HXX := Aside0.mk hx'; clear hx'; refine Hid.out ?_))
                  refine Lib.hid ?_
                  go_wp2_with (first | (go_at_call 71; ((with_reducible refine (spec_l01Digits (P.extract 8 16) HZ2.out _).mono ?_)); rw [HP2.out]; rintro e w5 ⟨⟨y', rfl, hy'⟩, rfl⟩; have HYY := Aside0.mk hy'; clear hy'; refine Hid.out ?_))
                  refine Lib.hid ?_
                  go_wp2
                  go_ret2
                  rw [HF.out]
                  exact ⟨_, rfl, Kd.R_nil _ _ _ _ _, HB.out⟩
                · have HN := Aside0.mk (HNext.out (x, y) (rdC_both h16 hP1 hP2))
                  have HP2 := Aside0.mk hP2
                  clear HBad HNext HR hP1 hP2
                  go_wp2_with (first | (go_at_call 71; ((with_reducible refine (spec_l01Digits (P.extract 0 8) HZ1.out _).mono ?_)); rw [HP1.out]; rintro e w5 ⟨⟨x', rfl, hx'⟩, rfl⟩; have HXX := Aside0.mk hx'; clear hx'; refine Hid.out ?_))
                  refine Lib.hid ?_
                  obtain rfl : x' = x := HXX.out x rfl
                  go_wp2_with (first | (go_at_call 71; ((with_reducible refine (spec_l01Digits (P.extract 8 16) HZ2.out _).mono ?_)); rw [HP2.out]; rintro e w5 ⟨⟨y', rfl, hy'⟩, rfl⟩; have HYY := Aside0.mk hy'; clear hy'; refine Hid.out ?_))
                  refine Lib.hid ?_
                  obtain rfl : y' = y := HYY.out y rfl
                  clear HXX HYY
                  go_wp2_with (first | ((with_reducible refine gate_builtin (b := .append) (xs := #[.tmp 56, .tmp 60]) rfl ?_); at_builtin; refine Kd.R_append Kc (w0 := w) w.heap.size rfl (.tmp 56) (.tmp 60) 44 68 (.complex .f32 0 0) 8 rfl Tryd.underlying44 infoc64 rfl (by decide) (by omega) u4 acc (x', y') [.complex .f32 x' y'] (fun k => k ≠ ad.block) (fun _ => False) rfl rfl ?aP (fun _ hk => hk.elim) ?aF ?aO ?aB ?aS ?aL ?_; (case aP => exact rfl); (case aB => exact (by repeat (first | (with_reducible first | exact HB.out | apply below_alloc | apply pw_below_drewN | apply below_drew1) | exact HB.out))); (case aF => exact (fun k hk => by have := HPs.out.lt; simp only [ne_eq]; omega)); (case aO => exact (by (with_reducible repeat (first | apply Kd.R_alloc | apply Kd.R_drewN | apply Kd.R_drew)); exact HO.out)); (case aS => exact (below_size (by repeat (first | (with_reducible first | exact HB.out | apply below_alloc | apply pw_below_drewN | apply below_drew1) | exact HB.out)))); (case aL => have := HLen.out; omega); intro v130 w11 ho hb hg hat; have n0_ := Aside0.mk (hb); have n1_ := Aside0.mk (ho); have n2_ := Aside0.mk (HPs.out.grown hg (fun e => HO.out.1 _ e.symm rfl)); clear HB; clear HO; clear HPs; have HB := n0_; have HO := n1_; have HPs := n2_; clear n0_ n1_ n2_; clear ho hb hg hat))
                  go_roundg k1
                  case measure => omega
                  case rel => exact ⟨i + 1, _, by omega, by omega, rfl, HN, ⟨by have := HK.out; push_cast at this ⊢; omega⟩, HO, HB, HPs⟩
            · have e8 : ((P.size : Int) != 16) = true := bne_iff_ne.2 (by omega)
              have e8' : ((P.size : Int) == 16) = false := beq_eq_false_iff_ne.2 (by omega)
              have HF := Aside0.mk (HBad.out (rdC_size h16))
              clear HBad HNext HE0 HE1 h16
              go_wp2
              go_ret2
              rw [HF.out]
              exact ⟨_, rfl, Kd.R_nil _ _ _ _ _, HB.out⟩
          · have hk2 : i = (ps.length : Int) := by omega
            subst hk2
            have HF := Aside0.mk (HE1.out h256 acc (by have := HR.out; rwa [Int.toNat_natCast] at this))
            clear HE0 HE1
            go_wp2
            go_ret2
            rw [HF.out]
            exact ⟨_, rfl, Kd.R_mono HO.out (fun _ _ => trivial), HB.out⟩
    · have d1 : decide ((ps.length : Int) > 256) = true := decide_eq_true (by omega)
      have d2 : decide ((256 : Int) < (ps.length : Int)) = true := decide_eq_true (by omega)
      have HF := Aside0.mk (HE0.out (Or.inr (by omega)))
      clear HE0 HE1
      go_enter Tryd.func53, Tryd.ntmps53
      go_wp2_with (first | ((with_reducible refine gate_dst (N := 11) rfl ?_); refine Kd.R_lit Kc _ 68 ?hg (N := 11) ?hd (xs := ([] : List (Nat × Nat))) (inner := []) (ok := fun _ => True) (okp := fun _ => True) ?hr ?hp (fun _ hk => hk) trivial (Below.refl _ _) (Nat.le_refl _) (by simp) ?_; (case hd => rfl); (case hg => rfl); (case hr => first | (go_simp; done) | (go_simp; rfl)); (case hp => exact (Reps.none _ _)); intro v127 w3 ho4 hb hg_ hnew_; clear hg_ hnew_; have HO := Aside0.mk ho4; have HB2 := Aside0.mk hb; clear ho4 hb HB) | (go_at_call 65; refine (HA.out _).mono ?_; rintro e w5 ⟨⟨ad, cP, rfl, hp, hge⟩, hb⟩; have n1 := Aside0.mk (below_step HB2.out hb); clear HO HB2 hb hp hge; have HB2 := n1; clear n1))
      go_ret2
      rw [HF.out]
      exact ⟨_, rfl, Kd.R_nil _ _ _ _ _, HB2.out⟩
end Go.Proofs.YtmfaickanmdfnaaDoor
