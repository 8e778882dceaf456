/- ReadNumbers: the program's walk. The library's tables and errors read as the program's text lays them. -/
import Derived.Test.YtpjhgfeibkldmaaGreatDoorHr
namespace Go.Proofs.YtpjhgfeibkldmaaGreatDoor
open Go Go.RowKit Go.Proofs.YtpjhgfeibkldmaaGreatDoorW.PrintWords Go.Proofs.YtpjhgfeibkldmaaGreatDoorW.PrintLast Go.Proofs.YtpjhgfeibkldmaaGreatDoorW.PrintMore
set_option linter.unusedVariables false
set_option linter.unusedSimpArgs false

/-- Rows of 32-bit numbers. -/
def Kf : Kd Nat := Kd.scalar (Value.float .f32) (fun _ => rfl)
/-- A row of texts that lies in a block. -/
structure PartG (w : World) (ad : Addr) (ps : List ByteArray) : Prop where
  blk : ∃ cur : Array Value, w.heap[ad.block]? = some (.cells cur 9 (0, 0)) ∧ ∀ (j : Nat) x, ps[j]? = some x → cur[j]? = some (.string x)
  at0 : ad = ⟨ad.block, 0, none⟩
  few : ps.length ≤ 1048577
theorem PartG.lt {w : World} {ad : Addr} {ps : List ByteArray} (h : PartG w ad ps) : ad.block < w.heap.size := by
  obtain ⟨cur, h1, _⟩ := h.blk
  exact lt_of_block h1
theorem PartG.on {w w' : World} {ad : Addr} {ps : List ByteArray} (h : PartG w ad ps) (hb : Below w.heap.size w w') : PartG w' ad ps := by
  obtain ⟨cur, h1, h2⟩ := h.blk
  exact ⟨⟨cur, (hb.block _ h.lt).trans h1, h2⟩, h.at0, h.few⟩
theorem PartG.grown {w w' : World} {ad : Addr} {ps : List ByteArray} {row : Option Nat} (h : PartG w ad ps) (hg : w.grownBy w' row) (hne : some ad.block ≠ row) : PartG w' ad ps := by
  obtain ⟨cur, h1, h2⟩ := h.blk
  exact ⟨⟨cur, (hg.block _ h.lt hne).trans h1, h2⟩, h.at0, h.few⟩
theorem PartG.C {w : World} {ad : Addr} {ps : List ByteArray} (h : PartG w ad ps) : Kd.C Kd.string w (some ad) ps.length ps := by
  have hlen : ps.length ≤ 9223372036854775807 := by have := h.few; omega
  obtain ⟨cur, h1, h2⟩ := h.blk
  refine Kd.C_of_reads (d := ByteArray.empty) ⟨rfl, hlen, fun hn => ⟨_, rfl, fun j hj => ?_⟩⟩
  have e1 : ps.getD j ByteArray.empty = ps[j] := by rw [List.getD_eq_getElem?_getD, List.getElem?_eq_getElem hj]; rfl
  have e2 : ad.add j = ⟨ad.block, j, none⟩ := by
    rw [h.at0]
    unfold Addr.add; split
    · rename_i h0; subst h0; rfl
    · simp
  rw [e1, e2]
  unfold World.cell?
  rw [h1]
  simpa using h2 j ps[j] (List.getElem?_eq_getElem hj)
theorem PartG.of {w : World} {ad : Addr} {ps : List ByteArray} (h : Parts w ad ps) : PartG w ad ps :=
  ⟨⟨_, h.blk, fun j x hx => by simp [hx]⟩, h.at0, h.few⟩

theorem impl_apart_none (s : ByteArray) (h0 : s.toList = ([110, 111, 110, 101] : List UInt8)) (w : World) :
    Calls Tryz.prog 49 #[.string s] w fun e w' => e = .returned (.tuple #[.slice none 0 0, .bool true]) ∧ w = w' := by
  have c1 : (s.toList == ([110, 111, 110, 101] : List UInt8)) = true := beq_iff_eq.2 h0
  go_enter Tryz.func49, Tryz.ntmps49
  go_wp2
  go_ret2
  exact ⟨rfl, rfl⟩
theorem impl_apart (s : ByteArray) (hs : s.size ≤ 1048576) (h0 : ¬ s.toList = ([110, 111, 110, 101] : List UInt8)) (w : World) (hSh : w.ShapedOpen Tryz.prog) :
    Calls Tryz.prog 49 #[.string s] w fun e w' => (∃ ad, e = .returned (.tuple #[.slice (some ad) (partsB s).length (partsB s).length, .bool (decide ((partsB s).length ≤ 256))]) ∧ PartG w' ad (partsB s)) ∧ Below w.heap.size w w' := by
  have c1 : (s.toList == ([110, 111, 110, 101] : List UInt8)) = false := beq_eq_false_iff_ne.2 h0
  have HSp := Aside0.mk (split_calls s hs w hSh)
  have e1 : decide (((partsB s).length : Int) ≤ 256) = decide ((partsB s).length ≤ 256) := decide_eq_decide.2 (by omega)
  generalize partsB s = ps at HSp e1 ⊢
  go_enter Tryz.func49, Tryz.ntmps49
  go_wp2_with (go_at_call 76; refine HSp.out.mono ?_; rintro e w5 ⟨⟨ad, rfl, hrP, hge⟩, hb⟩; have HPs := Aside0.mk hrP; have HB := Aside0.mk hb; clear hrP hb hge)
  go_ret2
  exact ⟨⟨ad, by first | rfl | (rw [← e1]; rfl) | simp, .of HPs.out⟩, HB.out⟩

theorem part_fact {ps : List ByteArray} {i : Int} (h0 : 0 ≤ i) (h1 : i < ps.length) : rdOf ByteArray.empty ps i = ps[i.toNat]'(by omega) := by
  have := rdOf_at ps i.toNat (by omega)
  rwa [Int.toNat_of_nonneg h0] at this
set_option maxHeartbeats 1000000 in
theorem impl_ReadNumbers (s : ByteArray) (hs : s.size ≤ 1048576) (w : World) (hY : Lay w) (hT : Tz w) (hSh : w.ShapedOpen Tryz.prog) :
    Calls Tryz.prog 32 #[.string s] w fun e w' => ∃ v : Value, e = .returned (.tuple #[v, .bool (rnB s).2]) ∧ Kd.R Kf 28 w' w.heap.size (fun _ => True) v (rnB s).1 ∧ Below w.heap.size w w' := by
  have HB := Aside0.mk (Below.refl w.heap.size w)
  have HY := Aside0.mk hY
  have HT := Aside0.mk hT
  have HSh := Aside0.mk hSh
  clear hY hT hSh
  by_cases h0 : s.toList = ([110, 111, 110, 101] : List UInt8)
  · have e : rnB s = ([], true) := by unfold rnB; rw [if_pos h0]
    rw [e]; clear e
    have HA : Aside0 (∀ w, Calls Tryz.prog 49 #[.string s] w fun e w' => e = .returned (.tuple #[.slice none 0 0, .bool true]) ∧ w = w') := ⟨impl_apart_none s h0⟩
    go_enter Tryz.func32, Tryz.ntmps32
    go_wp2_with (first | (go_at_call 49; refine (HA.out _).mono ?_; rintro e w5 ⟨rfl, rfl⟩) | ((with_reducible refine gate_dst (N := 16) rfl ?_); refine Kd.R_lit Kf _ 28 ?hg (N := 16) ?hd (xs := ([] : List Nat)) (inner := []) (ok := fun _ => True) (okp := fun _ => True) ?hr ?hp (fun _ hk => hk) trivial (Below.refl _ _) (Nat.le_refl _) (by simp) ?_; (case hd => rfl); (case hg => rfl); (case hr => first | (go_simp; done) | (go_simp; rfl)); (case hp => exact (Reps.none _ _)); intro v127 w3 ho4 hb hg_ hnew_; clear hg_ hnew_; have HO := Aside0.mk ho4; have HB2 := Aside0.mk hb; clear ho4 hb HB))
    go_loopg [6, 19] 1 (fun kq v6 v19 w' => v19 = .int .i64 0 ∧ v6 = v127 ∧ w' = w3)
    case atStart => exact ⟨rfl, rfl, rfl⟩
    case round =>
      obtain ⟨rfl, rfl, rfl⟩ := hrel
      go_wp2
      go_ret2
      exact ⟨_, rfl, HO.out, HB2.out⟩
  · have HA : Aside0 (∀ w : World, w.ShapedOpen Tryz.prog → Calls Tryz.prog 49 #[.string s] w fun e w' => (∃ ad, e = .returned (.tuple #[.slice (some ad) (partsB s).length (partsB s).length, .bool (decide ((partsB s).length ≤ 256))]) ∧ PartG w' ad (partsB s)) ∧ Below w.heap.size w w') := ⟨fun w h => impl_apart s hs h0 w h⟩
    have HE0 : Aside0 (readH (partsB s) = none ∨ (partsB s).length > 256 → rnB s = ([], false)) := ⟨rn_bad s h0⟩
    have HE1 : Aside0 ((partsB s).length ≤ 256 → ∀ acc, RdH (partsB s) (partsB s).length acc → rnB s = (acc, true)) := ⟨fun h acc => rn_done s h0 h⟩
    have HSm : Aside0 (∀ p ∈ partsB s, p.size ≤ 1048576) := ⟨fun p hp => Nat.le_trans (parts_small s p hp) hs⟩
    have HLn : (partsB s).length ≤ 1048577 := by
      have := cutFrom_len s.data.toList []
      rw [data_length] at this
      unfold partsB; rw [List.length_map]; omega
    obtain ⟨R, hR⟩ : ∃ y, y = rnB s := ⟨_, rfl⟩
    rw [← hR] at HE0 HE1 ⊢
    obtain ⟨ps, hps⟩ : ∃ y, y = partsB s := ⟨_, rfl⟩
    rw [← hps] at HE0 HE1 HSm HA HLn
    clear hR hps
    by_cases h256 : ps.length ≤ 256
    · have d1 : decide (ps.length ≤ 256) = true := decide_eq_true h256
      rw [d1] at HA
      go_enter Tryz.func32, Tryz.ntmps32
      go_wp2_with (first | (go_at_call 49; refine (HA.out _ HSh.out).mono ?_; rintro e w5 ⟨⟨ad, rfl, hp⟩, hb⟩; have HPs := Aside0.mk hp; have n0 := Aside0.mk hb; clear hp hb HB; have HB := n0; clear n0) | ((with_reducible refine gate_dst (N := 16) rfl ?_); refine Kd.R_lit Kf (w0 := w) w.heap.size 28 ?hg (N := 16) ?hd (xs := ([] : List Nat)) (inner := []) (ok := fun k => k ≠ ad.block) (okp := fun _ => False) ?hr ?hp (fun _ hk => hk.elim) ?hfr HB.out ?hbase (by simp) ?_; (case hfr => exact (by have := HPs.out.lt; simp only [ne_eq]; omega)); (case hbase => exact HB.out.size); (case hd => rfl); (case hg => rfl); (case hr => first | (go_simp; done) | (go_simp; rfl)); (case hp => exact (Reps.none _ _)); intro v127 w3 ho4 hb hg_ hnew_; have HO := Aside0.mk ho4; have HB2 := Aside0.mk hb; have n2 := Aside0.mk (HPs.out.grown hg_ (by simp)); clear hg_ hnew_ ho4 hb HB HPs; have HPs := n2; clear n2))
      have HR0 := Aside0.mk (RdH.start ps)
      go_loopg [6, 19] (ps.length + 1) (fun kq v6 v19 w' => ∃ (i : Int) (acc : List Nat), 0 ≤ i ∧ i ≤ ps.length ∧ v19 = .int .i64 i ∧ Aside0 (RdH ps i.toNat acc) ∧ Aside0 ((kq : Int) + i = ps.length + 1) ∧ Aside0 (Kd.R Kf 28 w' w.heap.size (fun k => k ≠ ad.block) v6 acc) ∧ Aside0 (Below w.heap.size w w') ∧ Aside0 (PartG w' ad ps))
      case atStart => exact ⟨0, [], Int.le_refl _, by omega, rfl, HR0, ⟨by simp⟩, HO, HB2, HPs⟩
      case round =>
        clear HO HB2 HPs HR0
        obtain ⟨i, acc, hi0, hi1, rfl, HR, HK, HO, HB, HPs⟩ := hrel
        cases gk with
        | zero => exact absurd HK.out (by simp; omega)
        | succ k1 =>
          by_cases hlt : i < (ps.length : Int)
          · obtain ⟨ad2, e0, hc⟩ := Kd.at_string HPs.out.C i hi0 hlt
            obtain rfl : ad = ad2 := by injection e0
            have p1 := eq_true hi0
            have q1 := eq_true hlt
            have p2 := decide_eq_true hlt
            have hi : i.toNat < ps.length := by omega
            have er := part_fact hi0 hlt
            have HSz : Aside0 ((rdOf ByteArray.empty ps i).size ≤ 1048576) := ⟨by rw [er]; exact HSm.out _ (List.getElem_mem hi)⟩
            have HBad : Aside0 (rdH (rdOf ByteArray.empty ps i) = none → R = ([], false)) := ⟨fun h => HE0.out (Or.inl (HR.out.bad hi (by rw [← er]; exact h)))⟩
            have HNext : Aside0 (∀ x, rdH (rdOf ByteArray.empty ps i) = some x → RdH ps (i + 1).toNat (acc ++ [x])) := ⟨fun x hb => by
              have := HR.out.next hi (by rw [← er]; exact hb)
              rw [show (i + 1).toNat = i.toNat + 1 by omega]; exact this⟩
            have HLen : Aside0 (acc.length ≤ 256) := ⟨by have := HR.out.1; omega⟩
            clear er hi
            rcases hP : rdH (rdOf ByteArray.empty ps i) with _ | x
            · have HF := Aside0.mk (HBad.out hP)
              have HP := Aside0.mk hP
              clear HBad HNext HE0 HE1 hP
              go_wp2_with (first | (go_at_call 50; refine (impl_readDigits _ HSz.out _ (HY.out.on HB.out) (HT.out.on HB.out)).mono ?_; rw [HP.out]; rintro e w5 ⟨⟨x, rfl, _⟩, hb⟩; have n1 := Aside0.mk (below_step HB.out hb); clear HO HB hb HPs; have HB := n1; clear n1))
              go_ret2
              rw [HF.out]
              exact ⟨_, rfl, Kd.R_nil _ _ _ _ _, HB.out⟩
            · have HN := Aside0.mk (HNext.out x hP)
              have HP := Aside0.mk hP
              clear HBad HNext HR hP
              go_wp2_with (first | (go_at_call 50; refine (impl_readDigits _ HSz.out _ (HY.out.on HB.out) (HT.out.on HB.out)).mono ?_; rw [HP.out]; rintro e w5 ⟨⟨x', rfl, hx'⟩, hb⟩; obtain rfl := hx' x rfl; have n0 := Aside0.mk (Kd.R_below HO.out hb); have n1 := Aside0.mk (below_step HB.out hb); have n2 := Aside0.mk (HPs.out.on hb); clear HO HB hb HPs hx'; have HO := n0; have HB := n1; have HPs := n2; clear n0 n1 n2) | ((with_reducible refine gate_builtin (b := .append) (xs := #[.tmp 34, .tmp 36]) rfl ?_); at_builtin; refine Kd.R_append Kf (w0 := w) w.heap.size rfl (.tmp 34) (.tmp 36) 52 28 (.float .f32 0) 4 rfl Tryz.underlying52 infof32 rfl (by decide) (by omega) u6 acc x' [.float .f32 x'] (fun k => k ≠ ad.block) (fun _ => False) rfl rfl ?aP (fun _ hk => hk.elim) ?aF ?aO ?aB ?aS ?aL ?_; (case aP => exact rfl); (case aB => exact (by repeat (first | (with_reducible first | exact HB.out | apply below_alloc | apply pw_below_drewN | apply below_drew1) | exact HB.out))); (case aF => exact (fun k hk => by have := HPs.out.lt; simp only [ne_eq]; omega)); (case aO => exact (by (with_reducible repeat (first | apply Kd.R_alloc | apply Kd.R_drewN | apply Kd.R_drew)); exact HO.out)); (case aS => exact (below_size (by repeat (first | (with_reducible first | exact HB.out | apply below_alloc | apply pw_below_drewN | apply below_drew1) | exact HB.out)))); (case aL => have := HLen.out; omega); intro v130 w11 ho hb hg hat; have n0_ := Aside0.mk (hb); have n1_ := Aside0.mk (ho); have n2_ := Aside0.mk (HPs.out.grown hg (fun e => HO.out.1 _ e.symm rfl)); clear HB; clear HO; clear HPs; have HB := n0_; have HO := n1_; have HPs := n2_; clear n0_ n1_ n2_; clear ho hb hg hat))
              go_roundg k1
              case measure => omega
              case rel => exact ⟨i + 1, _, by omega, by omega, rfl, HN, ⟨by have := HK.out; push_cast at this ⊢; omega⟩, HO, HB, HPs⟩
          · have hk2 : i = (ps.length : Int) := by omega
            subst hk2
            have HF := Aside0.mk (HE1.out h256 acc (by have := HR.out; rwa [Int.toNat_natCast] at this))
            clear HE0 HE1 HSm
            go_wp2
            go_ret2
            rw [HF.out]
            exact ⟨_, rfl, Kd.R_mono HO.out (fun _ _ => trivial), HB.out⟩
    · have d1 : decide (ps.length ≤ 256) = false := decide_eq_false h256
      have HF := Aside0.mk (HE0.out (Or.inr (by omega)))
      rw [d1] at HA
      clear HE0 HE1
      go_enter Tryz.func32, Tryz.ntmps32
      go_wp2_with (first | (go_at_call 49; refine (HA.out _ HSh.out).mono ?_; rintro e w5 ⟨⟨ad, rfl, hp⟩, hb⟩; have HPs := Aside0.mk hp; have n0 := Aside0.mk hb; clear hp hb HB; have HB := n0; clear n0) | ((with_reducible refine gate_dst (N := 16) rfl ?_); refine Kd.R_lit Kf (w0 := w) w.heap.size 28 ?hg (N := 16) ?hd (xs := ([] : List Nat)) (inner := []) (ok := fun k => k ≠ ad.block) (okp := fun _ => False) ?hr ?hp (fun _ hk => hk.elim) ?hfr HB.out ?hbase (by simp) ?_; (case hfr => exact (by have := HPs.out.lt; simp only [ne_eq]; omega)); (case hbase => exact HB.out.size); (case hd => rfl); (case hg => rfl); (case hr => first | (go_simp; done) | (go_simp; rfl)); (case hp => exact (Reps.none _ _)); intro v127 w3 ho4 hb hg_ hnew_; have HO := Aside0.mk ho4; have HB2 := Aside0.mk hb; have n2 := Aside0.mk (HPs.out.grown hg_ (by simp)); clear hg_ hnew_ ho4 hb HB HPs; have HPs := n2; clear n2))
      go_loopg [6, 19] 1 (fun kq v6 v19 w' => v19 = .int .i64 0 ∧ Aside0 (Below w.heap.size w w') ∧ Aside0 (PartG w' ad ps))
      case atStart => exact ⟨rfl, HB2, HPs⟩
      case round =>
        clear HB2 HPs HO
        obtain ⟨rfl, HB, HPs⟩ := hrel
        have hlt : (0 : Int) < (ps.length : Int) := by omega
        obtain ⟨ad2, e0, hc⟩ := Kd.at_string HPs.out.C 0 (Int.le_refl _) hlt
        obtain rfl : ad = ad2 := by injection e0
        have ea : ad.add (0 : Int).toNat = ad := by unfold Addr.add; rfl
        rw [ea] at hc
        have q1 := eq_true hlt
        have q2 := eq_true (show 0 < ps.length by omega)
        have p2 := decide_eq_true hlt
        have HSz : Aside0 ((rdOf ByteArray.empty ps 0).size ≤ 1048576) := ⟨by rw [part_fact (Int.le_refl _) hlt]; exact HSm.out _ (List.getElem_mem _)⟩
        clear ea HSm
        go_wp2_with (first | (go_at_call 50; refine (impl_readDigits _ HSz.out _ (HY.out.on HB.out) (HT.out.on HB.out)).mono ?_; rintro e w5 ⟨⟨x, rfl, _⟩, hb⟩; have n1 := Aside0.mk (below_step HB.out hb); clear HB hb HPs; have HB := n1; clear n1))
        go_ret2
        rw [HF.out]
        exact ⟨_, rfl, Kd.R_nil _ _ _ _ _, HB.out⟩
end Go.Proofs.YtpjhgfeibkldmaaGreatDoor

