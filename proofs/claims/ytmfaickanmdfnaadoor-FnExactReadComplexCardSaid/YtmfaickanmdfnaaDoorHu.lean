/- ReadNumbers: the reference's walk. Under no condition. -/
import Derived.Test.YtmfaickanmdfnaaDoorHt
namespace Go.Proofs.YtmfaickanmdfnaaDoor
open Go Go.RowKit Go.Proofs.YtmfaickanmdfnaaDoorW.PrintWords Go.Proofs.YtmfaickanmdfnaaDoorW.PrintLast Go.Proofs.YtmfaickanmdfnaaDoorW.PrintMore
set_option linter.unusedVariables false
set_option linter.unusedSimpArgs false

/-- A byte that is a digit of the reference. -/
def VD (c : Nat) : Prop := (48 ≤ c ∧ c ≤ 57) ∨ (97 ≤ c ∧ c ≤ 102)
instance (c : Nat) : Decidable (VD c) := by unfold VD; infer_instance
theorem VD_hex : ∀ d : Fin 16, VD (hexD d.val).toNat := by decide
theorem hexD_of : ∀ c : Fin 256, VD c.val → digV c.val < 16 ∧ hexD (digV c.val) = UInt8.ofNat c.val := by decide +kernel
theorem dig_lo (c : Nat) (h : 48 ≤ c ∧ c ≤ 57) : digV c = c - 48 := by unfold digV; rw [if_pos h]
theorem dig_hi : ∀ c : Fin 256, 97 ≤ c.val ∧ c.val ≤ 102 → digV c.val = c.val - 87 := by decide +kernel
theorem hv_take {l : List UInt8} {k : Nat} (hk : k < l.length) : hv (l.take (k + 1)) = hv (l.take k) * 16 + digV (l[k]).toNat := by
  rw [List.take_succ_eq_append_getElem hk, hv_snoc]
theorem hv_upto (l : List UInt8) (h : ∀ c ∈ l, VD c.toNat) : ∀ k, k ≤ l.length → hv (l.take k) < 16 ^ k ∧ hexK k (hv (l.take k)) = l.take k
  | 0, _ => ⟨by simp [hv], rfl⟩
  | k + 1, hk => by
    obtain ⟨h1, h2⟩ := hv_upto l h k (by omega)
    have hk2 : k < l.length := by omega
    obtain ⟨h3, h4⟩ := hexD_of ⟨(l[k]).toNat, (l[k]).toNat_lt⟩ (h _ (List.getElem_mem hk2))
    simp only at h3 h4
    rw [hv_take hk2]
    refine ⟨by rw [Nat.pow_succ]; omega, ?_⟩
    rw [hexK, show (hv (l.take k) * 16 + digV (l[k]).toNat) / 16 = hv (l.take k) by omega, show (hv (l.take k) * 16 + digV (l[k]).toNat) % 16 = digV (l[k]).toNat by omega, h2, h4, List.take_succ_eq_append_getElem hk2]
    congr 2
    rw [UInt8.ofNat_toNat]
theorem hv_bound (l : List UInt8) (h : ∀ c ∈ l, VD c.toNat) : hv l < 16 ^ l.length ∧ hexK l.length (hv l) = l := by
  have := hv_upto l h l.length (Nat.le_refl _)
  rwa [List.take_length] at this
theorem no_size {s : ByteArray} (h : s.size ≠ 8) : NoHex s := fun N _ e => h (by rw [e, mkB_size, hexK_len])
theorem no_digit {s : ByteArray} {k : Nat} (hk : k < s.data.toList.length) (h : ¬ VD (s.data.toList[k]).toNat) : NoHex s := by
  intro N hN e
  apply h
  have e2 : s.data.toList = hexK 8 N := by rw [e]; rfl
  have hk2 : k < (hexK 8 N).length := by rw [← e2]; exact hk
  have : s.data.toList[k] = (hexK 8 N)[k] := by simp only [e2]
  rw [this, hexK_at 8 N k hk2]
  exact VD_hex ⟨_, Nat.mod_lt _ (by decide)⟩
theorem rdH_valid {s : ByteArray} (h8 : s.size = 8) (h : ∀ c ∈ s.data.toList, VD c.toNat) : rdH s = if bitsOf (hv s.data.toList) = (hv s.data.toList : Int) then some (hv s.data.toList) else none := by
  obtain ⟨h1, h2⟩ := hv_bound _ h
  rw [data_length, h8] at h1 h2
  have e : s = mkB (hexK 8 (hv s.data.toList)) := WideShapes.bytes_inj (by rw [h2]; rfl)
  have := rdH_hex (hv s.data.toList) (by simpa using h1)
  rw [← e] at this
  exact this
theorem take_valid {l : List UInt8} {k : Nat} (hk : k < l.length) (h : ∀ c ∈ l.take k, VD c.toNat) (hv' : VD (l[k]).toNat) : ∀ c ∈ l.take (k + 1), VD c.toNat := by
  intro c hc
  rw [List.take_succ_eq_append_getElem hk, List.mem_append, List.mem_singleton] at hc
  rcases hc with hc | rfl
  · exact h c hc
  · exact hv'
theorem cutFrom_ne : ∀ (r : List UInt8) (cur : List UInt8), cutFrom cur r ≠ []
  | [], cur => by simp [cutFrom]
  | c :: r, cur => by
    rw [cutFrom]
    split
    · simp
    · exact cutFrom_ne r _
theorem parts_ne (s : ByteArray) : partsB s ≠ [] := by
  unfold partsB
  intro e
  exact cutFrom_ne _ _ (List.map_eq_nil_iff.1 e)
theorem parts_few (s : ByteArray) (hs : s.size ≤ 1048576) : (partsB s).length ≤ 1048577 := by
  have := cutFrom_len s.data.toList []
  rw [data_length] at this
  unfold partsB; rw [List.length_map]; omega
theorem PartG.of_R {w : World} {base : Nat} {ok : Nat → Prop} {v : Value} {ps : List ByteArray} (h : Kd.R Kd.string 9 w base ok v ps) (hne : ps ≠ []) (hf : ps.length ≤ 1048577) :
    ∃ ad c, v = .slice (some ad) ps.length c ∧ PartG w ad ps ∧ base ≤ ad.block := by
  have ho := Kd.own_of_R h
  have hpos : ps.length ≠ 0 := fun e => hne (List.eq_nil_of_length_eq_zero e)
  obtain ⟨h1, ⟨_, h2⟩ | ⟨g, cap, cur, rfl, hg, hh, hcap, hmax, r⟩⟩ := ho
  · exact absurd h2 hpos
  · refine ⟨⟨g, 0, none⟩, cap, rfl, ⟨⟨cur, hh, fun j x hx => ?_⟩, rfl, hf⟩, hg⟩
    have hj : j < ps.length := (List.getElem?_eq_some_iff.1 hx).1
    have := (Kd.R_cell ByteArray.empty h (j : Int) (by omega) (by omega)).1
    rw [Int.toNat_natCast] at this
    unfold World.cell? at this
    rw [hh] at this
    have e : rdOf ByteArray.empty ps (j : Int) = x := by
      unfold rdOf
      rw [Int.toNat_natCast, List.getD_eq_getElem?_getD, hx]; rfl
    rw [e] at this
    simpa using this
theorem cut_calls (s : ByteArray) (hs : s.size ≤ 1048576) (w : World) :
    Calls Tryd.prog 65 #[.string s, .int .u8 44] w fun e w' => (∃ ad c, e = .returned (.slice (some ad) (partsB s).length c) ∧ PartG w' ad (partsB s) ∧ w.heap.size ≤ ad.block) ∧ Below w.heap.size w w' := by
  refine (Pr.spec_l01Cut.calls _ s 44 _ w (cut_told s hs)).mono ?_
  rintro e w' ⟨v, rfl, h1, h2⟩
  obtain ⟨ad, c, rfl, h3, h4⟩ := PartG.of_R h1 (parts_ne s) (parts_few s hs)
  exact ⟨⟨ad, c, rfl, h3, h4⟩, h2⟩
theorem from_calls (n : Nat) (h : n < 4294967296) (w : World) : Calls Tryd.prog 67 #[.int .i64 (n : Int)] w fun e w' => e = .returned (.float .f32 n) ∧ w = w' := by
  have hw : IntKind.u32.wrap (n : Int) = (n : Int) := by rw [IntKind.wrap_u32]; omega
  go_enter Tryd.func67, Tryd.ntmps67
  go_wp2
  go_ret
  exact ⟨rfl, rfl⟩
set_option maxHeartbeats 4000000 in
set_option maxRecDepth 100000 in
theorem spec_l01NRead (s : ByteArray) (hs : s.size ≤ 1048576) (w : World) :
    Calls Tryd.prog 50 #[.string s] w fun e w' => ∃ v : Value, e = .returned (.tuple #[v, .bool (rnB s).2]) ∧ Kd.R Kf 54 w' w.heap.size (fun _ => True) v (rnB s).1 ∧ Below w.heap.size w w' := by
  have HB := Aside0.mk (Below.refl w.heap.size w)
  by_cases h0 : s.toList = ([110, 111, 110, 101] : List UInt8)
  · have e : rnB s = ([], true) := by unfold rnB; rw [if_pos h0]
    rw [e]; clear e
    have c1 : (s.toList == ([110, 111, 110, 101] : List UInt8)) = true := beq_iff_eq.2 h0
    go_enter Tryd.func50, Tryd.ntmps50
    go_wp2_with (first | ((with_reducible refine gate_dst (N := 12) rfl ?_); refine Kd.R_lit Kf _ 54 ?hg (N := 12) ?hd (xs := ([] : List Nat)) (inner := []) (ok := fun _ => True) (okp := fun _ => True) ?hr ?hp (fun _ hk => hk) trivial (Below.refl _ _) (Nat.le_refl _) (by simp) ?_; (case hd => rfl); (case hg => rfl); (case hr => first | (go_simp; done) | (go_simp; rfl)); (case hp => exact (Reps.none _ _)); intro v127 w3 ho4 hb hg_ hnew_; clear hg_ hnew_; have HO := Aside0.mk ho4; have HB2 := Aside0.mk hb; clear ho4 hb HB))
    go_ret2
    exact ⟨_, rfl, HO.out, HB2.out⟩
  · have c1 : (s.toList == ([110, 111, 110, 101] : List UInt8)) = false := beq_eq_false_iff_ne.2 h0
    have HA : Aside0 (∀ w : World, Calls Tryd.prog 65 #[.string s, .int .u8 44] w fun e w' => (∃ ad c, e = .returned (.slice (some ad) (partsB s).length c) ∧ PartG w' ad (partsB s) ∧ w.heap.size ≤ ad.block) ∧ Below w.heap.size w w') := ⟨fun w => cut_calls s hs w⟩
    have HE0 : Aside0 (readH (partsB s) = none ∨ (partsB s).length > 256 → rnB s = ([], false)) := ⟨rn_bad s h0⟩
    have HE1 : Aside0 ((partsB s).length ≤ 256 → ∀ acc, RdH (partsB s) (partsB s).length acc → rnB s = (acc, true)) := ⟨fun h acc => rn_done s h0 h⟩
    have HLn := parts_few s hs
    obtain ⟨R, hR⟩ : ∃ y, y = rnB s := ⟨_, rfl⟩
    rw [← hR] at HE0 HE1 ⊢
    obtain ⟨ps, hps⟩ : ∃ y, y = partsB s := ⟨_, rfl⟩
    rw [← hps] at HE0 HE1 HA HLn
    clear hR hps
    by_cases h256 : ps.length ≤ 256
    · have d1 : decide ((ps.length : Int) > 256) = false := decide_eq_false (by omega)
      have d2 : decide ((256 : Int) < (ps.length : Int)) = false := decide_eq_false (by omega)
      go_enter Tryd.func50, Tryd.ntmps50
      go_wp2_with (first | ((with_reducible refine gate_dst (N := 12) rfl ?_); refine Kd.R_lit Kf _ 54 ?hg (N := 12) ?hd (xs := ([] : List Nat)) (inner := []) (ok := fun _ => True) (okp := fun _ => True) ?hr ?hp (fun _ hk => hk) trivial (Below.refl _ _) (Nat.le_refl _) (by simp) ?_; (case hd => rfl); (case hg => rfl); (case hr => first | (go_simp; done) | (go_simp; rfl)); (case hp => exact (Reps.none _ _)); intro v127 w3 ho4 hb hg_ hnew_; clear hg_ hnew_; have HO := Aside0.mk ho4; have HB2 := Aside0.mk hb; clear ho4 hb HB) | (go_at_call 65; refine (HA.out _).mono ?_; rintro e w5 ⟨⟨ad, cP, rfl, hp, hge⟩, hb⟩; have n0 := Aside0.mk (Kd.R_below (Kd.R_mono (ok' := fun k => k ≠ ad.block) (Kd.R_bound HO.out) (fun k hk => by have := hk.2.2.1; omega)) hb); have n1 := Aside0.mk (below_step HB2.out hb); have HPs := Aside0.mk hp; clear HO HB2 hb hp hge; have HO := n0; have HB2 := n1; clear n0 n1))
      have HR0 := Aside0.mk (RdH.start ps)
      go_loopg [4, 6] (ps.length + 1) (fun kq v4 v6 w' => ∃ (i : Int) (acc : List Nat), 0 ≤ i ∧ i ≤ ps.length ∧ v6 = .int .i64 i ∧ Aside0 (RdH ps i.toNat acc) ∧ Aside0 ((kq : Int) + i = ps.length + 1) ∧ Aside0 (Kd.R Kf 54 w' w.heap.size (fun k => k ≠ ad.block) v4 acc) ∧ Aside0 (Below w.heap.size w w') ∧ Aside0 (PartG w' ad ps))
      case atStart => exact ⟨0, [], Int.le_refl _, by omega, rfl, HR0, ⟨by simp⟩, HO, HB2, HPs⟩
      case round =>
        clear HO HB2 HPs HR0 HA
        obtain ⟨i, acc, hi0, hi1, rfl, HR, HK, HO, HB, HPs⟩ := hrel
        cases gk with
        | zero => exact absurd HK.out (by simp; omega)
        | succ k1 =>
          by_cases hlt : i < (ps.length : Int)
          · obtain ⟨ad2, e0, hc⟩ := Kd.at_string HPs.out.C i hi0 hlt
            obtain rfl : ad = ad2 := by injection e0
            have p1 := eq_true hi0
            have q1 := eq_true hlt
            have p2 := decide_eq_true hlt
            have hi : i.toNat < ps.length := by omega
            have er := part_fact hi0 hlt
            have HBad : Aside0 (rdH (rdOf ByteArray.empty ps i) = none → R = ([], false)) := ⟨fun h => HE0.out (Or.inl (HR.out.bad hi (by rw [← er]; exact h)))⟩
            have HNext : Aside0 (∀ x, rdH (rdOf ByteArray.empty ps i) = some x → RdH ps (i + 1).toNat (acc ++ [x])) := ⟨fun x hb => by
              have := HR.out.next hi (by rw [← er]; exact hb)
              rw [show (i + 1).toNat = i.toNat + 1 by omega]; exact this⟩
            have HLen : Aside0 (acc.length ≤ 256) := ⟨by have := HR.out.1; omega⟩
            clear er hi
            obtain ⟨P, hPe⟩ : ∃ y, y = rdOf ByteArray.empty ps i := ⟨_, rfl⟩
            rw [← hPe] at hc HBad HNext
            clear hPe
            by_cases h8 : P.size = 8
            · have e8 : ((P.size : Int) != 8) = false := bne_eq_false_iff_eq.2 (by omega)
              have e8' : ((P.size : Int) == 8) = true := beq_iff_eq.2 (by omega)
              go_wp2
              have HV0 : Aside0 (hv (P.data.toList.take 0) = 0) := ⟨rfl⟩
              go_loopg [7, 8] 9 (fun kq v7 v8 w' => ∃ k n : Nat, k ≤ 8 ∧ v7 = .int .i64 (n : Int) ∧ v8 = .int .i64 (k : Int) ∧ Aside0 (n = hv (P.data.toList.take k)) ∧ n < 16 ^ k ∧ Aside0 (∀ c ∈ P.data.toList.take k, VD c.toNat) ∧ Aside0 (kq + k = 9) ∧ w' = wr)
              case atStart => exact ⟨0, 0, by omega, rfl, rfl, ⟨rfl⟩, by decide, ⟨fun c hc => by simp at hc⟩, ⟨rfl⟩, rfl⟩
              case round =>
                obtain ⟨k, n, hk, rfl, rfl, HN, hn, HV, HK2, rfl⟩ := hrel
                have hn32 : n < 4294967296 := Nat.lt_of_lt_of_le hn (Nat.pow_le_pow_right (n := 16) (by decide) hk)
                cases gk with
                | zero => exact absurd HK2.out (by omega)
                | succ k2 =>
                  by_cases hk8 : k < 8
                  · have hkl : k < P.data.toList.length := by rw [data_length]; omega
                    have b1 : decide ((k : Int) < 8) = true := decide_eq_true (by omega)
                    have HNx := Aside0.mk (hv_take hkl)
                    have HVx : Aside0 (VD (P.data.toList[k]).toNat → ∀ c ∈ P.data.toList.take (k + 1), VD c.toNat) := ⟨take_valid hkl HV.out⟩
                    have HNo : Aside0 (¬ VD (P.data.toList[k]).toNat → NoHex P) := ⟨no_digit hkl⟩
                    have hbt := bt_list P k hkl
                    have hbt2 : ∀ h : k < P.size, ((P[k]'h).toNat : Int) = bt P (k : Int) := fun h => bt_at P (k : Int) h
                    have hcl : (P.data.toList[k]).toNat < 256 := (P.data.toList[k]).toNat_lt
                    obtain ⟨c, hcc⟩ : ∃ c, c = (P.data.toList[k]).toNat := ⟨_, rfl⟩
                    rw [← hcc] at hbt HNx HVx HNo hcl
                    have q3 := eq_true (show (k : Int) < (P.size : Int) by omega)
                    have q4 := eq_true (show k < P.size by omega)
                    clear hcc hkl
                    by_cases hA : 48 ≤ c ∧ c ≤ 57
                    · have d1 : decide ((c : Int) ≥ 48) = true := decide_eq_true (by omega)
                      have d1' : decide ((48 : Int) ≤ (c : Int)) = true := decide_eq_true (by omega)
                      have d2 : decide ((c : Int) ≤ 57) = true := decide_eq_true (by omega)
                      have d3 : decide ((c : Int) ≥ 97) = false := decide_eq_false (by omega)
                      have d3' : decide ((97 : Int) ≤ (c : Int)) = false := decide_eq_false (by omega)
                      obtain ⟨D, hD⟩ : ∃ D : Nat, D = c - 48 := ⟨_, rfl⟩
                      have w1 : IntKind.u8.wrap ((c : Int) - 48) = (D : Int) := by rw [IntKind.wrap_u8]; omega
                      have d4 : decide ((D : Int) < 0) = false := decide_eq_false (by omega)
                      have HD := Aside0.mk ((dig_lo c hA).trans hD.symm)
                      have HV2 := Aside0.mk (HVx.out (Or.inl hA))
                      have hD16 : D < 16 := by omega
                      clear HVx HNo hA hD hcl
                      go_wp2
                      go_roundg k2
                      case measure => omega
                      case rel => exact ⟨k + 1, n * 16 + D, by omega, by first | rfl | (congr 1; omega) | (push_cast; congr 1; omega), by go_num, ⟨by rw [HNx.out, HD.out, HN.out]⟩, by rw [Nat.pow_succ]; omega, HV2, ⟨by have := HK2.out; omega⟩, rfl⟩
                    · by_cases hB : 97 ≤ c ∧ c ≤ 102
                      · have d1 : decide ((c : Int) ≥ 48) = true := decide_eq_true (by omega)
                        have d1' : decide ((48 : Int) ≤ (c : Int)) = true := decide_eq_true (by omega)
                        have d2 : decide ((c : Int) ≤ 57) = false := decide_eq_false (by omega)
                        have d3 : decide ((c : Int) ≥ 97) = true := decide_eq_true (by omega)
                        have d3' : decide ((97 : Int) ≤ (c : Int)) = true := decide_eq_true (by omega)
                        have d5 : decide ((c : Int) ≤ 102) = true := decide_eq_true (by omega)
                        obtain ⟨D, hD⟩ : ∃ D : Nat, D = c - 97 := ⟨_, rfl⟩
                        have w1 : IntKind.u8.wrap ((c : Int) - 97) = (D : Int) := by rw [IntKind.wrap_u8]; omega
                        have hDh : digV c = c - 87 := dig_hi ⟨c, hcl⟩ hB
                        have HD : Aside0 (digV c = D + 10) := ⟨by rw [hDh, hD]; omega⟩
                        have d4 : decide ((D : Int) + 10 < 0) = false := decide_eq_false (by omega)
                        have HV2 := Aside0.mk (HVx.out (Or.inr hB))
                        have hD16 : D < 6 := by omega
                        clear HVx HNo hA hB hD hcl hDh
                        go_wp2
                        go_roundg k2
                        case measure => omega
                        case rel => exact ⟨k + 1, n * 16 + (D + 10), by omega, by first | rfl | (congr 1; omega) | (push_cast; congr 1; omega), by go_num, ⟨by rw [HNx.out, HD.out, HN.out]⟩, by rw [Nat.pow_succ]; omega, HV2, ⟨by have := HK2.out; omega⟩, rfl⟩
                      · by_cases h48 : c < 48
                        · have d1 : decide ((c : Int) ≥ 48) = false := decide_eq_false (by omega)
                          have d1' : decide ((48 : Int) ≤ (c : Int)) = false := decide_eq_false (by omega)
                          have d3 : decide ((c : Int) ≥ 97) = false := decide_eq_false (by omega)
                          have d3' : decide ((97 : Int) ≤ (c : Int)) = false := decide_eq_false (by omega)
                          have HF := Aside0.mk (HBad.out (rdH_no P (HNo.out (by unfold VD; omega))))
                          clear HVx HNo HBad HNext HE0 HE1 HNx hA hB hcl h48
                          go_wp2
                          go_ret2
                          rw [HF.out]
                          exact ⟨_, rfl, Kd.R_nil _ _ _ _ _, HB.out⟩
                        · have d1 : decide ((c : Int) ≥ 48) = true := decide_eq_true (by omega)
                          have d1' : decide ((48 : Int) ≤ (c : Int)) = true := decide_eq_true (by omega)
                          have d2 : decide ((c : Int) ≤ 57) = false := decide_eq_false (by omega)
                          by_cases h97 : c < 97
                          · have d3 : decide ((c : Int) ≥ 97) = false := decide_eq_false (by omega)
                            have d3' : decide ((97 : Int) ≤ (c : Int)) = false := decide_eq_false (by omega)
                            have HF := Aside0.mk (HBad.out (rdH_no P (HNo.out (by unfold VD; omega))))
                            clear HVx HNo HBad HNext HE0 HE1 HNx hA hB hcl h48 h97
                            go_wp2
                            go_ret2
                            rw [HF.out]
                            exact ⟨_, rfl, Kd.R_nil _ _ _ _ _, HB.out⟩
                          · have d3 : decide ((c : Int) ≥ 97) = true := decide_eq_true (by omega)
                            have d3' : decide ((97 : Int) ≤ (c : Int)) = true := decide_eq_true (by omega)
                            have d5 : decide ((c : Int) ≤ 102) = false := decide_eq_false (by omega)
                            have HF := Aside0.mk (HBad.out (rdH_no P (HNo.out (by unfold VD; omega))))
                            clear HVx HNo HBad HNext HE0 HE1 HNx hA hB hcl h48 h97
                            go_wp2
                            go_ret2
                            rw [HF.out]
                            exact ⟨_, rfl, Kd.R_nil _ _ _ _ _, HB.out⟩
                  · have hk8' : k = 8 := by omega
                    subst hk8'
                    have b1 : decide (((8 : Nat) : Int) < 8) = false := by decide
                    have hall : P.data.toList.take 8 = P.data.toList := List.take_of_length_le (by rw [data_length]; omega)
                    have HRd : Aside0 (rdH P = if bitsOf n = (n : Int) then some n else none) := ⟨by rw [HN.out, hall]; exact rdH_valid h8 (by have := HV.out; rwa [hall] at this)⟩
                    have hn2 : n < 2 ^ 32 := hn32
                    clear hall HN HV HK2 hn hk hk8
                    by_cases hbn : bitsOf n = (n : Int)
                    · have HN2 := Aside0.mk (HNext.out n (by rw [HRd.out, if_pos hbn]))
                      have HBn := Aside0.mk hbn
                      clear HBad HNext HRd HR hbn
                      go_wp2_with (first | (go_at_call 67; refine (from_calls n hn32 _).mono ?_; rintro e w' ⟨rfl, rfl⟩) | (go_at_call 68; refine (spec_l01Bits n _ hn2).mono ?_; rw [HBn.out]; rintro e w' ⟨rfl, rfl⟩) | ((with_reducible refine gate_builtin (b := .append) (xs := #[.tmp 74, .tmp 76]) rfl ?_); at_builtin; refine Kd.R_append Kf (w0 := w) w.heap.size rfl (.tmp 74) (.tmp 76) 30 54 (.float .f32 0) 4 rfl Tryd.underlying30 infof32 rfl (by decide) (by omega) u4 acc n [.float .f32 n] (fun k => k ≠ ad.block) (fun _ => False) rfl rfl ?aP (fun _ hk => hk.elim) ?aF ?aO ?aB ?aS ?aL ?_; (case aP => exact rfl); (case aB => exact (by repeat (first | (with_reducible first | exact HB.out | apply below_alloc | apply pw_below_drewN | apply below_drew1) | exact HB.out))); (case aF => exact (fun k hk => by have := HPs.out.lt; simp only [ne_eq]; omega)); (case aO => exact (by (with_reducible repeat (first | apply Kd.R_alloc | apply Kd.R_drewN | apply Kd.R_drew)); exact HO.out)); (case aS => exact (below_size (by repeat (first | (with_reducible first | exact HB.out | apply below_alloc | apply pw_below_drewN | apply below_drew1) | exact HB.out)))); (case aL => have := HLen.out; omega); intro v130 w11 ho hb hg hat; have n0_ := Aside0.mk (hb); have n1_ := Aside0.mk (ho); have n2_ := Aside0.mk (HPs.out.grown hg (fun e => HO.out.1 _ e.symm rfl)); clear HB; clear HO; clear HPs; have HB := n0_; have HO := n1_; have HPs := n2_; clear n0_ n1_ n2_; clear ho hb hg hat))
                      go_roundg k1
                      case measure => omega
                      case rel => exact ⟨i + 1, _, by omega, by omega, rfl, HN2, ⟨by have := HK.out; push_cast at this ⊢; omega⟩, HO, HB, HPs⟩
                    · have HF := Aside0.mk (HBad.out (by rw [HRd.out, if_neg hbn]))
                      have HBn := Aside0.mk hbn
                      have e1 : (bitsOf n != (n : Int)) = true := bne_iff_ne.2 hbn
                      have e2 : (bitsOf n == (n : Int)) = false := beq_eq_false_iff_ne.2 hbn
                      clear HBad HNext HRd HR HE0 HE1 hbn
                      go_wp2_with (first | (go_at_call 67; refine (from_calls n hn32 _).mono ?_; rintro e w' ⟨rfl, rfl⟩) | (go_at_call 68; refine (spec_l01Bits n _ hn2).mono ?_; rintro e w' ⟨rfl, rfl⟩))
                      go_ret2
                      rw [HF.out]
                      exact ⟨_, rfl, Kd.R_nil _ _ _ _ _, HB.out⟩
            · have e8 : ((P.size : Int) != 8) = true := bne_iff_ne.2 (by omega)
              have e8' : ((P.size : Int) == 8) = false := beq_eq_false_iff_ne.2 (by omega)
              have HF := Aside0.mk (HBad.out (rdH_no P (no_size h8)))
              clear HBad HNext HE0 HE1 h8
              go_wp2
              go_ret2
              rw [HF.out]
              exact ⟨_, rfl, Kd.R_nil _ _ _ _ _, HB.out⟩
          · have hk2 : i = (ps.length : Int) := by omega
            subst hk2
            have HF := Aside0.mk (HE1.out h256 acc (by have := HR.out; rwa [Int.toNat_natCast] at this))
            clear HE0 HE1
            go_wp2
            go_ret2
            rw [HF.out]
            exact ⟨_, rfl, Kd.R_mono HO.out (fun _ _ => trivial), HB.out⟩
    · have d1 : decide ((ps.length : Int) > 256) = true := decide_eq_true (by omega)
      have d2 : decide ((256 : Int) < (ps.length : Int)) = true := decide_eq_true (by omega)
      have HF := Aside0.mk (HE0.out (Or.inr (by omega)))
      clear HE0 HE1
      go_enter Tryd.func50, Tryd.ntmps50
      go_wp2_with (first | ((with_reducible refine gate_dst (N := 12) rfl ?_); refine Kd.R_lit Kf _ 54 ?hg (N := 12) ?hd (xs := ([] : List Nat)) (inner := []) (ok := fun _ => True) (okp := fun _ => True) ?hr ?hp (fun _ hk => hk) trivial (Below.refl _ _) (Nat.le_refl _) (by simp) ?_; (case hd => rfl); (case hg => rfl); (case hr => first | (go_simp; done) | (go_simp; rfl)); (case hp => exact (Reps.none _ _)); intro v127 w3 ho4 hb hg_ hnew_; clear hg_ hnew_; have HO := Aside0.mk ho4; have HB2 := Aside0.mk hb; clear ho4 hb HB) | (go_at_call 65; refine (HA.out _).mono ?_; rintro e w5 ⟨⟨ad, cP, rfl, hp, hge⟩, hb⟩; have n1 := Aside0.mk (below_step HB2.out hb); clear HO HB2 hb hp hge; have HB2 := n1; clear n1))
      go_ret2
      rw [HF.out]
      exact ⟨_, rfl, Kd.R_nil _ _ _ _ _, HB2.out⟩
end Go.Proofs.YtmfaickanmdfnaaDoor
