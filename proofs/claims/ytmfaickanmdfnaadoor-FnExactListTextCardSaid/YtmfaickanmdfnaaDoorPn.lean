/- ListText: the program's walk, and the law. The powers of ten read as the program's text lays them. -/
import Derived.Test.YtmfaickanmdfnaaDoorPm
import Derived.Test.YtmfaickanmdfnaaDoorSl
namespace Go.Proofs.YtmfaickanmdfnaaDoor
open Go Go.RowKit Go.Proofs.YtmfaickanmdfnaaDoorW.PrintWords Go.Proofs.YtmfaickanmdfnaaDoorW.PrintLast Go.Proofs.YtmfaickanmdfnaaDoorW.PrintMore
attribute [local go_sem] max2_int min2_int max_two min_two max_three min_three max_four min_four
set_option linter.unusedVariables false
set_option linter.unusedSimpArgs false

theorem lens_itoa : ∀ (l : List Int), (∀ n ∈ l, -9223372036854775808 ≤ n ∧ n ≤ 9223372036854775807) → Lib.lens (l.map Lib.itoa) ≤ 21 * l.length
  | [], _ => by simp [Lib.lens]
  | n :: r, h => by
    have h1 := h n List.mem_cons_self
    have h2 := Lib.itoa_length_le n h1.1 h1.2
    have h3 := lens_itoa r (fun m hm => h m (List.mem_cons_of_mem _ hm))
    simp only [Lib.lens, List.map_cons, List.sum_cons, List.length_cons] at h3 ⊢
    omega
theorem join_bound (l : List Int) (h : ∀ n ∈ l, -9223372036854775808 ≤ n ∧ n ≤ 9223372036854775807) : (Lib.join (l.map Lib.itoa) [44]).length ≤ 22 * l.length := by
  cases l with
  | nil => simp [Lib.join_nil]
  | cons n r =>
    have h3 := lens_itoa (n :: r) h
    rw [List.map_cons] at h3 ⊢
    rw [Lib.join_length]
    simp only [List.length_cons, List.length_map, List.length_nil] at h3 ⊢
    omega
theorem decT_list (l : List Int) : (l.map decT).map (·.data.toList) = l.map Lib.itoa := by
  rw [List.map_map]; rfl
theorem joinB_txt (l : List Int) : joinB (l.map decT) = txtB l := by
  unfold joinB txtB
  by_cases h : l = []
  · subst h; rfl
  · rw [if_neg h, if_neg (by simpa using h), decT_list]
theorem decs_snoc (l : List Int) (k : Int) (h0 : 0 ≤ k) (h1 : k < l.length) : (l.take (k + 1).toNat).map decT = (l.take k.toNat).map decT ++ [decT (rd l k)] := by
  have hi : k.toNat < l.length := by omega
  have e : (k + 1).toNat = k.toNat + 1 := by omega
  have r := rd_at l k.toNat hi
  rw [Int.toNat_of_nonneg h0] at r
  rw [e, List.take_succ_eq_append_getElem hi, List.map_append, r]; rfl
theorem rd_mem (l : List Int) (k : Int) (h0 : 0 ≤ k) (h1 : k < l.length) : rd l k ∈ l := by
  have hi : k.toNat < l.length := by omega
  have r := rd_at l k.toNat hi
  rw [Int.toNat_of_nonneg h0] at r
  rw [r]; exact List.getElem_mem hi

theorem impl_ListText (l : List Int) (A : Option Addr) (cap : Nat) (w : World) (hr : Kd.C (Kd.int .i64) w A l.length l) (hl : l.length ≤ 1048576) (hw : ∀ n ∈ l, -9223372036854775808 ≤ n ∧ n ≤ 9223372036854775807)
    (hT : Pow w.heap.size w) :
    Calls Tryd.prog 14 #[.slice A l.length cap] w fun e w' => e = .returned (.tuple #[.string (ltB l).1, .bool (ltB l).2]) ∧ Below w.heap.size w w' := by
  unfold ltB
  have HR := Aside0.mk hr
  have HW := Aside0.mk hw
  have HL := Aside0.mk hl
  have HT := Aside0.mk hT
  have HB := Aside0.mk (Below.refl w.heap.size w)
  have HJ : Aside0 ((Lib.join ((l.map decT).map (·.data.toList)) [44]).length ≤ 140737488355328) := ⟨by
    rw [decT_list]; have := join_bound l hw; omega⟩
  clear hr hw hT
  cases hb : listB l with
  | false =>
    rw [if_neg (by decide)]
    go_enter Tryd.func14, Tryd.ntmps14
    go_wp2_with (first | (go_at_call 39; refine (impl_isList l _ _ _ HR.out HL.out).mono ?_; rintro e w' ⟨rfl, rfl⟩))
    go_ret2
    exact ⟨rfl, HB.out⟩
  | true =>
    rw [if_pos rfl]
    go_enter Tryd.func14, Tryd.ntmps14
    go_wp2_with (first | (go_at_call 39; refine (impl_isList l _ _ _ HR.out HL.out).mono ?_; rintro e w' ⟨rfl, rfl⟩) | ((with_reducible refine gate_dst (N := 10) rfl ?_); refine Kd.R_lit Kd.string _ 9 ?hg (N := 10) ?hd (xs := ([] : List ByteArray)) (inner := []) (ok := fun _ => True) (okp := fun _ => True) ?hr ?hp (fun _ hk => hk) trivial (Below.refl _ _) (Nat.le_refl _) (by simp) ?_; (case hd => rfl); (case hg => rfl); (case hr => first | (go_simp; done) | (go_simp; rfl)); (case hp => exact (Reps.none _ _)); intro v127 w3 ho4 hb hg_ hnew_; clear hg_ hnew_; have HO := Aside0.mk ho4; have HB2 := Aside0.mk hb; clear ho4 hb HB))
    go_loopg [4, 13] (l.length + 1) (fun kq v4 v13 w' => ∃ i : Int, 0 ≤ i ∧ i ≤ l.length ∧ v13 = .int .i64 i ∧ Aside0 ((kq : Int) + i = l.length + 1) ∧ Aside0 (Kd.R Kd.string 9 w' w.heap.size (fun _ => True) v4 ((l.take i.toNat).map decT)) ∧ Aside0 (Below w.heap.size w w'))
    case atStart => exact ⟨0, Int.le_refl _, by omega, rfl, ⟨by simp⟩, HO, HB2⟩
    case round =>
      clear HO HB2
      obtain ⟨i, hi0, hi1, rfl, HK, HO, HB⟩ := hrel
      cases gk with
      | zero => exact absurd HK.out (by simp; omega)
      | succ k1 =>
        by_cases hlt : i < (l.length : Int)
        · obtain ⟨ad, e0, hc⟩ := Kd.at_int HR.out i hi0 hlt
          cases e0
          replace hc := (HB.out.cell (World.block_lt_of_cell? w _ hc)).trans hc
          have p1 := eq_true hi0
          have q1 := eq_true hlt
          have p2 := decide_eq_true hlt
          have HS := Aside0.mk (decs_snoc l i hi0 hlt)
          have HN := Aside0.mk (HW.out _ (rd_mem l i hi0 hlt))
          have HLen : Aside0 (((l.take i.toNat).map decT).length ≤ 1048576) := ⟨by rw [List.length_map, List.length_take]; have := HL.out; omega⟩
          obtain ⟨words, hwords⟩ : ∃ y, y = (l.take i.toNat).map decT := ⟨_, rfl⟩
          rw [← hwords] at HO HS HLen
          clear hwords
          go_wp2_with (first | (go_at_call 11; refine (impl_Decimal (rd l i) HN.out.1 HN.out.2 _ _ (Nat.le_refl _) (Lib.tabBelow_of_tabIs (HT.out.on HB.out).here)).mono ?_; rintro e w5 ⟨rfl, hb⟩; have n0 := Aside0.mk (Kd.R_below HO.out hb); have n1 := Aside0.mk (below_step HB.out hb); clear HO HB hb; have HO := n0; have HB := n1; clear n0 n1) | ((with_reducible refine gate_builtin (b := .append) (xs := #[.tmp 17, .tmp 20]) rfl ?_); at_builtin; refine Kd.R_append Kd.string (w0 := w) w.heap.size rfl (.tmp 17) (.tmp 20) 51 9 (.string ⟨#[]⟩) 16 rfl Tryd.underlying51 Pr.info9 rfl (by decide) (by omega) u4 words (decT (rd l i)) [.string (decT (rd l i))] (fun _ => True) (fun _ => False) rfl rfl ?aP (fun _ hk => hk.elim) ?aF ?aO ?aB ?aS ?aL ?_; (case aP => exact rfl); (case aB => exact (by repeat (first | (with_reducible first | exact HB.out | apply below_alloc | apply pw_below_drewN | apply below_drew1) | exact HB.out))); (case aF => exact (fun _ _ => trivial)); (case aO => exact (by (with_reducible repeat (first | apply Kd.R_alloc | apply Kd.R_drewN | apply Kd.R_drew)); exact HO.out)); (case aS => exact (below_size (by repeat (first | (with_reducible first | exact HB.out | apply below_alloc | apply pw_below_drewN | apply below_drew1) | exact HB.out)))); (case aL => have := HLen.out; omega); intro v130 w11 ho hb hg hat; rw [← HS.out] at ho; have n0_ := Aside0.mk (hb); have n1_ := Aside0.mk (ho); clear HB; clear HO; have HB := n0_; have HO := n1_; clear n0_ n1_; clear ho hb hg hat))
          go_roundg k1
          case measure => omega
          case rel => exact ⟨i + 1, by omega, by omega, rfl, ⟨by have := HK.out; push_cast at this ⊢; omega⟩, HO, HB⟩
        · have hk2 : i = (l.length : Int) := by omega
          subst hk2
          rw [Int.toNat_natCast, List.take_length] at HO
          have HE := Aside0.mk (joinB_txt l)
          have HLen : Aside0 ((l.map decT).length ≤ 1048576) := ⟨by rw [List.length_map]; exact HL.out⟩
          obtain ⟨words, hwords⟩ : ∃ y, y = l.map decT := ⟨_, rfl⟩
          rw [← hwords] at HO HJ HLen HE
          clear hwords
          go_wp2_with (first | (go_at_call 40; refine (impl_joined words _ _ _ _ HO.out HLen.out HJ.out).mono ?_; rintro e w5 ⟨rfl, hb⟩; have n1 := Aside0.mk (below_step HB.out hb); clear HO HB hb; have HB := n1; clear n1))
          go_ret2
          exact ⟨by rw [HE.out]; rfl, HB.out⟩
end Go.Proofs.YtmfaickanmdfnaaDoor
