/- NumbersText: both sides and the law. The library's tables read as the program's text lays them. -/
import Derived.Test.YtpjhgfeibkldmaaGreatDoorHg
import Derived.Test.YtpjhgfeibkldmaaGreatDoorZb
import Derived.Test.YtpjhgfeibkldmaaGreatDoorCs
namespace Go.Proofs.YtpjhgfeibkldmaaGreatDoor
open Go Go.RowKit Go.Proofs.YtpjhgfeibkldmaaGreatDoorW.PrintWords Go.Proofs.YtpjhgfeibkldmaaGreatDoorW.PrintLast Go.Proofs.YtpjhgfeibkldmaaGreatDoorW.PrintMore
set_option linter.unusedVariables false
set_option linter.unusedSimpArgs false

/-- What NumbersText returns. -/
def ntB (xs : List Nat) : ByteArray × Bool := if xs.length ≤ 256 then (ntxt xs, true) else (⟨#[]⟩, false)
def hexB (x : Nat) : List UInt8 := (hexT x).data.toList
theorem hexB_len (x : Nat) : (hexB x).length = 8 := hexK_len 8 (bitsOf x).toNat
theorem hexB_mk (x : Nat) : (⟨(hexB x).toArray⟩ : ByteArray) = hexT x := rfl
theorem join_snoc (l : List (List UInt8)) (h : l ≠ []) (y : List UInt8) : Lib.join (l ++ [y]) [44] = Lib.join l [44] ++ ([44] ++ y) := by
  cases l with
  | nil => exact absurd rfl h
  | cons a r => rw [List.cons_append, Lib.join_cons, Lib.join_cons]; simp [Lib.joinTail]
theorem lens_hex : ∀ (xs : List Nat), Lib.lens (xs.map hexB) = 8 * xs.length
  | [] => rfl
  | x :: r => by
    have h := lens_hex r
    have h8 := hexB_len x
    simp only [Lib.lens, List.map_cons, List.sum_cons, List.length_cons] at h ⊢
    omega
theorem join_hex_len (xs : List Nat) : (Lib.join (xs.map hexB) [44]).length ≤ 9 * xs.length := by
  cases xs with
  | nil => simp [Lib.join_nil]
  | cons x r =>
    have h := lens_hex (x :: r)
    rw [List.map_cons] at h ⊢
    rw [Lib.join_length, h]
    simp only [List.length_cons, List.length_map, List.length_nil]
    omega
/-- The text of the first i numbers. -/
def pre (xs : List Nat) (i : Nat) : List UInt8 := Lib.join ((xs.take i).map hexB) [44]
theorem pre_one (xs : List Nat) (h : 0 < xs.length) : pre xs 1 = hexB xs[0] := by
  unfold pre
  rw [List.take_succ_eq_append_getElem h, List.take_zero]
  exact Lib.join_one _ _
theorem pre_next (xs : List Nat) (i : Nat) (h0 : 0 < i) (h : i < xs.length) : pre xs (i + 1) = pre xs i ++ ([44] ++ hexB xs[i]) := by
  unfold pre
  rw [List.take_succ_eq_append_getElem h, List.map_append]
  refine join_snoc _ ?_ _
  intro e
  have := congrArg List.length e
  rw [List.length_map, List.length_take, List.length_nil] at this
  omega
theorem pre_len (xs : List Nat) (i : Nat) : (pre xs i).length ≤ 9 * i := by
  have h := join_hex_len (xs.take i)
  rw [List.length_take] at h
  unfold pre
  omega
theorem ntxt_pre (xs : List Nat) (h : xs ≠ []) : ntxt xs = ⟨(pre xs xs.length).toArray⟩ := by
  unfold ntxt pre
  rw [if_neg h, List.take_length]; rfl
theorem getD_at (xs : List Nat) (i : Nat) (h : i < xs.length) : fvals .f32 xs i = .float .f32 xs[i] := by
  unfold fvals
  rw [List.getD_eq_getElem?_getD, List.getElem?_eq_getElem h]; rfl

theorem joinB_ntxt (xs : List Nat) : joinB (xs.map hexT) = ntxt xs := by
  unfold joinB ntxt
  by_cases h : xs = []
  · subst h; rfl
  · rw [if_neg h, if_neg (by simpa using h), List.map_map]; rfl
theorem hexs_snoc (xs : List Nat) (i : Nat) (h : i < xs.length) : (xs.take (i + 1)).map hexT = (xs.take i).map hexT ++ [hexT xs[i]] := by
  rw [List.take_succ_eq_append_getElem h, List.map_append]; rfl
theorem impl_NumbersText (xs : List Nat) (a : Option Addr) (cap : Nat) (w : World) (hs : Holds w a xs.length (fvals .f32 xs)) (hl : xs.length ≤ 1048576) (hw : ∀ x ∈ xs, x < 2 ^ 32) (hT : Tz w) :
    Calls Tryz.prog 31 #[.slice a xs.length cap] w fun e w' => e = .returned (.tuple #[.string (ntB xs).1, .bool (ntB xs).2]) ∧ Below w.heap.size w w' := by
  unfold ntB
  have HS := Aside0.mk hs
  have HW := Aside0.mk hw
  have HT := Aside0.mk hT
  have HB := Aside0.mk (Below.refl w.heap.size w)
  clear hs hw hT
  by_cases h6 : xs.length ≤ 256
  · rw [if_pos h6]
    have h1 : decide ((xs.length : Int) > 256) = false := decide_eq_false (by omega)
    have h1' : decide ((256 : Int) < (xs.length : Int)) = false := decide_eq_false (by omega)
    have HJ : Aside0 ((Lib.join ((xs.map hexT).map (·.data.toList)) [44]).length ≤ 140737488355328) := ⟨by
      rw [List.map_map]; have : (Lib.join (xs.map hexB) [44]).length ≤ 9 * xs.length := join_hex_len xs; exact Nat.le_trans this (by omega)⟩
    go_enter Tryz.func31, Tryz.ntmps31
    go_wp2_with (first | ((with_reducible refine gate_dst (N := 10) rfl ?_); refine Kd.R_lit Kd.string _ 9 ?hg (N := 10) ?hd (xs := ([] : List ByteArray)) (inner := []) (ok := fun _ => True) (okp := fun _ => True) ?hr ?hp (fun _ hk => hk) trivial (Below.refl _ _) (Nat.le_refl _) (by simp) ?_; (case hd => rfl); (case hg => rfl); (case hr => first | (go_simp; done) | (go_simp; rfl)); (case hp => exact (Reps.none _ _)); intro v127 w3 ho4 hb hg_ hnew_; clear hg_ hnew_; have HO := Aside0.mk ho4; have HB2 := Aside0.mk hb; clear ho4 hb HB))
    go_loopg [4, 13] (xs.length + 1) (fun kq v4 v13 w' => ∃ i : Nat, i ≤ xs.length ∧ v13 = .int .i64 (i : Int) ∧ Aside0 (kq + i = xs.length + 1) ∧ Aside0 (Kd.R Kd.string 9 w' w.heap.size (fun _ => True) v4 ((xs.take i).map hexT)) ∧ Aside0 (Below w.heap.size w w'))
    case atStart => exact ⟨0, by omega, rfl, ⟨by omega⟩, HO, HB2⟩
    case round =>
      clear HO HB2
      obtain ⟨i, hi1, rfl, HK, HO, HB⟩ := hrel
      cases gk with
      | zero => exact absurd HK.out (by omega)
      | succ k1 =>
        by_cases hlt : i < xs.length
        · rcases HS.out.split with h0 | ⟨b, o, rfl, hbl, hc⟩
          · omega
          have hci := ((HB.out.cell (p := ⟨b, o + i, none⟩) hbl).trans (hc i hlt)).trans (congrArg some (getD_at xs i hlt))
          have p2 : decide ((i : Int) < (xs.length : Int)) = true := decide_eq_true (by omega)
          have HXi : Aside0 (xs[i] < 2 ^ 32) := ⟨HW.out _ (List.getElem_mem hlt)⟩
          have HN := Aside0.mk (hexs_snoc xs i hlt)
          have HLen : Aside0 (((xs.take i).map hexT).length ≤ 256) := ⟨by rw [List.length_map, List.length_take]; omega⟩
          obtain ⟨words, hwords⟩ : ∃ y, y = (xs.take i).map hexT := ⟨_, rfl⟩
          obtain ⟨xi, hxi⟩ : ∃ y, y = xs[i] := ⟨_, rfl⟩
          rw [← hwords] at HO HN HLen
          rw [← hxi] at hci HXi HN
          clear hwords hxi hc
          go_wp2_with (first | (go_at_call 47; refine (impl_digits xi HXi.out _ (HT.out.on HB.out)).mono ?_; rintro e w5 ⟨rfl, hb⟩; have n0 := Aside0.mk (Kd.R_below HO.out hb); have n1 := Aside0.mk (below_step HB.out hb); clear HO HB hb; have HO := n0; have HB := n1; clear n0 n1) | ((with_reducible refine gate_builtin (b := .append) (xs := #[.tmp 17, .tmp 20]) rfl ?_); at_builtin; refine Kd.R_append Kd.string (w0 := w) w.heap.size rfl (.tmp 17) (.tmp 20) 69 9 (.string ⟨#[]⟩) 16 rfl Tryz.underlying69 Pr.info9 rfl (by decide) (by omega) u4 words (hexT xi) [.string (hexT xi)] (fun _ => True) (fun _ => False) rfl rfl ?aP (fun _ hk => hk.elim) ?aF ?aO ?aB ?aS ?aL ?_; (case aP => exact rfl); (case aB => exact (by repeat (first | (with_reducible first | exact HB.out | apply below_alloc | apply pw_below_drewN | apply below_drew1) | exact HB.out))); (case aF => exact (fun _ _ => trivial)); (case aO => exact (by (with_reducible repeat (first | apply Kd.R_alloc | apply Kd.R_drewN | apply Kd.R_drew)); exact HO.out)); (case aS => exact (below_size (by repeat (first | (with_reducible first | exact HB.out | apply below_alloc | apply pw_below_drewN | apply below_drew1) | exact HB.out)))); (case aL => have := HLen.out; omega); intro v130 w11 ho hb hg hat; rw [← HN.out] at ho; have n0_ := Aside0.mk (hb); have n1_ := Aside0.mk (ho); clear HB; clear HO; have HB := n0_; have HO := n1_; clear n0_ n1_; clear ho hb hg hat))
          go_roundg k1
          case measure => omega
          case rel => exact ⟨i + 1, by omega, by go_num, ⟨by have := HK.out; omega⟩, HO, HB⟩
        · have hk2 : i = xs.length := by omega
          subst hk2
          rw [List.take_length] at HO
          have HE := Aside0.mk (joinB_ntxt xs)
          have HLen : Aside0 ((xs.map hexT).length ≤ 1048576) := ⟨by rw [List.length_map]; exact hl⟩
          obtain ⟨words, hwords⟩ : ∃ y, y = xs.map hexT := ⟨_, rfl⟩
          rw [← hwords] at HO HJ HLen HE
          clear hwords
          go_wp2_with (first | (go_at_call 48; refine (impl_joined words _ _ _ _ HO.out HLen.out HJ.out).mono ?_; rintro e w5 ⟨rfl, hb⟩; have n1 := Aside0.mk (below_step HB.out hb); clear HO HB hb; have HB := n1; clear n1))
          go_ret2
          exact ⟨by rw [HE.out]; rfl, HB.out⟩
  · rw [if_neg h6]
    have h1 : decide ((xs.length : Int) > 256) = true := decide_eq_true (by omega)
    have h1' : decide ((256 : Int) < (xs.length : Int)) = true := decide_eq_true (by omega)
    go_enter Tryz.func31, Tryz.ntmps31
    go_wp2
    go_ret2
    exact ⟨rfl, HB.out⟩

end Go.Proofs.YtpjhgfeibkldmaaGreatDoor

