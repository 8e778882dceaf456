/- NumbersText: both sides and the law. The library's tables read as the program's text lays them. -/
import Derived.Test.YtmfaickanmdfnaaDoorHg
import Derived.Test.YtmfaickanmdfnaaDoorPm
import Derived.Test.YtmfaickanmdfnaaDoorCs
namespace Go.Proofs.YtmfaickanmdfnaaDoor
open Go Go.RowKit Go.Proofs.YtmfaickanmdfnaaDoorW.PrintWords Go.Proofs.YtmfaickanmdfnaaDoorW.PrintLast Go.Proofs.YtmfaickanmdfnaaDoorW.PrintMore
set_option linter.unusedVariables false
set_option linter.unusedSimpArgs false

/-- What NumbersText returns. -/
def ntB (xs : List Nat) : ByteArray × Bool := if xs.length ≤ 256 then (ntxt xs, true) else (⟨#[]⟩, false)
def hexB (x : Nat) : List UInt8 := (hexT x).data.toList
theorem hexB_len (x : Nat) : (hexB x).length = 8 := hexK_len 8 (bitsOf x).toNat
theorem hexB_mk (x : Nat) : (⟨(hexB x).toArray⟩ : ByteArray) = hexT x := rfl
theorem join_snoc (l : List (List UInt8)) (h : l ≠ []) (y : List UInt8) : Lib.join (l ++ [y]) [44] = Lib.join l [44] ++ ([44] ++ y) := by
  cases l with
  | nil => exact absurd rfl h
  | cons a r => rw [List.cons_append, Lib.join_cons, Lib.join_cons]; simp [Lib.joinTail]
theorem lens_hex : ∀ (xs : List Nat), Lib.lens (xs.map hexB) = 8 * xs.length
  | [] => rfl
  | x :: r => by
    have h := lens_hex r
    have h8 := hexB_len x
    simp only [Lib.lens, List.map_cons, List.sum_cons, List.length_cons] at h ⊢
    omega
theorem join_hex_len (xs : List Nat) : (Lib.join (xs.map hexB) [44]).length ≤ 9 * xs.length := by
  cases xs with
  | nil => simp [Lib.join_nil]
  | cons x r =>
    have h := lens_hex (x :: r)
    rw [List.map_cons] at h ⊢
    rw [Lib.join_length, h]
    simp only [List.length_cons, List.length_map, List.length_nil]
    omega
/-- The text of the first i numbers. -/
def pre (xs : List Nat) (i : Nat) : List UInt8 := Lib.join ((xs.take i).map hexB) [44]
theorem pre_one (xs : List Nat) (h : 0 < xs.length) : pre xs 1 = hexB xs[0] := by
  unfold pre
  rw [List.take_succ_eq_append_getElem h, List.take_zero]
  exact Lib.join_one _ _
theorem pre_next (xs : List Nat) (i : Nat) (h0 : 0 < i) (h : i < xs.length) : pre xs (i + 1) = pre xs i ++ ([44] ++ hexB xs[i]) := by
  unfold pre
  rw [List.take_succ_eq_append_getElem h, List.map_append]
  refine join_snoc _ ?_ _
  intro e
  have := congrArg List.length e
  rw [List.length_map, List.length_take, List.length_nil] at this
  omega
theorem pre_len (xs : List Nat) (i : Nat) : (pre xs i).length ≤ 9 * i := by
  have h := join_hex_len (xs.take i)
  rw [List.length_take] at h
  unfold pre
  omega
theorem ntxt_pre (xs : List Nat) (h : xs ≠ []) : ntxt xs = ⟨(pre xs xs.length).toArray⟩ := by
  unfold ntxt pre
  rw [if_neg h, List.take_length]; rfl
theorem getD_at (xs : List Nat) (i : Nat) (h : i < xs.length) : fvals .f32 xs i = .float .f32 xs[i] := by
  unfold fvals
  rw [List.getD_eq_getElem?_getD, List.getElem?_eq_getElem h]; rfl

theorem few_calls (a : Option Addr) (len cap : Nat) (w : World) :
    Calls Tryd.prog 41 #[.slice a len cap] w fun e w' => e = .returned (.bool (decide ((len : Int) ≤ 256))) ∧ w = w' := by
  go_enter Tryd.func41, Tryd.ntmps41
  go_wp2
  go_ret
  exact ⟨rfl, rfl⟩
set_option maxRecDepth 100000 in
theorem spec_l01NText (xs : List Nat) (a : Option Addr) (cap : Nat) (w : World) (hs : Holds w a xs.length (fvals .f32 xs)) (hl : xs.length ≤ 256) (hw : ∀ x ∈ xs, x < 2 ^ 32) :
    Calls Tryd.prog 42 #[.slice a xs.length cap] w fun e w' => e = .returned (.string (ntxt xs)) ∧ Below w.heap.size w w' := by
  have HS := Aside0.mk hs
  have HW := Aside0.mk hw
  have HB := Aside0.mk (Below.refl w.heap.size w)
  clear hs hw
  by_cases hne : xs = []
  · subst hne
    go_enter Tryd.func42, Tryd.ntmps42
    go_wp2
    go_ret
    exact ⟨rfl, HB.out⟩
  · have hpos : 0 < xs.length := List.length_pos_iff.2 hne
    have HE := Aside0.mk (ntxt_pre xs hne)
    have hz : ((xs.length : Int) == 0) = false := beq_eq_false_iff_ne.2 (by omega)
    rcases HS.out.split with h0 | ⟨b, o, rfl, hbl, hc⟩
    · omega
    have h1 : w.cell? ⟨b, o, none⟩ = some (.float .f32 xs[0]) := (hc 0 hpos).trans (congrArg some (getD_at xs 0 hpos))
    have h2 := eq_true (show (0 : Int) < (xs.length : Int) by omega)
    have h3 := eq_true hpos
    have HC := Aside0.mk hc
    have HX0 : Aside0 (xs[0] < 2 ^ 32) := ⟨HW.out _ (List.getElem_mem hpos)⟩
    have HP := Aside0.mk (pre_one xs hpos)
    obtain ⟨x0, hx0⟩ : ∃ y, y = xs[0] := ⟨_, rfl⟩
    rw [← hx0] at h1 HX0 HP
    clear hc hne hx0
    go_enter Tryd.func42, Tryd.ntmps42
    go_wp2_with (first | (go_at_call 60; refine (spec_l01Hex x0 HX0.out _).mono ?_; rintro e w5 ⟨rfl, hb⟩; have n0 := Aside0.mk (below_step HB.out hb); clear HB hb; have HB := n0; clear n0))
    go_loopg [3, 4] (xs.length + 1) (fun kq v3 v4 w' => ∃ (i : Nat) (T : ByteArray), 1 ≤ i ∧ i ≤ xs.length ∧ v4 = .int .i64 (i : Int) ∧ v3 = .string T ∧ Aside0 (T = ⟨(pre xs i).toArray⟩) ∧ Aside0 (kq + i = xs.length + 2) ∧ Aside0 (Below w.heap.size w w'))
    case atStart => exact ⟨1, hexT x0, by omega, by omega, rfl, rfl, ⟨by rw [HP.out, hexB_mk]⟩, ⟨by omega⟩, HB⟩
    case round =>
      clear HB HP HX0 h1 h2
      obtain ⟨i, T, hi0, hi1, rfl, rfl, HT, HK, HB⟩ := hrel
      cases gk with
      | zero => exact absurd HK.out (by omega)
      | succ k1 =>
        by_cases hlt : i < xs.length
        · have hci : w.cell? ⟨b, o + i, none⟩ = some (.float .f32 xs[i]) := (HC.out i hlt).trans (congrArg some (getD_at xs i hlt))
          have hc := (HB.out.cell (p := ⟨b, o + i, none⟩) hbl).trans hci
          have p2 : decide ((i : Int) < (xs.length : Int)) = true := decide_eq_true (by omega)
          have HXi : Aside0 (xs[i] < 2 ^ 32) := ⟨HW.out _ (List.getElem_mem hlt)⟩
          have HP := Aside0.mk (pre_next xs i (by omega) hlt)
          obtain ⟨xi, hxi⟩ : ∃ y, y = xs[i] := ⟨_, rfl⟩
          rw [← hxi] at hc HXi HP
          have hsz : (hexT xi).size = 8 := hexT_size xi
          have hT8 : T.size ≤ 2304 := by rw [HT.out, ba_size]; have := pre_len xs i; omega
          have hs1 := eq_true (show 1 + (hexT xi).size ≤ 9223372036854775807 by omega)
          have hs1' : decide (1 + (hexT xi).size ≤ 9223372036854775807) = true := decide_eq_true (by omega)
          have hsc : ((⟨#[44]⟩ : ByteArray) ++ hexT xi).size = 9 := by rw [ByteArray.size_append, hsz]; rfl
          have hs2 := eq_true (show T.size + ((⟨#[44]⟩ : ByteArray) ++ hexT xi).size ≤ 9223372036854775807 by rw [hsc]; omega)
          have HE2 : Aside0 (T ++ ((⟨#[44]⟩ : ByteArray) ++ hexT xi) = ⟨(pre xs (i + 1)).toArray⟩) := ⟨by rw [HT.out, HP.out, ← hexB_mk, ← ba_append, ← ba_append]⟩
          clear hxi hsc hci
          go_wp2_with (first | (go_at_call 60; refine (spec_l01Hex xi HXi.out _).mono ?_; rintro e w5 ⟨rfl, hb⟩; have n0 := Aside0.mk (below_step HB.out hb); clear HB hb; have HB := n0; clear n0))
          go_roundg k1
          case measure => omega
          case rel => exact ⟨i + 1, _, by omega, by omega, by go_num, rfl, HE2, ⟨by have := HK.out; omega⟩, HB⟩
        · have hk2 : i = xs.length := by omega
          subst hk2
          go_wp2
          go_ret
          exact ⟨by rw [HE.out, ← HT.out]; rfl, HB.out⟩
theorem spec_NumbersText (xs : List Nat) (a : Option Addr) (cap : Nat) (w : World) (hs : Holds w a xs.length (fvals .f32 xs)) (hl : xs.length ≤ 1048576) (hw : ∀ x ∈ xs, x < 2 ^ 32) :
    Calls Tryd.prog 16 #[.slice a xs.length cap] w fun e w' => e = .returned (.tuple #[.string (ntB xs).1, .bool (ntB xs).2]) ∧ Below w.heap.size w w' := by
  unfold ntB
  have HS := Aside0.mk hs
  have HW := Aside0.mk hw
  have HB := Aside0.mk (Below.refl w.heap.size w)
  clear hs hw
  by_cases h6 : xs.length ≤ 256
  · rw [if_pos h6]
    have h1 : decide ((xs.length : Int) ≤ 256) = true := decide_eq_true (by omega)
    go_enter Tryd.func16, Tryd.ntmps16
    go_wp2_with (first | (go_at_call 41; refine (few_calls _ _ _ _).mono ?_; rw [h1]; rintro e w5 ⟨rfl, rfl⟩) | (go_at_call 42; refine (spec_l01NText xs _ _ _ HS.out h6 HW.out).mono ?_; rintro e w5 ⟨rfl, hb⟩; have n0 := Aside0.mk (below_step HB.out hb); clear HB hb; have HB := n0; clear n0))
    go_ret2
    exact ⟨rfl, HB.out⟩
  · rw [if_neg h6]
    have h1 : decide ((xs.length : Int) ≤ 256) = false := decide_eq_false (by omega)
    go_enter Tryd.func16, Tryd.ntmps16
    go_wp2_with (first | (go_at_call 41; refine (few_calls _ _ _ _).mono ?_; rw [h1]; rintro e w5 ⟨rfl, rfl⟩))
    go_ret2
    exact ⟨rfl, HB.out⟩

theorem joinB_ntxt (xs : List Nat) : joinB (xs.map hexT) = ntxt xs := by
  unfold joinB ntxt
  by_cases h : xs = []
  · subst h; rfl
  · rw [if_neg h, if_neg (by simpa using h), List.map_map]; rfl
theorem hexs_snoc (xs : List Nat) (i : Nat) (h : i < xs.length) : (xs.take (i + 1)).map hexT = (xs.take i).map hexT ++ [hexT xs[i]] := by
  rw [List.take_succ_eq_append_getElem h, List.map_append]; rfl
theorem impl_NumbersText (xs : List Nat) (a : Option Addr) (cap : Nat) (w : World) (hs : Holds w a xs.length (fvals .f32 xs)) (hl : xs.length ≤ 1048576) (hw : ∀ x ∈ xs, x < 2 ^ 32) (hT : Tz w) :
    Calls Tryd.prog 18 #[.slice a xs.length cap] w fun e w' => e = .returned (.tuple #[.string (ntB xs).1, .bool (ntB xs).2]) ∧ Below w.heap.size w w' := by
  unfold ntB
  have HS := Aside0.mk hs
  have HW := Aside0.mk hw
  have HT := Aside0.mk hT
  have HB := Aside0.mk (Below.refl w.heap.size w)
  clear hs hw hT
  by_cases h6 : xs.length ≤ 256
  · rw [if_pos h6]
    have h1 : decide ((xs.length : Int) > 256) = false := decide_eq_false (by omega)
    have h1' : decide ((256 : Int) < (xs.length : Int)) = false := decide_eq_false (by omega)
    have HJ : Aside0 ((Lib.join ((xs.map hexT).map (·.data.toList)) [44]).length ≤ 140737488355328) := ⟨by
      rw [List.map_map]; have : (Lib.join (xs.map hexB) [44]).length ≤ 9 * xs.length := join_hex_len xs; exact Nat.le_trans this (by omega)⟩
    go_enter Tryd.func18, Tryd.ntmps18
    go_wp2_with (first | ((with_reducible refine gate_dst (N := 10) rfl ?_); refine Kd.R_lit Kd.string _ 9 ?hg (N := 10) ?hd (xs := ([] : List ByteArray)) (inner := []) (ok := fun _ => True) (okp := fun _ => True) ?hr ?hp (fun _ hk => hk) trivial (Below.refl _ _) (Nat.le_refl _) (by simp) ?_; (case hd => rfl); (case hg => rfl); (case hr => first | (go_simp; done) | (go_simp; rfl)); (case hp => exact (Reps.none _ _)); intro v127 w3 ho4 hb hg_ hnew_; clear hg_ hnew_; have HO := Aside0.mk ho4; have HB2 := Aside0.mk hb; clear ho4 hb HB))
    go_loopg [4, 13] (xs.length + 1) (fun kq v4 v13 w' => ∃ i : Nat, i ≤ xs.length ∧ v13 = .int .i64 (i : Int) ∧ Aside0 (kq + i = xs.length + 1) ∧ Aside0 (Kd.R Kd.string 9 w' w.heap.size (fun _ => True) v4 ((xs.take i).map hexT)) ∧ Aside0 (Below w.heap.size w w'))
    case atStart => exact ⟨0, by omega, rfl, ⟨by omega⟩, HO, HB2⟩
    case round =>
      clear HO HB2
      obtain ⟨i, hi1, rfl, HK, HO, HB⟩ := hrel
      cases gk with
      | zero => exact absurd HK.out (by omega)
      | succ k1 =>
        by_cases hlt : i < xs.length
        · rcases HS.out.split with h0 | ⟨b, o, rfl, hbl, hc⟩
          · omega
          have hci := ((HB.out.cell (p := ⟨b, o + i, none⟩) hbl).trans (hc i hlt)).trans (congrArg some (getD_at xs i hlt))
          have p2 : decide ((i : Int) < (xs.length : Int)) = true := decide_eq_true (by omega)
          have HXi : Aside0 (xs[i] < 2 ^ 32) := ⟨HW.out _ (List.getElem_mem hlt)⟩
          have HN := Aside0.mk (hexs_snoc xs i hlt)
          have HLen : Aside0 (((xs.take i).map hexT).length ≤ 256) := ⟨by rw [List.length_map, List.length_take]; omega⟩
          obtain ⟨words, hwords⟩ : ∃ y, y = (xs.take i).map hexT := ⟨_, rfl⟩
          obtain ⟨xi, hxi⟩ : ∃ y, y = xs[i] := ⟨_, rfl⟩
          rw [← hwords] at HO HN HLen
          rw [← hxi] at hci HXi HN
          clear hwords hxi hc
          go_wp2_with (first | (go_at_call 43; refine (impl_digits xi HXi.out _ (HT.out.on HB.out)).mono ?_; rintro e w5 ⟨rfl, hb⟩; have n0 := Aside0.mk (Kd.R_below HO.out hb); have n1 := Aside0.mk (below_step HB.out hb); clear HO HB hb; have HO := n0; have HB := n1; clear n0 n1) | ((with_reducible refine gate_builtin (b := .append) (xs := #[.tmp 17, .tmp 20]) rfl ?_); at_builtin; refine Kd.R_append Kd.string (w0 := w) w.heap.size rfl (.tmp 17) (.tmp 20) 51 9 (.string ⟨#[]⟩) 16 rfl Tryd.underlying51 Pr.info9 rfl (by decide) (by omega) u4 words (hexT xi) [.string (hexT xi)] (fun _ => True) (fun _ => False) rfl rfl ?aP (fun _ hk => hk.elim) ?aF ?aO ?aB ?aS ?aL ?_; (case aP => exact rfl); (case aB => exact (by repeat (first | (with_reducible first | exact HB.out | apply below_alloc | apply pw_below_drewN | apply below_drew1) | exact HB.out))); (case aF => exact (fun _ _ => trivial)); (case aO => exact (by (with_reducible repeat (first | apply Kd.R_alloc | apply Kd.R_drewN | apply Kd.R_drew)); exact HO.out)); (case aS => exact (below_size (by repeat (first | (with_reducible first | exact HB.out | apply below_alloc | apply pw_below_drewN | apply below_drew1) | exact HB.out)))); (case aL => have := HLen.out; omega); intro v130 w11 ho hb hg hat; rw [← HN.out] at ho; have n0_ := Aside0.mk (hb); have n1_ := Aside0.mk (ho); clear HB; clear HO; have HB := n0_; have HO := n1_; clear n0_ n1_; clear ho hb hg hat))
          go_roundg k1
          case measure => omega
          case rel => exact ⟨i + 1, by omega, by go_num, ⟨by have := HK.out; omega⟩, HO, HB⟩
        · have hk2 : i = xs.length := by omega
          subst hk2
          rw [List.take_length] at HO
          have HE := Aside0.mk (joinB_ntxt xs)
          have HLen : Aside0 ((xs.map hexT).length ≤ 1048576) := ⟨by rw [List.length_map]; exact hl⟩
          obtain ⟨words, hwords⟩ : ∃ y, y = xs.map hexT := ⟨_, rfl⟩
          rw [← hwords] at HO HJ HLen HE
          clear hwords
          go_wp2_with (first | (go_at_call 40; refine (impl_joined words _ _ _ _ HO.out HLen.out HJ.out).mono ?_; rintro e w5 ⟨rfl, hb⟩; have n1 := Aside0.mk (below_step HB.out hb); clear HO HB hb; have HB := n1; clear n1))
          go_ret2
          exact ⟨by rw [HE.out]; rfl, HB.out⟩
  · rw [if_neg h6]
    have h1 : decide ((xs.length : Int) > 256) = true := decide_eq_true (by omega)
    have h1' : decide ((256 : Int) < (xs.length : Int)) = true := decide_eq_true (by omega)
    go_enter Tryd.func18, Tryd.ntmps18
    go_wp2
    go_ret2
    exact ⟨rfl, HB.out⟩

theorem copy_calls (xs : List Nat) (a : Option Addr) (c : Nat) (w : World) (hs : Holds w a xs.length (fvals .f32 xs)) (hl : xs.length ≤ 1048576) :
    Calls Tryd.prog 17 #[.slice a xs.length c] w fun e w' => (∃ A', e = .returned (.slice A' xs.length xs.length) ∧ Holds w' A' xs.length (fvals .f32 xs)) ∧ Below w.heap.size w w' := by
  refine (laws_toFloat32S a xs.length c xs w hs hl).mono ?_
  rintro e w' ⟨rfl, hb, cur, ho, _, hc⟩
  exact ⟨⟨_, rfl, ho.holds hc⟩, hb⟩
theorem equal_calls (xs : List Nat) (a b : Option Addr) (c d : Nat) (w : World) (hs : Holds w a xs.length (fvals .f32 xs)) (hs2 : Holds w b xs.length (fvals .f32 xs)) (hl : xs.length ≤ 1048576) :
    Calls Tryd.prog 19 #[.slice a xs.length c, .slice b xs.length d] w fun e w' => e = .returned (.bool true) ∧ Below w.heap.size w w' := by
  refine (laws_eqFloat32S a b xs.length c d xs xs w hs hs2 hl (fun _ _ => Same.refl _ _)).mono ?_
  rintro e w' ⟨n, rfl, rfl⟩
  exact ⟨rfl, pw_below_drewN (Below.refl _ _) n⟩

theorem walk_FnExactNumbersText (a : Option Addr) (len cap : Nat) (xs : List Nat) (W : World) (w0 : FRow .f32 W a len cap xs) (hL : laidMet Tryd.prog Rows.fnExactNumbersTextRow.laid W) (hS : W.ShapedOpen Tryd.prog) :
    Calls Tryd.prog 5 #[.slice a len cap] W fun e W' => e = .returned (.bool true) ∧ Below W.heap.size W W' := by
  obtain ⟨hC, rfl, hcap, hmax, hwf⟩ := w0
  have hw : ∀ x ∈ xs, x < 2 ^ 32 := fun x hx => hwf x hx
  have hT : Tz W := tz_of hL
  have hm : xs.length ≤ 9223372036854775807 := by unfold maxLen at hmax; omega
  by_cases hl : xs.length ≤ 1048576
  · have HR := Aside0.mk hC
    have HL := Aside0.mk hl
    have HW := Aside0.mk hw
    have HT := Aside0.mk hT
    have HB := Aside0.mk (Below.refl W.heap.size W)
    have h1 : decide ((xs.length : Int) > 1048576) = false := decide_eq_false (by omega)
    have h2 : decide (1048576 < (xs.length : Int)) = false := decide_eq_false (by omega)
    clear hC hcap hmax hwf hw hT hL hS
    go_enter Tryd.func5, Tryd.ntmps5
    go_wp2_with (go_at_call 17; refine (copy_calls xs _ _ _ HR.out HL.out).mono ?_; rintro e w1 ⟨⟨A1, rfl, hr1⟩, hb1⟩; have HR1 := Aside0.mk hr1; have HB1 := Aside0.mk hb1; clear hr1 hb1; refine Hid.out ?_)
    refine Lib.hid ?_
    have HB2 := Aside0.mk (below_step HB.out HB1.out)
    go_wp2_with (go_at_call 16; refine (spec_NumbersText xs _ _ _ HR1.out HL.out HW.out).mono ?_; rintro e w2 ⟨rfl, hb2⟩; have HB3 := Aside0.mk (below_step HB2.out hb2); clear HB2 hb2; refine Hid.out ?_)
    refine Lib.hid ?_
    clear HR1 HB1 HB
    have HR2 := Aside0.mk (HR.out.keep HB3.out)
    go_wp2_with (go_at_call 17; refine (copy_calls xs _ _ _ HR2.out HL.out).mono ?_; rintro e w3 ⟨⟨A3, rfl, hr3⟩, hb3⟩; have HR3 := Aside0.mk hr3; have HB4 := Aside0.mk (below_step HB3.out hb3); clear hr3 hb3 HB3 HR2; refine Hid.out ?_)
    refine Lib.hid ?_
    go_wp2_with (go_at_call 18; refine (impl_NumbersText xs _ _ _ HR3.out HL.out HW.out (HT.out.on HB4.out)).mono ?_; rintro e w4 ⟨rfl, hb4⟩; have HB5 := Aside0.mk (below_step HB4.out hb4); have HR4 := Aside0.mk (HR3.out.keep hb4); clear hb4 HB4 HR3; refine Hid.out ?_)
    refine Lib.hid ?_
    have HR5 := Aside0.mk (HR.out.keep HB5.out)
    obtain ⟨T, b⟩ := ntB xs
    go_wp2_with (go_at_call 17; refine (copy_calls xs _ _ _ HR5.out HL.out).mono ?_; rintro e w5 ⟨⟨A5, rfl, hr5⟩, hb5⟩; have HR6 := Aside0.mk hr5; have HB6 := Aside0.mk (below_step HB5.out hb5); have HR7 := Aside0.mk (HR4.out.keep hb5); clear hr5 hb5 HB5 HR5 HR4; refine Hid.out ?_)
    refine Lib.hid ?_
    go_wp2_with (go_at_call 19; refine (equal_calls xs _ _ _ _ _ HR7.out HR6.out HL.out).mono ?_; rintro e w6 ⟨rfl, hb6⟩; have HB7 := Aside0.mk (below_step HB6.out hb6); clear hb6 HB6 HR6 HR7)
    go_ret
    exact ⟨rfl, HB7.out⟩
  · have h1 : decide ((xs.length : Int) > 1048576) = true := decide_eq_true (by omega)
    have h2 : decide (1048576 < (xs.length : Int)) = true := decide_eq_true (by omega)
    go_enter Tryd.func5, Tryd.ntmps5
    go_wp2
    go_ret
    exact ⟨rfl, Below.refl _ _⟩
end Go.Proofs.YtmfaickanmdfnaaDoor
