/- The text of a list of whole numbers: the program's side, with the library's contracts. Under no condition. -/
import Derived.Test.YtmfaickanmdfnaaDoorPl
import Derived.Test.YtmfaickanmdfnaaDoorDm
namespace Go.Proofs.YtmfaickanmdfnaaDoor
open Go Go.RowKit Go.Proofs.YtmfaickanmdfnaaDoorW.PrintWords Go.Proofs.YtmfaickanmdfnaaDoorW.PrintLast Go.Proofs.YtmfaickanmdfnaaDoorW.PrintMore
attribute [local go_sem] max2_int min2_int max_two min_two max_three min_three max_four min_four
set_option linter.unusedVariables false
set_option linter.unusedSimpArgs false

theorem ret_b {a b : Bool} (h : a = b) : (Ending.returned (.bool a)) = .returned (.bool b) := by rw [h]

theorem impl_within_small (n : Int) (w : World) :
    Calls Tryd.prog 47 #[.int .i64 n, .int .i64 (-1000000000000000), .int .i64 1000000000000000] w fun e w' => e = .returned (.bool (smallB n)) ∧ w = w' := by
  go_enter Tryd.func47, Tryd.ntmps47
  go_wp2
  all_goals (go_ret; refine ⟨ret_b ?_, rfl⟩)
  all_goals (simp [smallB]; try omega)

theorem notSmall_fn (n : Int) (w : World) :
    Calls Tryd.prog 58 #[.int .i64 n] w fun e w' => e = .returned (.bool (!smallB n)) ∧ w = w' := by
  go_enter Tryd.func58, Tryd.ntmps58
  go_wp2_with (first | (go_at_call 47; refine (impl_within_small _ _).mono ?_; rintro e w' ⟨rfl, rfl⟩))
  go_ret
  exact ⟨rfl, rfl⟩

theorem takeS_all {l : List Int} {i : Nat} (h : i < l.length) : (l.take (i + 1)).all smallB = ((l.take i).all smallB && smallB l[i]) := by
  rw [List.take_succ_eq_append_getElem h, List.all_append]; simp
theorem all_out {l : List Int} {i : Nat} (h : i < l.length) (hb : smallB l[i] = false) : l.all smallB = false := by
  rw [List.all_eq_false]
  exact ⟨l[i], List.getElem_mem h, by rw [hb]; decide⟩

theorem index_small (l : List Int) (A : Option Addr) (cap : Nat) (w : World) (hr : Kd.C (Kd.int .i64) w A l.length l) (hl : l.length ≤ 1048576) :
    Calls Tryd.prog 76 #[.slice A l.length cap, .func (.func 58) #[] #[]] w fun e w' => (∃ k : Int, e = .returned (.int .i64 k) ∧ decide (0 ≤ k) = !l.all smallB) ∧ w = w' := by
  have H := Aside0.mk hr
  clear hr
  go_enter Tryd.func76, Tryd.ntmps76
  go_wp2
  go_loop [8] (fun i => ∃ k : Int, 0 ≤ k ∧ k ≤ l.length ∧ i = .int .i64 k ∧ Aside0 ((l.take k.toNat).all smallB = true)) (fun i => l.length - (intOf i).toNat)
  case atStart => exact ⟨0, Int.le_refl _, by omega, rfl, ⟨rfl⟩⟩
  case round =>
    obtain ⟨k, hk0, hk, rfl, hall⟩ := hrel
    by_cases hlt : k < (l.length : Int)
    · obtain ⟨ad, rfl, hc⟩ := Kd.at_int H.out k hk0 hlt
      have e1 : rd l k = l[k.toNat]'(by omega) := by
        have := rd_at l k.toNat (by omega)
        rwa [Int.toNat_of_nonneg hk0] at this
      have hw := wrap_small (k + 1) (by omega) (by omega)
      have p1 := eq_true hk0
      have q1 := eq_true hlt
      have p2 := decide_eq_true hlt
      clear H
      cases hin : smallB (rd l k) with
      | true =>
        have HN : Aside0 ((l.take (k + 1).toNat).all smallB = true) := ⟨by
          have : (k + 1).toNat = k.toNat + 1 := by omega
          rw [this, takeS_all (by omega), hall.out, ← e1, hin]; rfl⟩
        have HW := Aside0.mk hw
        clear hw hall e1
        go_wp2_with (first | (go_at_call 58; refine (notSmall_fn _ _).mono ?_; rintro e w' ⟨rfl, rfl⟩))
        go_round
        case rel => exact ⟨k + 1, by omega, by omega, rfl, HN⟩
        case measure => simp [intOf]; omega
      | false =>
        have HN : Aside0 (l.all smallB = false) := ⟨all_out (i := k.toNat) (by omega) (by rw [← e1]; exact hin)⟩
        have HP := Aside0.mk hk0
        clear hall e1 hw
        go_wp2_with (first | (go_at_call 58; refine (notSmall_fn _ _).mono ?_; rintro e w' ⟨rfl, rfl⟩))
        go_ret
        exact ⟨⟨_, rfl, by rw [HN.out]; simpa using HP.out⟩, rfl⟩
    · have hk2 : k = (l.length : Int) := by omega
      have HN : Aside0 (l.all smallB = true) := ⟨by have := hall.out; rwa [hk2, Int.toNat_natCast, List.take_length] at this⟩
      subst hk2
      clear hall
      go_wp2
      go_ret
      exact ⟨⟨_, rfl, by rw [HN.out]; rfl⟩, rfl⟩

theorem contains_small (l : List Int) (A : Option Addr) (cap : Nat) (w : World) (hr : Kd.C (Kd.int .i64) w A l.length l) (hl : l.length ≤ 1048576) :
    Calls Tryd.prog 57 #[.slice A l.length cap, .func (.func 58) #[] #[]] w fun e w' => e = .returned (.bool (!l.all smallB)) ∧ w = w' := by
  go_enter Tryd.func57, Tryd.ntmps57
  go_wp2_with (first | (go_at_call 76; refine (index_small l _ _ _ hr hl).mono ?_; rintro e w' ⟨⟨k, rfl, hk⟩, rfl⟩; have HK := Aside0.mk hk; clear hk))
  go_ret
  exact ⟨ret_b HK.out, rfl⟩

theorem impl_isList (l : List Int) (A : Option Addr) (cap : Nat) (w : World) (hr : Kd.C (Kd.int .i64) w A l.length l) (hl : l.length ≤ 1048576) :
    Calls Tryd.prog 39 #[.slice A l.length cap] w fun e w' => e = .returned (.bool (listB l)) ∧ w = w' := by
  by_cases h64 : l.length ≤ 64
  · have h1 : decide ((l.length : Int) ≤ 64) = true := decide_eq_true (by omega)
    have h2 : decide (l.length ≤ 64) = true := decide_eq_true h64
    go_enter Tryd.func39, Tryd.ntmps39
    go_wp2_with (first | (go_at_call 57; refine (contains_small l _ _ _ hr hl).mono ?_; rintro e w' ⟨rfl, rfl⟩))
    go_ret
    exact ⟨ret_b (by unfold listB; rw [h2]; simp), rfl⟩
  · have h1 : decide ((l.length : Int) ≤ 64) = false := decide_eq_false (by omega)
    have h2 : decide (l.length ≤ 64) = false := decide_eq_false h64
    go_enter Tryd.func39, Tryd.ntmps39
    go_wp2
    go_ret
    exact ⟨ret_b (by unfold listB; rw [h2]; simp), rfl⟩

theorem str_row {w : World} {base : Nat} {ok : Nat → Prop} {v : Value} {xs : List ByteArray} (h : Kd.R Kd.string 9 w base ok v xs) (hne : xs ≠ []) :
    ∃ g c, v = .slice (some ⟨g, 0, none⟩) xs.length c ∧ xs.length ≤ c ∧ g < w.heap.size ∧ ∀ (j : Nat) x, xs[j]? = some x → w.cell? ⟨g, 0 + j, none⟩ = some (.string x) := by
  have ho := Kd.own_of_R h
  have hpos : xs.length ≠ 0 := fun e => hne (List.eq_nil_of_length_eq_zero e)
  obtain ⟨h1, ⟨_, h2⟩ | ⟨g, cap, cur, rfl, hg, hh, hcap, hmax, r⟩⟩ := ho
  · exact absurd h2 hpos
  · refine ⟨g, cap, rfl, hcap, lt_of_block hh, fun j x hx => ?_⟩
    have hj : j < xs.length := (List.getElem?_eq_some_iff.1 hx).1
    have := (Kd.R_cell ByteArray.empty h (j : Int) (by omega) (by omega)).1
    rw [Int.toNat_natCast] at this
    rw [Nat.zero_add, this]
    unfold rdOf
    rw [Int.toNat_natCast, List.getD_eq_getElem?_getD, hx]; rfl

/-- Texts with a comma between them, or none. -/
def joinB (xs : List ByteArray) : ByteArray := if xs = [] then ⟨#[110, 111, 110, 101]⟩ else ⟨(Lib.join (xs.map (·.data.toList)) [44]).toArray⟩
theorem impl_joined (xs : List ByteArray) (v : Value) (base : Nat) (ok : Nat → Prop) (w : World) (h : Kd.R Kd.string 9 w base ok v xs) (hl : xs.length ≤ 1048576) (hlen : (Lib.join (xs.map (·.data.toList)) [44]).length ≤ 140737488355328) :
    Calls Tryd.prog 40 #[v] w fun e w' => e = .returned (.string (joinB xs)) ∧ Below w.heap.size w w' := by
  by_cases hne : xs = []
  · subst hne
    obtain ⟨A, c, rfl, hc, hr⟩ := Kd.R_reads h
    clear h hr hlen
    go_enter Tryd.func40, Tryd.ntmps40
    go_wp2
    go_ret
    exact ⟨rfl, Below.refl _ _⟩
  · obtain ⟨g, c, rfl, hc, hg, hx⟩ := str_row h hne
    have e : joinB xs = ⟨(Lib.join (xs.map (·.data.toList)) [44]).toArray⟩ := if_neg hne
    have hpos : xs.length ≠ 0 := fun e => hne (List.eq_nil_of_length_eq_zero e)
    have h1 : ((xs.length : Int) == 0) = false := beq_eq_false_iff_ne.2 (by omega)
    have HX := Aside0.mk hx
    have HL := Aside0.mk hlen
    clear hx hlen h
    rw [e]; clear e hne
    go_enter Tryd.func40, Tryd.ntmps40
    go_wp2_with (first | (go_at_call 59; refine (Tryd.strings_Join g 0 c xs ⟨#[44]⟩ _ HX.out hg (by omega) hc HL.out).mono ?_; rintro e w' ⟨rfl, hb⟩))
    go_ret
    exact ⟨rfl, hb⟩
end Go.Proofs.YtmfaickanmdfnaaDoor
