/- The laws on lists of numbers, walked: each returns true and writes nothing that was there. Under no condition. -/
import Derived.Test.YtifcacjjmgjnhaaCt
namespace Go.Proofs.Ytifcacjjmgjnhaa
open Go Go.RowKit
set_option linter.unusedVariables false
set_option linter.unusedSimpArgs false

theorem CopyOf.holds {E : TypeId} {V : Nat → Value} {len : Nat} {w w' : World} {cur : Array Value} (h1 : Own w' w.heap.size E cur) (h3 : ∀ i, i < len → cur[i]? = some (V i)) : Holds w' (some ⟨w.heap.size, 0, none⟩) len V := h1.holds h3

theorem walk_FnExactSumNumbers (a : Option Addr) (len cap : Nat) (xs : List Nat) (w : World) (hr : FRow .f32 w a len cap xs) :
    Calls Try.prog 13 #[.slice a len cap] w fun e w' => e = .returned (.bool true) ∧ Below w.heap.size w w' := by
  obtain ⟨hs, hlen, hcap, hmax, hfit⟩ := hr
  have hcap2 : len ≤ 9223372036854775807 := by unfold maxLen at hmax; omega
  clear hlen hfit hmax hcap
  by_cases h20 : len ≤ 1048576
  · go_enter Try.func13, Try.ntmps13
    go_wp2_with fail
    refine (laws_toFloat32S a len cap xs _ hs h20).mono ?_
    rintro e w1 ⟨rfl, hb1, cur1, ho1, hz1, hc1⟩
    have h1 := ho1.holds hc1
    go_wp2_with fail
    refine (spec_SumNumbers _ len len xs _ h1 h20).mono ?_
    rintro e w2 ⟨s, n, rfl, ⟨hs1⟩, rfl⟩
    go_wp2_with fail
    have hb1' := below_drewN hb1 n
    refine (laws_toFloat32S a len cap xs _ (hs.below hb1' (Nat.le_refl _)) h20).mono ?_
    rintro e w3 ⟨rfl, hb3, cur3, ho3, hz3, hc3⟩
    have h3 := ho3.holds hc3
    have hb13 : Below w.heap.size w w3 := hb1'.trans (hb3.mono (by simpa using hb1.size))
    go_wp2_with fail
    refine (impl_SumNumbers _ len len xs _ h3 h20).mono ?_
    rintro e w4 ⟨s', n', rfl, ⟨hs2⟩, rfl⟩
    go_wp2_with (first | (refine wpList_farith rfl _ _ _ _ _ rfl rfl _ _ _ rfl rfl ?_; rintro r n ⟨hr⟩ hl; simp only [fbin] at hr) | (refine wpList_fwid rfl _ _ _ rfl _ rfl (by rw [Try.underlying23]; rfl) Try.underlying31 ?_; rintro r n ⟨hr⟩ hl) | (go_at_call 25; refine (sameFloat_true _ _ _ ⟨by simp only [fwid, fconv, *]⟩).mono ?_; rintro e w' ⟨n5, rfl, rfl⟩))
    refine (laws_toFloat32S a len cap xs _ (hs.below (below_drewN hb13 _) (Nat.le_refl _)) h20).mono ?_
    rintro e w5 ⟨rfl, hb5, cur5, ho5, hz5, hc5⟩
    have h5 := ho5.holds hc5
    have h35 := (h3.drewN _).below hb5 (Nat.le_refl _)
    have hb15 : Below w.heap.size w w5 := (below_drewN hb13 _).trans (hb5.mono (by simpa using hb13.size))
    go_wp2_with fail
    refine (laws_eqFloat32S _ _ len len len xs xs _ h35 h5 h20 (fun i _ => Same.refl _ _)).mono ?_
    rintro e w6 ⟨n6, rfl, rfl⟩
    go_wp2
    go_ret
    exact ⟨rfl, below_drewN hb15 _⟩
  · have hl' : (1048576 : Int) < len := by omega
    go_enter Try.func13, Try.ntmps13
    go_wp2
    go_ret
    exact ⟨rfl, Below.refl _ _⟩

theorem walk_FnExactDotNumbers (a : Option Addr) (len cap : Nat) (xs : List Nat) (b : Option Addr) (len' cap' : Nat) (ys : List Nat) (w : World) (hr : FRow .f32 w a len cap xs) (hr' : FRow .f32 w b len' cap' ys) :
    Calls Try.prog 12 #[.slice a len cap, .slice b len' cap'] w fun e w' => e = .returned (.bool true) ∧ Below w.heap.size w w' := by
  obtain ⟨hs, hlen, hcap, hmax, hfit⟩ := hr
  obtain ⟨hs', hlen', hcap', hmax', hfit'⟩ := hr'
  have hcap2 : len ≤ 9223372036854775807 := by unfold maxLen at hmax; omega
  have hcap2' : len' ≤ 9223372036854775807 := by unfold maxLen at hmax'; omega
  clear hlen hfit hmax hcap hlen' hfit' hmax' hcap'
  by_cases h20 : len ≤ 1048576
  · by_cases h20' : len' ≤ 1048576
    · have key : ∃ V few, (∀ (w1 : World) p q, Holds w1 p len (fvals .f32 xs) → Holds w1 q len' (fvals .f32 ys) → Calls Try.prog 32 #[.slice p len len, .slice q len' len'] w1 (SumOut V few len w1)) ∧
          (∀ (w1 : World) p q, Holds w1 p len (fvals .f32 xs) → Holds w1 q len' (fvals .f32 ys) → Calls Try.prog 34 #[.slice p len len, .slice q len' len'] w1 (SumOut V few len w1)) := by
        by_cases hc : len ≤ 256 ∧ len = len'
        · obtain ⟨h256, rfl⟩ := hc
          exact ⟨dotV xs ys, true, fun w1 p q h h' => spec_DotNumbers p q len len len xs ys w1 h h' h256, fun w1 p q h h' => impl_DotNumbers p q len len len xs ys w1 h h' h256⟩
        · exact ⟨dotV xs ys, false, fun w1 p q h h' => spec_DotNumbers_no p q len len' len len' _ w1 (by omega) h20 h20', fun w1 p q h h' => impl_DotNumbers_no p q len len' len len' _ w1 (by omega) h20 h20'⟩
      obtain ⟨V, few, hspec, himpl⟩ := key
      have HSPEC := Lib.hid hspec
      have HIMPL := Lib.hid himpl
      clear hspec himpl
      go_enter Try.func12, Try.ntmps12
      go_wp2_with fail
      refine (laws_toFloat32S a len cap xs _ hs h20).mono ?_
      rintro e w1 ⟨rfl, k1, cur1, ho1, hz1, hc1⟩
      have h1 := ho1.holds hc1
      go_wp2_with fail
      refine (laws_toFloat32S b len' cap' ys _ (hs'.keep k1) h20').mono ?_
      rintro e w2 ⟨rfl, k2, cur2, ho2, hz2, hc2⟩
      have h2 := ho2.holds hc2
      have K2 := keep_trans k1 k2
      go_wp2_with fail
      refine (HSPEC.out _ _ _ (h1.keep k2) h2).mono ?_
      rintro e w3 ⟨s, n, rfl, ⟨hs1⟩, rfl⟩
      have K3 := keep_drewN K2 n
      go_wp2_with fail
      refine (laws_toFloat32S a len cap xs _ (hs.keep K3) h20).mono ?_
      rintro e w4 ⟨rfl, k4, cur4, ho4, hz4, hc4⟩
      have h4 := ho4.holds hc4
      have K4 := keep_trans K3 k4
      go_wp2_with fail
      refine (laws_toFloat32S b len' cap' ys _ (hs'.keep K4) h20').mono ?_
      rintro e w5 ⟨rfl, k5, cur5, ho5, hz5, hc5⟩
      have h5 := ho5.holds hc5
      have K5 := keep_trans K4 k5
      have h45 := h4.keep k5
      go_wp2_with fail
      refine (HIMPL.out _ _ _ h45 h5).mono ?_
      rintro e w6 ⟨s', n', rfl, ⟨hs2⟩, rfl⟩
      go_wp2_with (first | (refine wpList_farith rfl _ _ _ _ _ rfl rfl _ _ _ rfl rfl ?_; rintro r n ⟨hr⟩ hl; simp only [fbin] at hr) | (refine wpList_fwid rfl _ _ _ rfl _ rfl (by rw [Try.underlying23]; rfl) Try.underlying31 ?_; rintro r n ⟨hr⟩ hl) | (go_at_call 25; refine (sameFloat_true _ _ _ ⟨by simp only [fwid, fconv, *]⟩).mono ?_; rintro e w' ⟨n5, rfl, rfl⟩))
      refine (laws_toFloat32S a len cap xs _ (hs.keep (keep_drewN K5 _)) h20).mono ?_
      rintro e w7 ⟨rfl, k7, cur7, ho7, hz7, hc7⟩
      have h7 := ho7.holds hc7
      have K7 := keep_trans (keep_drewN K5 _) k7
      have h47 := (h45.drewN _).keep k7
      have h57 := (h5.drewN _).keep k7
      go_wp2_with fail
      refine (laws_eqFloat32S _ _ len len len xs xs _ h47 h7 h20 (fun i _ => Same.refl _ _)).mono ?_
      rintro e w8 ⟨n8, rfl, rfl⟩
      go_wp2_with fail
      refine (laws_toFloat32S b len' cap' ys _ (hs'.keep (keep_drewN K7 _)) h20').mono ?_
      rintro e w9 ⟨rfl, k9, cur9, ho9, hz9, hc9⟩
      have h9 := ho9.holds hc9
      have K9 := keep_trans (keep_drewN K7 _) k9
      have h59 := (h57.drewN _).keep k9
      go_wp2_with fail
      refine (laws_eqFloat32S _ _ len' len' len' ys ys _ h59 h9 h20' (fun i _ => Same.refl _ _)).mono ?_
      rintro e w10 ⟨n10, rfl, rfl⟩
      go_wp2
      go_ret
      exact ⟨rfl, keep_drewN K9 _⟩
    · have hl' : (1048576 : Int) < len' := by omega
      go_enter Try.func12, Try.ntmps12
      go_wp2
      go_ret
      exact ⟨rfl, Below.refl _ _⟩
  · have hl' : (1048576 : Int) < len := by omega
    go_enter Try.func12, Try.ntmps12
    go_wp2
    go_ret
    exact ⟨rfl, Below.refl _ _⟩

end Go.Proofs.Ytifcacjjmgjnhaa
