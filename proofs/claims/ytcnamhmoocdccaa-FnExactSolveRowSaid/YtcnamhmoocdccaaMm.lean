/- The contract of made. Under no condition. -/
import Derived.Test.YtcnamhmoocdccaaMd
import Derived.Shelf.Abstract
namespace Go.Proofs.Ytcnamhmoocdccaa
open Go Go.RowKit
set_option linter.unusedVariables false
set_option linter.unusedSimpArgs false

set_option maxRecDepth 8000 in
set_option maxHeartbeats 4000000 in
theorem impl_made (X Y : Nat) (rb : Bool) (cf : FuncId) (caps : Array Value) (V : Nat → Nat) (row : Option Nat) (St : Nat → World → Prop) (w : World)
    (hen : Enters Try.prog cf) (hX : X ≤ 16) (hY : Y ≤ 16) (hrow : ∀ k, row = some k → k < w.heap.size) (h0 : St 0 w)
    (hstab : ∀ s w1 w2 row', St s w1 → w1.grownBy w2 row' → (∀ k, row' = some k → w.heap.size ≤ k) → St s w2)
    (hcl : ∀ (xx yy : Nat) (w1 : World), xx < X → yy < Y → w.grownBy w1 row → St (xx + X * yy) w1 →
      Calls Try.prog cf (#[.int .i64 xx, .int .i64 yy] ++ caps) w1 fun e w2 => ∃ b, e = .returned (.float .f32 b) ∧ Same .f32 b (V (xx + X * yy)) ∧ w1.grownBy w2 row ∧ St (xx + X * yy + 1) w2) :
    Calls Try.prog 64 #[.int .i64 X, .int .i64 Y, .bool rb, .func (.func cf) #[] caps] w fun e w' => FieldMade X Y rb (X * Y) V w row e w' ∧ St (X * Y) w' := by
  have HR := Lib.hid hrow
  have HC := Lib.hid hcl
  have HS := Lib.hid hstab
  have H0 := Lib.hid h0
  clear hcl hstab h0 hrow
  go_enter Try.func64, Try.ntmps64
  go_wp2
  go_loopw [18] (fun i wr => ∃ k : Nat, k ≤ Y ∧ i = .int .i64 k ∧ Going w row w.heap.size (w.heap.size + 1 + 1) X Y rb V (X * k) wr ∧ St (X * k) wr) (fun i _ => Y - (intOf i).toNat)
  case atStart => exact ⟨0, Nat.zero_le _, rfl, Going.start w row X Y rb V, HS.out 0 w _ none H0.out (grown_alloc (grown_alloc (grown_alloc (grown_refl _ _) _) _) _) (fun k e => by cases e)⟩
  case round =>
    obtain ⟨k, hk, rfl, hgo, hst⟩ := hrel
    by_cases hlt : k < Y
    · have HGO := Lib.hid hgo
      have HST := Lib.hid hst
      clear hgo hst
      go_wp2
      go_loopw [22] (fun i wr => ∃ j : Nat, j ≤ X ∧ i = .int .i64 j ∧ Going w row w.heap.size (w.heap.size + 1 + 1) X Y rb V (j + X * k) wr ∧ St (j + X * k) wr) (fun i _ => X - (intOf i).toNat)
      case atStart => exact ⟨0, Nat.zero_le _, rfl, by simpa using HGO.out, by simpa using HST.out⟩
      case round =>
        obtain ⟨j, hj, rfl, hgo, hst⟩ := hrel
        by_cases hltx : j < X
        · obtain ⟨v, vs, hC, hn, hv⟩ := hgo
          have CC := Lib.hid hC
          have SS := Lib.hid hst
          have VV := Lib.hid hv
          have NN := Lib.hid hn
          have c3 : wr.cell? ⟨w.heap.size + 1 + 1, 3, none⟩ = some v := hC.cell
          have G0 : Hid (w.grownBy wr.drew row) := Lib.hid (grown_drew hC.grow)
          have S0 : Hid (St (j + X * k) wr.drew) := Lib.hid (HS.out _ _ _ none hst (grown_drew (grown_refl _ _)) (fun k e => by cases e))
          have small : Hid (vs.length ≤ 1048576) := Lib.hid (by
            have : X * k ≤ 16 * 16 := Nat.mul_le_mul hX (by omega)
            omega)
          have HCALL := Lib.hid (HC.out j k wr.drew hltx hlt G0.out S0.out)
          clear hC hst hv hn HGO HST HC H0 SS
          go_wp2
          go_region_law (first
            | (refine step_push (w := w2.alloc (.cells #[.float .f32 b] 27)) (by rfl) (.tmp 26) (.tmp 31) (by rfl) C3.out b w2.heap.size 1 (by rfl) (by rfl) O3.out small.out ?_
               intro g cap w3 g3 o3 c5 f5 C4)
            | (refine step_call (P := Try.prog) (by rfl) cf (#[.int .i64 j, .int .i64 k] ++ caps) (by have e := hen (#[.int .i64 j, .int .i64 k] ++ caps) wr.drew; simp [execOp, resolve, invoke, Act.eval, Act.put, Deferred.ofValue] at e ⊢; exact e) (fun e w2 => ∃ b, e = .returned (.float .f32 b) ∧ Same .f32 b (V (j + X * k)) ∧ wr.drew.grownBy w2 row ∧ St (j + X * k + 1) w2) (by exact HCALL.out) ?_
               rintro e w2 ⟨b, rfl, hb, hg, hs⟩
               refine ⟨_, rfl, ?_⟩
               have hb' := Lib.hid hb
               have hs' := Lib.hid hs
               have C2 := Lib.hid (CC.out.drew.later hg HR.out)
               have C3 := Lib.hid (C2.out.alloc (.cells #[.float .f32 b] 27))
               have O3 := Lib.hid (Own.alloc w2 27 #[.float .f32 b])
               have c4 := C2.out.cell
               have c6 := C3.out.cell
               clear hb hs hg))
          all_goals
            have hX2 := CC.out.own.lt
            have hR2 := CC.out.hX
            have S3 : Hid (St (j + X * k + 1) (w3.setCell ⟨w.heap.size + 1 + 1, 3, none⟩ (.slice (some ⟨g, 0, none⟩) (vs.length + 1) cap))) := Lib.hid
              (HS.out _ _ _ (some (w.heap.size + 1 + 1)) (HS.out _ _ _ _ (HS.out _ _ _ none hs'.out (grown_alloc (grown_refl _ _) _) (fun q e => by cases e)) g3 (fun q e => by have := (hX2 q e).1; omega))
                (grown_setCell (grown_refl _ _) _ _ (.inr rfl)) (fun q e => by simp at e; omega))
            have C5 := Lib.hid C4
            clear C4 c3 c4 c6 c5 f5 C2 C3 O3 o3 hX2 hR2
            go_wp2
            go_roundw
            case rel => exact ⟨j + 1, by omega, by go_num, by
              have e : j + 1 + X * k = j + X * k + 1 := by omega
              rw [e]
              exact ⟨⟨_, _, C5.out, by simp [NN.out], same_snoc NN.out VV.out hb'.out⟩, S3.out⟩⟩
            case measure => simp [intOf]; omega
        · have hj2 : j = X := by omega
          subst hj2
          have e : j + j * k = j * (k + 1) := by rw [Nat.mul_succ]; omega
          rw [e] at hgo hst
          have HGO2 := Lib.hid hgo
          have HST2 := Lib.hid hst
          clear hgo hst HGO HST HC H0 HS
          go_wp2
          go_roundw
          case rel => exact ⟨k + 1, by omega, by go_num, HGO2.out, HST2.out⟩
          case measure => simp [intOf]; omega
    · have hk2 : k = Y := by omega
      subst hk2
      obtain ⟨a, ln, cap, v, e, c0, c1, c2, c3, d0, d1, d2, d3, f0, f1, f2, f3, hfin⟩ := hgo.result HR.out
      have HF := Lib.hid hfin
      have HST := Lib.hid hst
      clear hfin hst hgo
      subst e
      go_wp2
      obtain ⟨hm, g1, g2⟩ := HF.out _ rfl
      refine bodyPost_ret (v := .agg #[.int .i64 X, .int .i64 k, .bool rb, .slice a ln cap]) (by simp [results, Try.results64, go_sem, *]) rfl ⟨hm, HS.out _ _ _ _ HST.out g2 (fun q e => by simp at e; omega)⟩

end Go.Proofs.Ytcnamhmoocdccaa
