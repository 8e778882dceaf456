/- ReadNumbers: what is read from eight digits, in plain words; and the program's side. The library's tables and errors read as the program's text lays them. -/
import Derived.Test.YtpjhgfeibkldmaaGreatDoorZc
namespace Go.Proofs.YtpjhgfeibkldmaaGreatDoor
open Go Go.RowKit Go.Proofs.YtpjhgfeibkldmaaGreatDoorW.PrintWords Go.Proofs.YtpjhgfeibkldmaaGreatDoorW.PrintLast Go.Proofs.YtpjhgfeibkldmaaGreatDoorW.PrintMore
set_option linter.unusedVariables false
set_option linter.unusedSimpArgs false

/-! ### What is read -/
def hv (l : List UInt8) : Nat := l.foldl (fun n c => n * 16 + digV c.toNat) 0
theorem hv_snoc (l : List UInt8) (c : UInt8) : hv (l ++ [c]) = hv l * 16 + digV c.toNat := by unfold hv; rw [List.foldl_append]; rfl
theorem hv_hexK : ∀ (k u : Nat), u < 16 ^ k → hv (hexK k u) = u
  | 0, u, h => by have : u = 0 := by simpa using h
                  subst this; rfl
  | k + 1, u, h => by
    rw [hexK, hv_snoc, hv_hexK k (u / 16) (by rw [Nat.pow_succ] at h; omega), digV_hex ⟨u % 16, Nat.mod_lt _ (by decide)⟩]
    simp only
    omega
/-- The number with a text of eight digits, if its bits are they. -/
def rdH (s : ByteArray) : Option Nat := if hv s.data.toList < 4294967296 ∧ bitsOf (hv s.data.toList) = (hv s.data.toList : Int) ∧ s = mkB (hexK 8 (hv s.data.toList)) then some (hv s.data.toList) else none
theorem rdH_hex (N : Nat) (h : N < 4294967296) : rdH (mkB (hexK 8 N)) = if bitsOf N = (N : Int) then some N else none := by
  unfold rdH
  have e : hv (mkB (hexK 8 N)).data.toList = N := hv_hexK 8 N (by simpa using h)
  rw [e]
  by_cases hb : bitsOf N = (N : Int)
  · rw [if_pos ⟨h, hb, rfl⟩, if_pos hb]
  · rw [if_neg (fun h2 => hb h2.2.1), if_neg hb]
theorem rdH_no (s : ByteArray) (h : NoHex s) : rdH s = none := by
  unfold rdH
  rw [if_neg (fun h2 => h _ h2.1 h2.2.2)]
theorem rdH_some {s : ByteArray} {x : Nat} (h : rdH s = some x) : x < 2 ^ 32 := by
  unfold rdH at h
  split at h
  · rename_i h2; injection h with h; omega
  · cases h
def readH : List ByteArray → Option (List Nat)
  | [] => some []
  | p :: ps => (rdH p).bind fun x => (readH ps).map (x :: ·)
def endH : Option (List Nat) → List Nat × Bool
  | some l => (l, true)
  | none => ([], false)
/-- What ReadNumbers returns. -/
def rnB (s : ByteArray) : List Nat × Bool :=
  if s.toList = ([110, 111, 110, 101] : List UInt8) then ([], true)
  else if (partsB s).length > 256 then ([], false) else endH (readH (partsB s))
theorem readH_len : ∀ (ps : List ByteArray) (l : List Nat), readH ps = some l → l.length = ps.length
  | [], l, h => by simp only [readH] at h; injection h with h; subst h; rfl
  | p :: ps, l, h => by
    rw [readH] at h
    cases hr : rdH p with
    | none => rw [hr] at h; cases h
    | some x =>
      rw [hr, Option.bind_some] at h
      cases hr2 : readH ps with
      | none => rw [hr2] at h; cases h
      | some l' =>
        rw [hr2] at h
        injection h with h
        subst h
        have := readH_len ps l' hr2
        simp only [List.length_cons]; omega
theorem rnB_len (s : ByteArray) : (rnB s).1.length ≤ 256 := by
  unfold rnB
  split
  · simp
  · split
    · simp
    · cases hr : readH (partsB s) with
      | none => simp [endH]
      | some l =>
        have := readH_len _ _ hr
        simp only [endH]; omega
/-- The rest is read behind what has been read. -/
def RdH (ps : List ByteArray) (i : Nat) (acc : List Nat) : Prop := acc.length = i ∧ i ≤ ps.length ∧ readH ps = (readH (ps.drop i)).map (acc ++ ·)
theorem RdH.start (ps : List ByteArray) : RdH ps 0 [] := ⟨rfl, by omega, by rw [List.drop_zero]; cases readH ps <;> simp⟩
theorem RdH.next {ps : List ByteArray} {i x : Nat} {acc : List Nat} (h : RdH ps i acc) (hi : i < ps.length) (hb : rdH ps[i] = some x) : RdH ps (i + 1) (acc ++ [x]) := by
  obtain ⟨h1, h3, h4⟩ := h
  refine ⟨by rw [List.length_append, h1]; rfl, by omega, ?_⟩
  rw [h4, List.drop_eq_getElem_cons hi, readH, hb, Option.bind_some, Option.map_map]
  congr 1
  funext l
  simp
theorem RdH.bad {ps : List ByteArray} {i : Nat} {acc : List Nat} (h : RdH ps i acc) (hi : i < ps.length) (hb : rdH ps[i] = none) : readH ps = none := by
  obtain ⟨h1, h3, h4⟩ := h
  rw [h4, List.drop_eq_getElem_cons hi, readH, hb]; rfl
theorem RdH.done {ps : List ByteArray} {acc : List Nat} (h : RdH ps ps.length acc) : readH ps = some acc := by
  obtain ⟨h1, h3, h4⟩ := h
  rw [List.drop_length] at h4
  rw [h4]; simp [readH]
theorem rn_bad (s : ByteArray) (h0 : ¬ s.toList = ([110, 111, 110, 101] : List UInt8)) (h : readH (partsB s) = none ∨ (partsB s).length > 256) : rnB s = ([], false) := by
  unfold rnB
  rw [if_neg h0]
  split
  · rfl
  · rcases h with h | h
    · rw [h]; rfl
    · contradiction
theorem rn_done (s : ByteArray) (h0 : ¬ s.toList = ([110, 111, 110, 101] : List UInt8)) (hl : (partsB s).length ≤ 256) {acc : List Nat} (h : RdH (partsB s) (partsB s).length acc) : rnB s = (acc, true) := by
  unfold rnB
  rw [if_neg h0, if_neg (by omega), h.done]; rfl

/-! ### The library's reading -/
theorem parse16 (s : ByteArray) (hs : s.size ≤ 1048576) (w : World) (hY : Lay w) :
    Calls Tryz.prog 77 #[.string s, .int .i64 16, .int .i64 32] w fun e w' => (∃ u er, e = .returned (.tuple #[.int .u64 (u : Nat), er]) ∧ u < 18446744073709551616 ∧ (er = .nilIface ∨ ∃ p, er = .iface 134 (.pointer p)) ∧ (∀ N, N < 4294967296 → s = mkB (hexK 8 N) → u = N ∧ er = .nilIface)) ∧ Below w.heap.size w w' := by
  have HY := Aside0.mk hY
  clear hY
  go_enter Tryz.func77, Tryz.ntmps77
  go_wp2_with (go_at_call 94; refine (parse16a s hs _).mono ?_; rintro e w1 ⟨⟨u, er, rfl, hp⟩, hb⟩; have HP := Aside0.mk hp; have HB := Aside0.mk hb; clear hp hb; refine Hid.out ?_)
  refine Lib.hid ?_
  have HY2 := Aside0.mk (HY.out.on HB.out)
  obtain ⟨tp, p, hv1⟩ := HY2.out.rng
  obtain ⟨tq, q, hv2⟩ := HY2.out.syn
  have hc1 : w1.cell? ⟨3, 0, none⟩ = some (.iface tp p) := by have h0 := World.var?_cell g_rng hv1 0; simpa using h0
  have hc2 : w1.cell? ⟨2, 0, none⟩ = some (.iface tq q) := by have h0 := World.var?_cell g_syn hv2 0; simpa using h0
  have HC1 := Aside0.mk hc1
  have HC2 := Aside0.mk hc2
  clear hc1 hc2 hv1 hv2
  rcases HP.out.kinds with rfl | rfl | rfl
  · go_wp2
    go_ret2
    exact ⟨⟨u, _, rfl, HP.out.lt, .inl rfl, HP.out.good⟩, HB.out⟩
  · have HNo : Aside0 (∀ N, N < 4294967296 → s = mkB (hexK 8 N) → False) := ⟨fun N hN e => by have := (HP.out.good N hN e).2; cases this⟩
    go_wp2_with (go_at_call 95; refine (Tryz.strconv_toError_range _ s _ _ _ _ (by omega) HC1.out (.inr ⟨_, _, rfl⟩)).mono ?_; rintro e w2 ⟨N, rfl, _, _, hb⟩; have HB2 := Aside0.mk (below_step HB.out hb); clear hb HB)
    go_ret2
    exact ⟨⟨u, _, rfl, HP.out.lt, .inr ⟨_, rfl⟩, fun N hN e => absurd e (fun e => HNo.out N hN e)⟩, HB2.out⟩
  · have HNo : Aside0 (∀ N, N < 4294967296 → s = mkB (hexK 8 N) → False) := ⟨fun N hN e => by have := (HP.out.good N hN e).2; cases this⟩
    go_wp2_with (go_at_call 95; refine (Tryz.strconv_toError_syntax _ s _ _ _ _ (by omega) HC2.out (.inr ⟨_, _, rfl⟩)).mono ?_; rintro e w2 ⟨N, rfl, _, _, hb⟩; have HB2 := Aside0.mk (below_step HB.out hb); clear hb HB)
    go_ret2
    exact ⟨⟨u, _, rfl, HP.out.lt, .inr ⟨_, rfl⟩, fun N hN e => absurd e (fun e => HNo.out N hN e)⟩, HB2.out⟩

theorem hexT_hex (x : Nat) (hx : x < 2 ^ 32) : ∃ N, N < 4294967296 ∧ hexT x = mkB (hexK 8 N) ∧ (N : Int) = bitsOf x := by
  have hb := bitsOf_lt x hx
  exact ⟨(bitsOf x).toNat, by omega, rfl, by omega⟩
set_option maxRecDepth 100000 in
theorem impl_readDigits (s : ByteArray) (hs : s.size ≤ 1048576) (w : World) (hY : Lay w) (hT : Tz w) :
    Calls Tryz.prog 50 #[.string s] w fun e w' => (∃ x, e = .returned (.tuple #[.float .f32 (x : Nat), .bool (rdH s).isSome]) ∧ (∀ y, rdH s = some y → x = y)) ∧ Below w.heap.size w w' := by
  have HY := Aside0.mk hY
  have HT := Aside0.mk hT
  clear hY hT
  go_enter Tryz.func50, Tryz.ntmps50
  go_wp2_with (go_at_call 77; refine (parse16 s hs _ HY.out).mono ?_; rintro e w1 ⟨⟨u, er, rfl, hlt, hk, hg⟩, hb⟩; have HL := Aside0.mk hlt; have HK := Aside0.mk hk; have HG := Aside0.mk hg; have HB := Aside0.mk hb; clear hlt hk hg hb; refine Hid.out ?_)
  refine Lib.hid ?_
  obtain ⟨x, hx⟩ : ∃ x : Nat, x = u % 4294967296 := ⟨_, rfl⟩
  have hxl : x < 2 ^ 32 := by omega
  have hw : IntKind.u32.wrap (u : Int) = (x : Int) := by rw [IntKind.wrap_u32]; omega
  have HX := Aside0.mk hx
  clear hx
  rcases HK.out with rfl | ⟨p, rfl⟩
  · by_cases he : hexT x = s
    · obtain ⟨N, hN, hs2, hb2⟩ := hexT_hex x hxl
      have hu := (HG.out N hN (he.symm.trans hs2)).1
      have hxN : x = N := by rw [HX.out, hu, Nat.mod_eq_of_lt hN]
      have HR : Aside0 (rdH s = some x) := ⟨by rw [← he, hs2, rdH_hex N hN, if_pos (by rw [← hxN] at hb2 ⊢; exact hb2.symm), hxN]⟩
      subst he
      clear hN hs2 hb2 hu hxN
      go_wp2_with (go_at_call 47; refine (impl_digits x hxl _ (HT.out.on HB.out)).mono ?_; rintro e w2 ⟨rfl, hb⟩; have HB2 := Aside0.mk (below_step HB.out hb); clear hb HB)
      go_ret2
      exact ⟨⟨x, by rw [HR.out]; rfl, fun y hy => by rw [HR.out] at hy; injection hy⟩, HB2.out⟩
    · have HR : Aside0 (rdH s = none) := ⟨by
        by_cases hN : ∃ N, N < 4294967296 ∧ s = mkB (hexK 8 N)
        · obtain ⟨N, hN, e⟩ := hN
          have hu := (HG.out N hN e).1
          have hxN : x = N := by rw [HX.out, hu, Nat.mod_eq_of_lt hN]
          rw [e, rdH_hex N hN, if_neg]
          intro hb
          apply he
          rw [e, hxN]
          unfold hexT
          rw [hb]; rfl
        · exact rdH_no s (fun N hN2 e => hN ⟨N, hN2, e⟩)⟩
      have hne : (hexT x).toList ≠ s.toList := fun e => he (by
        rw [Lib.toList_data, Lib.toList_data] at e
        exact WideShapes.bytes_inj e)
      have c1 : ((hexT x).toList == s.toList) = false := beq_eq_false_iff_ne.2 hne
      have c2 : ((hexT x).toList != s.toList) = true := bne_iff_ne.2 hne
      clear hne
      go_wp2_with (go_at_call 47; refine (impl_digits x hxl _ (HT.out.on HB.out)).mono ?_; rintro e w2 ⟨rfl, hb⟩; have HB2 := Aside0.mk (below_step HB.out hb); clear hb HB)
      go_ret2
      exact ⟨⟨x, by rw [HR.out]; rfl, fun y hy => by rw [HR.out] at hy; cases hy⟩, HB2.out⟩
  · have HR : Aside0 (rdH s = none) := ⟨rdH_no s (fun N hN e => by have := (HG.out N hN e).2; cases this)⟩
    go_wp2
    go_ret2
    exact ⟨⟨x, by rw [HR.out]; rfl, fun y hy => by rw [HR.out] at hy; cases hy⟩, HB.out⟩
end Go.Proofs.YtpjhgfeibkldmaaGreatDoor

