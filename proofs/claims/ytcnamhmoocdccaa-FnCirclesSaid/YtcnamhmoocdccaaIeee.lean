/- Rounding to nearest, as a law of the ladder of magnitudes: the rung that is found lies below each rung whose magnitude is not less than the number, and above each whose magnitude is not greater. Under no condition. -/
import Derived.Laws.FloatBits
namespace Go.Proofs.Ytcnamhmoocdccaa
open Ieee

theorem binade_pos (f : Format) : 0 < f.binade := Nat.two_pow_pos _

/-- The magnitude of a rung, in units of the least place; B: rungs to one binade. -/
def magB (B r : Nat) : Nat := if r < B then r else (B + r % B) * 2 ^ (r / B - 1)
def mag (f : Format) (r : Nat) : Nat := magB f.binade r

def rung (f : Format) (b : Nat) : Nat := b % f.signWeight
def sgn (f : Format) (b : Nat) : Bool := b / f.signWeight % 2 == 1

theorem magB_comb (B e k : Nat) (hB : 0 < B) (hk : k ≤ 2 * B) (h : e = 0 ∨ B ≤ k) : magB B (e * B + k) = k * 2 ^ e := by
  unfold magB
  have hmul : ∀ q t, t < B → (q * B + t) / B = q ∧ (q * B + t) % B = t := by
    intro q t ht
    rw [Nat.mul_comm q B, Nat.mul_add_div hB, Nat.mul_add_mod, Nat.div_eq_of_lt ht, Nat.mod_eq_of_lt ht]
    exact ⟨rfl, rfl⟩
  by_cases h1 : k < B
  · have he : e = 0 := by omega
    subst he
    simp [h1]
  · by_cases h2 : k < 2 * B
    · obtain ⟨t, rfl⟩ : ∃ t, k = B + t := ⟨k - B, by omega⟩
      have e1 : e * B + (B + t) = (e + 1) * B + t := by rw [Nat.add_mul]; omega
      have hge : ¬ ((e + 1) * B + t < B) := by
        have : B ≤ (e + 1) * B := Nat.le_mul_of_pos_left B (by omega)
        omega
      obtain ⟨hd, hm⟩ := hmul (e + 1) t (by omega)
      rw [e1, if_neg hge, hd, hm, Nat.add_sub_cancel]
    · have hk2 : k = 2 * B := by omega
      subst hk2
      have e1 : e * B + 2 * B = (e + 2) * B + 0 := by rw [Nat.add_mul]; omega
      have hge : ¬ ((e + 2) * B + 0 < B) := by
        have : 2 * B ≤ (e + 2) * B := Nat.mul_le_mul_right B (by omega)
        omega
      obtain ⟨hd, hm⟩ := hmul (e + 2) 0 hB
      rw [e1, if_neg hge, hd, hm]
      show (B + 0) * 2 ^ (e + 1) = 2 * B * 2 ^ e
      rw [Nat.pow_succ, Nat.add_zero, Nat.mul_comm (2 ^ e) 2, ← Nat.mul_assoc, Nat.mul_comm B 2]

/-- Each rung is e binades and k more. -/
theorem rung_form (B r : Nat) (hB : 0 < B) : ∃ e k, r = e * B + k ∧ k < 2 * B ∧ (e = 0 ∨ B ≤ k) := by
  by_cases h : r < B
  · exact ⟨0, r, by omega, by omega, .inl rfl⟩
  · have h1 : 0 < r / B := Nat.div_pos (by omega) hB
    refine ⟨r / B - 1, B + r % B, ?_, ?_, .inr (by omega)⟩
    · have h2 := Nat.div_add_mod r B
      obtain ⟨q, hq⟩ : ∃ q, r / B = q + 1 := ⟨r / B - 1, by omega⟩
      rw [hq, Nat.mul_add, Nat.mul_one, Nat.mul_comm B q] at h2
      rw [hq, Nat.add_sub_cancel]
      omega
    · have := Nat.mod_lt r hB
      omega

theorem magB_succ (B r : Nat) (hB : 0 < B) : magB B r < magB B (r + 1) := by
  obtain ⟨e, k, rfl, h1, h2⟩ := rung_form B r hB
  rw [magB_comb B e k hB (by omega) h2, show e * B + k + 1 = e * B + (k + 1) from rfl, magB_comb B e (k + 1) hB (by omega) (by omega), Nat.add_mul]
  have := Nat.two_pow_pos e
  omega

theorem magB_lt (B : Nat) (hB : 0 < B) {r s : Nat} (h : r < s) : magB B r < magB B s := by
  induction h with
  | refl => exact magB_succ B r hB
  | step _ ih => exact Nat.lt_trans ih (magB_succ B _ hB)

theorem magB_le (B : Nat) (hB : 0 < B) {r s : Nat} (h : r ≤ s) : magB B r ≤ magB B s := by
  rcases Nat.lt_or_eq_of_le h with h | h
  · exact Nat.le_of_lt (magB_lt B hB h)
  · rw [h]; exact Nat.le_refl _

theorem le_of_magB_le (B : Nat) (hB : 0 < B) {r s : Nat} (h : magB B r ≤ magB B s) : r ≤ s := by
  refine Nat.not_lt.1 fun hlt => ?_
  have := magB_lt B hB hlt
  omega

theorem lt_of_magB_lt (B : Nat) (hB : 0 < B) {r s : Nat} (h : magB B r < magB B s) : r < s := by
  refine Nat.not_le.1 fun hle => ?_
  have := magB_le B hB hle
  omega

theorem mag_inj (f : Format) {r s : Nat} (h : mag f r = mag f s) : r = s :=
  Nat.le_antisymm (le_of_magB_le _ (binade_pos f) (Nat.le_of_eq h)) (le_of_magB_le _ (binade_pos f) (Nat.le_of_eq h.symm))

/-- A finite word, read. -/
theorem read_fin (f : Format) (b : Nat) (h : rung f b < f.infRung) :
    ∃ m e : Nat, f.read b = .number (sgn f b) m (f.leastPlace + e) ∧ m * 2 ^ e = mag f (rung f b) ∧ m < 2 * f.binade ∧ rung f b = e * f.binade + m := by
  have hB := binade_pos f
  unfold Format.read
  unfold rung at h ⊢
  unfold sgn
  by_cases h1 : b % f.signWeight < f.binade
  · refine ⟨b % f.signWeight, 0, ?_, ?_, by omega, by omega⟩
    · simp [h1]
    · simp [mag, magB, h1]
  · have h3 : 0 < b % f.signWeight / f.binade := Nat.div_pos (by omega) hB
    refine ⟨f.binade + b % f.signWeight % f.binade, b % f.signWeight / f.binade - 1, ?_, ?_, ?_, ?_⟩
    · simp [h1, h]
    · simp [mag, magB, h1]
    · have := Nat.mod_lt (b % f.signWeight) hB; omega
    · have h2 := Nat.div_add_mod (b % f.signWeight) f.binade
      obtain ⟨q, hq⟩ : ∃ q, b % f.signWeight / f.binade = q + 1 := ⟨b % f.signWeight / f.binade - 1, by omega⟩
      rw [hq, Nat.mul_add, Nat.mul_one, Nat.mul_comm f.binade q] at h2
      rw [hq, Nat.add_sub_cancel]
      omega

theorem read_inf (f : Format) (hf : f.binade ≤ f.infRung) (b : Nat) (h : rung f b = f.infRung) : f.read b = .infinity (sgn f b) := by
  unfold Format.read
  unfold rung at h
  unfold sgn
  have hle : ¬ (f.infRung < f.binade) := by omega
  simp [hle, h]

theorem read_nan' (f : Format) (hf : f.binade ≤ f.infRung) (b : Nat) (h : f.infRung < rung f b) : f.read b = .nan (sgn f b) (rung f b - f.infRung) := by
  unfold Format.read
  unfold rung at h ⊢
  unfold sgn
  have h1 : ¬ (b % f.signWeight < f.binade) := by omega
  have h2 : ¬ (b % f.signWeight < f.infRung) := by omega
  have h3 : ¬ (b % f.signWeight = f.infRung) := by omega
  simp [h1, h2, h3]

/-! ### Cutting to the nearest. -/
theorem cut_even (s : Bool) (n drop : Nat) : ∃ more, Toward.even.cut s n drop = n / 2 ^ drop + more ∧ more ≤ 1 ∧
    (more = 1 → 2 ^ drop ≤ 2 * (n % 2 ^ drop)) ∧ (more = 0 → 2 * (n % 2 ^ drop) ≤ 2 ^ drop) := by
  unfold Toward.cut
  have hp := Nat.two_pow_pos drop
  by_cases hd : drop ≤ n.log2 + 2
  · simp only [Nat.min_eq_left hd, Nat.one_shiftLeft]
    generalize hg : (2 ^ drop : Nat) = g at *
    generalize n % g = r at *
    generalize n / g = l at *
    by_cases h1 : g < 2 * r
    · exact ⟨1, by simp [h1], by omega, fun _ => by omega, fun h => by omega⟩
    · by_cases h2 : g = 2 * r ∧ l % 2 = 1
      · exact ⟨1, by simp [h2.1, h2.2], by omega, fun _ => by omega, fun h => by omega⟩
      · refine ⟨0, ?_, by omega, fun h => by omega, fun _ => by omega⟩
        have : ¬ (g = 2 * r) ∨ ¬ (l % 2 = 1) := by omega
        rcases this with h3 | h3 <;> simp [h1, h3]
  · have hlt : n < 2 ^ (n.log2 + 1) := Nat.lt_log2_self
    have hm : min drop (n.log2 + 2) = n.log2 + 2 := Nat.min_eq_right (by omega)
    have hle : 2 ^ (n.log2 + 2) ≤ 2 ^ drop := Nat.pow_le_pow_right (by omega) (by omega)
    have h2 : 2 ^ (n.log2 + 2) = 2 * 2 ^ (n.log2 + 1) := by rw [Nat.pow_succ, Nat.mul_comm]
    simp only [hm, Nat.one_shiftLeft]
    generalize (2 ^ (n.log2 + 2) : Nat) = g at *
    generalize (2 ^ (n.log2 + 1) : Nat) = g' at *
    generalize (2 ^ drop : Nat) = d at *
    have e1 : n / g = 0 := Nat.div_eq_of_lt (by omega)
    have e2 : n % g = n := Nat.mod_eq_of_lt (by omega)
    have e3 : n / d = 0 := Nat.div_eq_of_lt (by omega)
    have e4 : n % d = n := Nat.mod_eq_of_lt (by omega)
    rw [e1, e2, e3, e4]
    refine ⟨0, ?_, by omega, fun h => by omega, fun _ => by omega⟩
    have h5 : ¬ (g < 2 * n) := by omega
    have h6 : ¬ (g = 2 * n) := by omega
    simp [h5]

/-- WHAT ROUNDING FINDS. 'up', 'dn': the place of the number against the least place. The rung is e binades and k more; k units of the binade are the number, cut to the nearest. -/
theorem nearest_core (f : Format) (neg : Bool) (n : Nat) (place : Int) (hn : n ≠ 0) :
    ∃ e k0 more, f.nearest neg n place = f.word neg (min (e * f.binade + (k0 + more)) f.infRung) ∧ more ≤ 1 ∧ k0 < 2 * f.binade ∧ (e = 0 ∨ f.binade ≤ k0) ∧
      k0 * 2 ^ e * 2 ^ (f.leastPlace - place).toNat ≤ n * 2 ^ (place - f.leastPlace).toNat ∧
      n * 2 ^ (place - f.leastPlace).toNat < (k0 + 1) * 2 ^ e * 2 ^ (f.leastPlace - place).toNat ∧
      (more = 1 → (2 * k0 + 1) * 2 ^ e * 2 ^ (f.leastPlace - place).toNat ≤ 2 * (n * 2 ^ (place - f.leastPlace).toNat)) ∧
      (more = 0 → 2 * (n * 2 ^ (place - f.leastPlace).toNat) ≤ (2 * k0 + 1) * 2 ^ e * 2 ^ (f.leastPlace - place).toNat) := by
  unfold Format.nearest
  rw [if_neg hn]
  have hB : f.binade = 2 ^ f.fractionBits := rfl
  generalize hfb : f.fractionBits = fb at *
  generalize hL : f.leastPlace = L at *
  have hl1 : 2 ^ n.log2 ≤ n := Nat.log2_self_le hn
  have hl2 : n < 2 ^ (n.log2 + 1) := Nat.lt_log2_self
  generalize n.log2 = l at *
  dsimp only
  -- what is kept, in general
  have gen : ∀ last : Int, L ≤ last → (n * 2 ^ (place - last).toNat) / 2 ^ (last - place).toNat < 2 * f.binade →
      ((last - L).toNat = 0 ∨ f.binade ≤ (n * 2 ^ (place - last).toNat) / 2 ^ (last - place).toNat) →
      ∃ e k0 more, f.word neg (min ((last - L).toNat * f.binade + Toward.even.cut neg (n <<< (place - last).toNat) (last - place).toNat) f.infRung) = f.word neg (min (e * f.binade + (k0 + more)) f.infRung) ∧ more ≤ 1 ∧ k0 < 2 * f.binade ∧ (e = 0 ∨ f.binade ≤ k0) ∧
      k0 * 2 ^ e * 2 ^ (L - place).toNat ≤ n * 2 ^ (place - L).toNat ∧
      n * 2 ^ (place - L).toNat < (k0 + 1) * 2 ^ e * 2 ^ (L - place).toNat ∧
      (more = 1 → (2 * k0 + 1) * 2 ^ e * 2 ^ (L - place).toNat ≤ 2 * (n * 2 ^ (place - L).toNat)) ∧
      (more = 0 → 2 * (n * 2 ^ (place - L).toNat) ≤ (2 * k0 + 1) * 2 ^ e * 2 ^ (L - place).toNat) := by
    intro last hlast hk hb
    obtain ⟨more, hc, hm, hm1, hm0⟩ := cut_even neg (n <<< (place - last).toNat) (last - place).toNat
    rw [hc]
    rw [Nat.shiftLeft_eq] at *
    have hex : (place - L).toNat + (last - place).toNat = (place - last).toNat + (last - L).toNat + (L - place).toNat := by omega
    generalize (place - L).toNat = up at *
    generalize (last - place).toNat = drop at *
    generalize (place - last).toNat = up' at *
    generalize (last - L).toNat = e at *
    generalize (L - place).toNat = dn at *
    refine ⟨e, _, more, rfl, hm, hk, hb, ?_⟩
    have hdm := Nat.div_add_mod (n * 2 ^ up') (2 ^ drop)
    have hr := Nat.mod_lt (n * 2 ^ up') (Nat.two_pow_pos drop)
    generalize n * 2 ^ up' / 2 ^ drop = k0 at *
    generalize n * 2 ^ up' % 2 ^ drop = r at *
    have hpd := Nat.two_pow_pos drop
    have e2 : n * 2 ^ up * 2 ^ drop = n * 2 ^ up' * (2 ^ e * 2 ^ dn) := by
      rw [Nat.mul_assoc, ← Nat.pow_add, hex, Nat.pow_add, Nat.pow_add, Nat.mul_assoc, Nat.mul_assoc]
    have hed : 0 < 2 ^ e * 2 ^ dn := Nat.mul_pos (Nat.two_pow_pos _) (Nat.two_pow_pos _)
    rw [← hdm] at e2
    generalize (2 ^ drop : Nat) = g at *
    rw [Nat.mul_assoc k0, Nat.mul_assoc (k0 + 1), Nat.mul_assoc (2 * k0 + 1)]
    generalize 2 ^ e * 2 ^ dn = x at *
    generalize n * 2 ^ up = v at *
    refine ⟨?_, ?_, ?_, ?_⟩
    · refine Nat.le_of_mul_le_mul_right ?_ hpd
      rw [e2, Nat.add_mul, Nat.mul_comm g k0, Nat.mul_right_comm k0 g x]
      exact Nat.le_add_right _ _
    · refine Nat.lt_of_mul_lt_mul_right (a := g) ?_
      rw [e2]
      have : g * k0 + r < (k0 + 1) * g := by rw [Nat.add_mul, Nat.mul_comm g k0]; omega
      have := Nat.mul_lt_mul_of_pos_right this hed
      rw [Nat.mul_right_comm] 
      exact this
    · intro hmo
      have h3 := hm1 hmo
      refine Nat.le_of_mul_le_mul_right ?_ hpd
      rw [Nat.mul_assoc 2 v g, e2, Nat.mul_right_comm, ← Nat.mul_assoc 2]
      refine Nat.mul_le_mul_right x ?_
      rw [Nat.add_mul, Nat.mul_assoc 2 k0, Nat.mul_comm k0 g]
      omega
    · intro hmo
      have h3 := hm0 hmo
      refine Nat.le_of_mul_le_mul_right ?_ hpd
      rw [Nat.mul_assoc 2 v g, e2, Nat.mul_right_comm, ← Nat.mul_assoc 2]
      refine Nat.mul_le_mul_right x ?_
      rw [Nat.add_mul, Nat.mul_assoc 2 k0, Nat.mul_comm k0 g]
      omega
  by_cases hc : L < place + l - fb
  · have hmax : max (place + l - fb) L = place + l - fb := by omega
    rw [hmax]
    refine gen _ (by omega) ?_ (.inr ?_)
    · rw [hB]
      by_cases h1 : fb ≤ l
      · rw [show (place - (place + l - fb)).toNat = 0 by omega, show (place + l - fb - place).toNat = l - fb by omega, Nat.pow_zero, Nat.mul_one]
        refine (Nat.div_lt_iff_lt_mul (Nat.two_pow_pos _)).2 ?_
        rw [Nat.mul_assoc, ← Nat.pow_add, show fb + (l - fb) = l by omega]
        rw [Nat.pow_succ] at hl2; omega
      · rw [show (place - (place + l - fb)).toNat = fb - l by omega, show (place + l - fb - place).toNat = 0 by omega, Nat.pow_zero, Nat.div_one]
        have := Nat.mul_lt_mul_of_pos_right hl2 (Nat.two_pow_pos (fb - l))
        rw [← Nat.pow_add, show l + 1 + (fb - l) = fb + 1 by omega, Nat.pow_succ] at this
        omega
    · rw [hB]
      by_cases h1 : fb ≤ l
      · rw [show (place - (place + l - fb)).toNat = 0 by omega, show (place + l - fb - place).toNat = l - fb by omega, Nat.pow_zero, Nat.mul_one]
        refine (Nat.le_div_iff_mul_le (Nat.two_pow_pos _)).2 ?_
        rw [← Nat.pow_add, show fb + (l - fb) = l by omega]
        exact hl1
      · rw [show (place - (place + l - fb)).toNat = fb - l by omega, show (place + l - fb - place).toNat = 0 by omega, Nat.pow_zero, Nat.div_one]
        have := Nat.mul_le_mul_right (2 ^ (fb - l)) hl1
        rw [← Nat.pow_add, show l + (fb - l) = fb by omega] at this
        exact this
  · have hmax : max (place + l - fb) L = L := by omega
    rw [hmax]
    refine gen _ (by omega) ?_ (.inl (by omega))
    rw [hB]
    by_cases h1 : L ≤ place
    · rw [show (L - place).toNat = 0 by omega, Nat.pow_zero, Nat.div_one]
      have h3 := Nat.mul_lt_mul_of_pos_right hl2 (Nat.two_pow_pos (place - L).toNat)
      rw [← Nat.pow_add] at h3
      have h4 : 2 ^ (l + 1 + (place - L).toNat) ≤ 2 ^ (fb + 1) := Nat.pow_le_pow_right (by omega) (by omega)
      rw [Nat.pow_succ] at h4
      omega
    · rw [show (place - L).toNat = 0 by omega, Nat.pow_zero, Nat.mul_one]
      refine (Nat.div_lt_iff_lt_mul (Nat.two_pow_pos _)).2 ?_
      have h4 : 2 ^ (l + 1) ≤ 2 ^ (fb + 1 + (L - place).toNat) := Nat.pow_le_pow_right (by omega) (by omega)
      rw [Nat.pow_add 2 (fb + 1), Nat.pow_succ (n := 2) (m := fb), Nat.mul_comm (2 ^ fb) 2] at h4
      exact Nat.lt_of_lt_of_le hl2 h4

/-- THE LAW OF ROUNDING: the rung found lies below each rung whose magnitude is not less than the number, and above each whose magnitude is not greater. -/
theorem nearest_rung (f : Format) (neg : Bool) (n : Nat) (place : Int) : ∃ R, f.nearest neg n place = f.word neg R ∧ R ≤ f.infRung ∧
    (∀ c, c ≤ f.infRung → n * 2 ^ (place - f.leastPlace).toNat ≤ mag f c * 2 ^ (f.leastPlace - place).toNat → R ≤ c) ∧
    (∀ c, c ≤ f.infRung → mag f c * 2 ^ (f.leastPlace - place).toNat ≤ n * 2 ^ (place - f.leastPlace).toNat → c ≤ R) := by
  have hB := binade_pos f
  by_cases hn : n = 0
  · subst hn
    refine ⟨0, by simp [Format.nearest], Nat.zero_le _, fun c _ _ => Nat.zero_le _, fun c _ h => ?_⟩
    refine Nat.not_lt.1 fun hc => ?_
    have h1 := magB_lt f.binade hB hc
    have h2 : 0 < mag f c := by unfold mag; omega
    have := Nat.mul_pos h2 (Nat.two_pow_pos (f.leastPlace - place).toNat)
    omega
  · obtain ⟨e, k0, more, h0, hm, hk, he, h1, h2, h3, h4⟩ := nearest_core f neg n place hn
    refine ⟨_, h0, Nat.min_le_right _ _, ?_, ?_⟩
    · intro c _ hv
      have hd := Nat.two_pow_pos (f.leastPlace - place).toNat
      generalize 2 ^ (f.leastPlace - place).toNat = d at *
      generalize n * 2 ^ (place - f.leastPlace).toNat = v at *
      have e0 : mag f (e * f.binade + k0) = k0 * 2 ^ e := magB_comb _ _ _ hB (by omega) he
      refine Nat.le_trans (Nat.min_le_left _ _) ?_
      by_cases hmo : more = 1
      · have h5 := h3 hmo
        have h6 : (2 * k0 + 1) * 2 ^ e * d ≤ 2 * mag f c * d := by rw [Nat.mul_assoc 2]; omega
        have h7 := Nat.le_of_mul_le_mul_right h6 hd
        have h8 : mag f (e * f.binade + k0) < mag f c := by
          rw [e0]
          have := Nat.two_pow_pos e
          rw [Nat.add_mul, Nat.mul_assoc] at h7
          omega
        have := lt_of_magB_lt f.binade hB h8
        omega
      · have h6 : mag f (e * f.binade + k0) * d ≤ mag f c * d := by rw [e0]; omega
        have := le_of_magB_le f.binade hB (Nat.le_of_mul_le_mul_right h6 hd)
        omega
    · intro c hc hv
      have hd := Nat.two_pow_pos (f.leastPlace - place).toNat
      generalize 2 ^ (f.leastPlace - place).toNat = d at *
      generalize n * 2 ^ (place - f.leastPlace).toNat = v at *
      have e0 : mag f (e * f.binade + (k0 + 1)) = (k0 + 1) * 2 ^ e := magB_comb _ _ _ hB (by omega) (by omega)
      have h6 : mag f c * d < mag f (e * f.binade + (k0 + 1)) * d := by rw [e0]; omega
      have h7 := lt_of_magB_lt f.binade hB (Nat.lt_of_mul_lt_mul_right h6)
      refine Nat.le_min.2 ⟨by omega, hc⟩

/-- What a rung holds is written as that rung. -/
theorem nearest_exact (f : Format) (neg : Bool) (n : Nat) (place : Int) (c : Nat) (hc : c ≤ f.infRung) (h : n * 2 ^ (place - f.leastPlace).toNat = mag f c * 2 ^ (f.leastPlace - place).toNat) : f.nearest neg n place = f.word neg c := by
  obtain ⟨R, h0, _, h1, h2⟩ := nearest_rung f neg n place
  rw [h0, Nat.le_antisymm (h1 c hc (Nat.le_of_eq h)) (h2 c hc (Nat.le_of_eq h.symm))]

theorem rung_word (f : Format) (s : Bool) (r : Nat) (h : r < f.signWeight) : rung f (f.word s r) = r := by
  unfold rung Format.word
  cases s
  · simpa using Nat.mod_eq_of_lt h
  · simpa using Nat.mod_eq_of_lt h

theorem sgn_word (f : Format) (s : Bool) (r : Nat) (h : r < f.signWeight) : sgn f (f.word s r) = s := by
  have hp : 0 < f.signWeight := Nat.two_pow_pos _
  unfold sgn Format.word
  cases s
  · simp [Nat.div_eq_of_lt h]
  · have : (f.signWeight + r) / f.signWeight = 1 := by
      rw [Nat.add_div_left _ hp, Nat.div_eq_of_lt h]
    simp [this]

theorem word_rung (f : Format) (b : Nat) (h : b < 2 ^ f.width) : f.word (sgn f b) (rung f b) = b := by
  have hp : 0 < f.signWeight := Nat.two_pow_pos _
  have two : 2 ^ f.width = 2 * f.signWeight := by
    unfold Format.width Format.signWeight
    rw [Nat.add_assoc, Nat.add_comm 1, Nat.pow_succ, Nat.mul_comm]
  have hd : b / f.signWeight < 2 := (Nat.div_lt_iff_lt_mul hp).2 (by omega)
  have hdm := Nat.div_add_mod b f.signWeight
  unfold Format.word sgn rung
  generalize hq : b / f.signWeight = q at *
  have : q = 0 ∨ q = 1 := by omega
  rcases this with rfl | rfl
  · simp; omega
  · simp; omega

/-- The number that a word stands for, in units of the least place; an infinity has the place behind the greatest. -/
def sval (f : Format) (b : Nat) : Int := if sgn f b then -(mag f (rung f b) : Int) else (mag f (rung f b) : Int)

theorem sval_eq (f : Format) (b : Nat) : sval f b = if sgn f b then -(mag f (rung f b) : Int) else (mag f (rung f b) : Int) := rfl

theorem signed_mul (s : Bool) (m e d : Nat) (h : d ≤ e) : signed s m (e - d) * (2 ^ d : Nat) = signed s m e := by
  have h1 : m <<< (e - d) * 2 ^ d = m <<< e := by
    rw [Nat.shiftLeft_eq, Nat.shiftLeft_eq, Nat.mul_assoc, ← Nat.pow_add, Nat.sub_add_cancel h]
  unfold signed
  cases s
  · simp only [Bool.false_eq_true, if_false]; rw [← h1]; simp
  · simp only [if_true]; rw [← h1, Int.neg_mul]; simp

theorem compare_mul (x y : Int) (d : Nat) (hd : 0 < d) : compare (x * d) (y * d) = compare x y := by
  have h1 : (x * d < y * d) ↔ x < y := ⟨fun h => Int.lt_of_mul_lt_mul_right h (by omega), fun h => Int.mul_lt_mul_of_pos_right h (by omega)⟩
  have h2 : (x * d = y * d) ↔ x = y := ⟨fun h => Int.eq_of_mul_eq_mul_right (by omega) h, fun h => by rw [h]⟩
  simp only [compare, compareOfLessAndEq, h1, h2]

theorem order_sval (f : Format) (hf : f.binade ≤ f.infRung) (x y : Nat) (hx : rung f x ≤ f.infRung) (hy : rung f y ≤ f.infRung) : f.order x y = some (compare (sval f x) (sval f y)) := by
  have hB := binade_pos f
  have hpos : ∀ b, rung f b < f.infRung → mag f (rung f b) < mag f f.infRung := fun b h => magB_lt _ hB h
  unfold Format.order
  rcases Nat.lt_or_eq_of_le hx with hx | hx <;> rcases Nat.lt_or_eq_of_le hy with hy | hy
  · obtain ⟨m, e, h1, h2, _, _⟩ := read_fin f x hx
    obtain ⟨n, g, h3, h4, _, _⟩ := read_fin f y hy
    rw [h1, h3]
    unfold Datum.order
    have e1 : (f.leastPlace + (e : Int) - min (f.leastPlace + (e : Int)) (f.leastPlace + (g : Int))).toNat = e - min e g := by omega
    have e2 : (f.leastPlace + (g : Int) - min (f.leastPlace + (e : Int)) (f.leastPlace + (g : Int))).toNat = g - min e g := by omega
    dsimp only
    rw [e1, e2, ← compare_mul _ _ (2 ^ min e g) (Nat.two_pow_pos _), signed_mul _ _ _ _ (Nat.min_le_left _ _), signed_mul _ _ _ _ (Nat.min_le_right _ _)]
    have s1 : signed (sgn f x) m e = sval f x := by unfold signed sval; rw [← h2, Nat.shiftLeft_eq]
    have s2 : signed (sgn f y) n g = sval f y := by unfold signed sval; rw [← h4, Nat.shiftLeft_eq]
    rw [s1, s2]
  · obtain ⟨m, e, h1, h2, _, _⟩ := read_fin f x hx
    rw [h1, read_inf f hf y hy]
    have hp := hpos x hx
    simp only [Datum.order, sval, hy]
    cases sgn f y <;> cases sgn f x <;> simp [compare, compareOfLessAndEq] <;> (repeat' split) <;> first | rfl | omega | (simp; omega)
  · obtain ⟨m, e, h1, h2, _, _⟩ := read_fin f y hy
    rw [h1, read_inf f hf x hx]
    have hp := hpos y hy
    simp only [Datum.order, sval, hx]
    cases sgn f y <;> cases sgn f x <;> simp [compare, compareOfLessAndEq] <;> (repeat' split) <;> first | rfl | omega | (simp; omega)
  · rw [read_inf f hf x hx, read_inf f hf y hy]
    have hp : 0 < mag f f.infRung := by
      have := magB_lt f.binade hB (r := 0) (s := f.infRung) (by omega)
      unfold mag; omega
    simp only [Datum.order, sval, hx, hy]
    cases sgn f y <;> cases sgn f x <;> simp [compare, compareOfLessAndEq] <;> (repeat' split) <;> first | rfl | omega | (simp; omega)

end Go.Proofs.Ytcnamhmoocdccaa
