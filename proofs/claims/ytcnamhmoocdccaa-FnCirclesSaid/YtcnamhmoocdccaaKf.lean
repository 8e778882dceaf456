/- The operations on numbers, made so that the kernel reckons them fast. Under no condition. -/
import Derived.Test.YtcnamhmoocdccaaFc
import Derived.Test.YtcnamhmoocdccaaFb
namespace Go.Proofs.Ytcnamhmoocdccaa
open Go
set_option linter.unusedVariables false
set_option linter.unusedSimpArgs false
set_option exponentiation.threshold 5000

/-! ### The greatest power of two in a number. -/
def lg1 (n a : Nat) : Nat := cond (Nat.ble 2 n) (Nat.add a 1) a
def lg2 (n a : Nat) : Nat := cond (Nat.ble 4 n) (lg1 (Nat.div n 4) (Nat.add a 2)) (lg1 n a)
def lg4 (n a : Nat) : Nat := cond (Nat.ble 16 n) (lg2 (Nat.div n 16) (Nat.add a 4)) (lg2 n a)
def lg8 (n a : Nat) : Nat := cond (Nat.ble 256 n) (lg4 (Nat.div n 256) (Nat.add a 8)) (lg4 n a)
def lg16 (n a : Nat) : Nat := cond (Nat.ble 65536 n) (lg8 (Nat.div n 65536) (Nat.add a 16)) (lg8 n a)
def lg32 (n a : Nat) : Nat := cond (Nat.ble 4294967296 n) (lg16 (Nat.div n 4294967296) (Nat.add a 32)) (lg16 n a)
def lg64 (n a : Nat) : Nat := cond (Nat.ble 18446744073709551616 n) (lg32 (Nat.div n 18446744073709551616) (Nat.add a 64)) (lg32 n a)
def lg128 (n a : Nat) : Nat := cond (Nat.ble 340282366920938463463374607431768211456 n) (lg64 (Nat.div n 340282366920938463463374607431768211456) (Nat.add a 128)) (lg64 n a)
def lg256 (n a : Nat) : Nat := cond (Nat.ble 115792089237316195423570985008687907853269984665640564039457584007913129639936 n) (lg128 (Nat.div n 115792089237316195423570985008687907853269984665640564039457584007913129639936) (Nat.add a 256)) (lg128 n a)
def lg512 (n a : Nat) : Nat := cond (Nat.ble 13407807929942597099574024998205846127479365820592393377723561443721764030073546976801874298166903427690031858186486050853753882811946569946433649006084096 n) (lg256 (Nat.div n 13407807929942597099574024998205846127479365820592393377723561443721764030073546976801874298166903427690031858186486050853753882811946569946433649006084096) (Nat.add a 512)) (lg256 n a)
def lg1024 (n a : Nat) : Nat := cond (Nat.ble 179769313486231590772930519078902473361797697894230657273430081157732675805500963132708477322407536021120113879871393357658789768814416622492847430639474124377767893424865485276302219601246094119453082952085005768838150682342462881473913110540827237163350510684586298239947245938479716304835356329624224137216 n) (lg512 (Nat.div n 179769313486231590772930519078902473361797697894230657273430081157732675805500963132708477322407536021120113879871393357658789768814416622492847430639474124377767893424865485276302219601246094119453082952085005768838150682342462881473913110540827237163350510684586298239947245938479716304835356329624224137216) (Nat.add a 1024)) (lg512 n a)
def lgF (n : Nat) : Nat := cond (Nat.ble 32317006071311007300714876688669951960444102669715484032130345427524655138867890893197201411522913463688717960921898019494119559150490921095088152386448283120630877367300996091750197750389652106796057638384067568276792218642619756161838094338476170470581645852036305042887575891541065808607552399123930385521914333389668342420684974786564569494856176035326322058077805659331026192708460314150258592864177116725943603718461857357598351152301645904403697613233287231227125684710820209725157101726931323469678542580656697935045997268352998638215525166389437335543602135433229604645318478604952148193555853611059596230656 n) (Nat.log2 n) (lg1024 n 0)
theorem log2_div (n k : Nat) (h : 2 ^ k ≤ n) : n.log2 = k + (n / 2 ^ k).log2 := by
  have hp : 0 < 2 ^ k := Nat.two_pow_pos k
  have hn : n ≠ 0 := by omega
  have h1 : 0 < n / 2 ^ k := Nat.div_pos h hp
  refine Nat.le_antisymm ?_ ?_
  · have h2 : 2 ^ n.log2 ≤ n := Nat.log2_self_le hn
    have h3 : k ≤ n.log2 := (Nat.le_log2 hn).2 h
    have h4 : n.log2 - k ≤ (n / 2 ^ k).log2 := by
      rw [Nat.le_log2 (by omega), Nat.le_div_iff_mul_le hp, ← Nat.pow_add, Nat.sub_add_cancel h3]
      exact h2
    omega
  · rw [Nat.le_log2 hn, Nat.pow_add, Nat.mul_comm]
    have h5 : 2 ^ (n / 2 ^ k).log2 ≤ n / 2 ^ k := Nat.log2_self_le (by omega)
    exact Nat.le_trans (Nat.mul_le_mul_right _ h5) (Nat.div_mul_le_self n (2 ^ k))
theorem lg_step (k m : Nat) (F : Nat → Nat → Nat) (hF : ∀ n a, n < m → F n a = a + n.log2) (n a : Nat) (h : n < 2 ^ k * m) (hm : 2 ^ k ≤ m) :
    cond (Nat.ble (2 ^ k) n) (F (n / 2 ^ k) (a + k)) (F n a) = a + n.log2 := by
  cases hb : Nat.ble (2 ^ k) n with
  | true =>
    have hle := Nat.le_of_ble_eq_true hb
    rw [Bool.cond_true, hF _ _ (Nat.div_lt_of_lt_mul h), log2_div n k hle]; omega
  | false =>
    have hlt : n < 2 ^ k := Nat.lt_of_not_le fun x => by rw [Nat.ble_eq_true_of_le x] at hb; cases hb
    rw [Bool.cond_false, hF _ _ (by omega)]
theorem lg1_eq (n a : Nat) (h : n < 4) : lg1 n a = a + n.log2 := by
  have : n = 0 ∨ n = 1 ∨ n = 2 ∨ n = 3 := by omega
  rcases this with rfl | rfl | rfl | rfl <;> rfl
theorem lg2_eq (n a : Nat) (h : n < 16) : lg2 n a = a + n.log2 := lg_step 2 4 lg1 lg1_eq n a (by omega) (by omega)
theorem lg4_eq (n a : Nat) (h : n < 256) : lg4 n a = a + n.log2 := lg_step 4 16 lg2 lg2_eq n a (by omega) (by omega)
theorem lg8_eq (n a : Nat) (h : n < 65536) : lg8 n a = a + n.log2 := lg_step 8 256 lg4 lg4_eq n a (by omega) (by omega)
theorem lg16_eq (n a : Nat) (h : n < 4294967296) : lg16 n a = a + n.log2 := lg_step 16 65536 lg8 lg8_eq n a (by omega) (by omega)
theorem lg32_eq (n a : Nat) (h : n < 18446744073709551616) : lg32 n a = a + n.log2 := lg_step 32 4294967296 lg16 lg16_eq n a (by omega) (by omega)
theorem lg64_eq (n a : Nat) (h : n < 340282366920938463463374607431768211456) : lg64 n a = a + n.log2 := lg_step 64 18446744073709551616 lg32 lg32_eq n a (by omega) (by omega)
theorem lg128_eq (n a : Nat) (h : n < 115792089237316195423570985008687907853269984665640564039457584007913129639936) : lg128 n a = a + n.log2 := lg_step 128 340282366920938463463374607431768211456 lg64 lg64_eq n a (by omega) (by omega)
theorem lg256_eq (n a : Nat) (h : n < 13407807929942597099574024998205846127479365820592393377723561443721764030073546976801874298166903427690031858186486050853753882811946569946433649006084096) : lg256 n a = a + n.log2 := lg_step 256 115792089237316195423570985008687907853269984665640564039457584007913129639936 lg128 lg128_eq n a (by omega) (by omega)
theorem lg512_eq (n a : Nat) (h : n < 179769313486231590772930519078902473361797697894230657273430081157732675805500963132708477322407536021120113879871393357658789768814416622492847430639474124377767893424865485276302219601246094119453082952085005768838150682342462881473913110540827237163350510684586298239947245938479716304835356329624224137216) : lg512 n a = a + n.log2 := lg_step 512 13407807929942597099574024998205846127479365820592393377723561443721764030073546976801874298166903427690031858186486050853753882811946569946433649006084096 lg256 lg256_eq n a (by omega) (by omega)
theorem lg1024_eq (n a : Nat) (h : n < 32317006071311007300714876688669951960444102669715484032130345427524655138867890893197201411522913463688717960921898019494119559150490921095088152386448283120630877367300996091750197750389652106796057638384067568276792218642619756161838094338476170470581645852036305042887575891541065808607552399123930385521914333389668342420684974786564569494856176035326322058077805659331026192708460314150258592864177116725943603718461857357598351152301645904403697613233287231227125684710820209725157101726931323469678542580656697935045997268352998638215525166389437335543602135433229604645318478604952148193555853611059596230656) : lg1024 n a = a + n.log2 := lg_step 1024 179769313486231590772930519078902473361797697894230657273430081157732675805500963132708477322407536021120113879871393357658789768814416622492847430639474124377767893424865485276302219601246094119453082952085005768838150682342462881473913110540827237163350510684586298239947245938479716304835356329624224137216 lg512 lg512_eq n a (by omega) (by omega)
theorem lgF_eq (n : Nat) : Nat.log2 n = lgF n := by
  unfold lgF
  cases hb : Nat.ble 32317006071311007300714876688669951960444102669715484032130345427524655138867890893197201411522913463688717960921898019494119559150490921095088152386448283120630877367300996091750197750389652106796057638384067568276792218642619756161838094338476170470581645852036305042887575891541065808607552399123930385521914333389668342420684974786564569494856176035326322058077805659331026192708460314150258592864177116725943603718461857357598351152301645904403697613233287231227125684710820209725157101726931323469678542580656697935045997268352998638215525166389437335543602135433229604645318478604952148193555853611059596230656 n with
  | true => rfl
  | false =>
    have hlt : n < 32317006071311007300714876688669951960444102669715484032130345427524655138867890893197201411522913463688717960921898019494119559150490921095088152386448283120630877367300996091750197750389652106796057638384067568276792218642619756161838094338476170470581645852036305042887575891541065808607552399123930385521914333389668342420684974786564569494856176035326322058077805659331026192708460314150258592864177116725943603718461857357598351152301645904403697613233287231227125684710820209725157101726931323469678542580656697935045997268352998638215525166389437335543602135433229604645318478604952148193555853611059596230656 := Nat.lt_of_not_le fun x => by rw [Nat.ble_eq_true_of_le x] at hb; cases hb
    rw [Bool.cond_false, lg1024_eq n 0 hlt, Nat.zero_add]

def cutH (low rest2 g : Nat) : Nat := cond (Nat.ble rest2 g) (cond (Nat.beq rest2 g) (Nat.add low (Nat.mod low 2)) low) (Nat.add low 1)
def cutG (n g : Nat) : Nat := cutH (Nat.div n g) (Nat.mul 2 (Nat.mod n g)) g
def cutF (n d : Nat) : Nat := cutG n (Nat.shiftLeft 1 (cond (Nat.ble d (Nat.add (lgF n) 2)) d (Nat.add (lgF n) 2)))
theorem cutF_eq (neg : Bool) (n d : Nat) : Ieee.Toward.even.cut neg n d = cutF n d := by
  unfold Ieee.Toward.cut cutF
  rw [← lgF_eq]
  have e : (cond (Nat.ble d (Nat.add (Nat.log2 n) 2)) d (Nat.add (Nat.log2 n) 2)) = min d (n.log2 + 2) := by
    show (cond (Nat.ble d (Nat.log2 n + 2)) d (Nat.log2 n + 2)) = _
    cases h : Nat.ble d (Nat.log2 n + 2) with
    | true => have := Nat.le_of_ble_eq_true h; rw [Nat.min_eq_left this]; rfl
    | false => have : ¬ d ≤ Nat.log2 n + 2 := fun x => by rw [Nat.ble_eq_true_of_le x] at h; cases h
               rw [Nat.min_eq_right (by omega)]; rfl
  rw [e]
  show _ = cutG n (1 <<< min d (n.log2 + 2))
  generalize 1 <<< min d (n.log2 + 2) = g
  dsimp only
  unfold cutG
  show _ = cutH (n / g) (2 * (n % g)) g
  generalize n / g = low
  generalize 2 * (n % g) = r
  unfold cutH
  show _ = (cond (Nat.ble r g) (cond (Nat.beq r g) (low + low % 2) low) (low + 1))
  by_cases h1 : g < r
  · have e1 : Nat.ble r g = false := by cases h : Nat.ble r g with | false => rfl | true => have := Nat.le_of_ble_eq_true h; omega
    rw [e1]; simp [h1]
  · have e1 : Nat.ble r g = true := Nat.ble_eq_true_of_le (by omega)
    rw [e1]
    by_cases h2 : g = r
    · subst h2
      have e2 : Nat.beq g g = true := Nat.beq_refl g
      rw [e2]
      by_cases h3 : low % 2 = 1
      · simp [h3]
      · have : low % 2 = 0 := by omega
        simp [this]
    · have e2 : Nat.beq r g = false := by cases h : Nat.beq r g with | false => rfl | true => exact absurd (Nat.eq_of_beq_eq_true h).symm h2
      rw [e2]; simp [h1, h2]

def nearI (INF SW : Nat) (neg : Bool) (r : Nat) : Nat := cond neg (Nat.add SW (cond (Nat.ble r INF) r INF)) (cond (Nat.ble r INF) r INF)
def nearG (B INF SW : Nat) (neg : Bool) (m q c L : Nat) : Nat := nearI INF SW neg (Nat.add (Nat.mul L B) (cutF (Nat.shiftLeft m (Nat.sub q (Nat.add L c))) (Nat.sub (Nat.add L c) q)))
def nearF (fb B INF SW : Nat) (neg : Bool) (m q c : Nat) : Nat := cond (Nat.beq m 0) (cond neg SW 0) (nearG B INF SW neg m q c (Nat.sub (Nat.add q (lgF m)) (Nat.add fb c)))

theorem cond_min (r i : Nat) : cond (Nat.ble r i) r i = min r i := by
  cases h : Nat.ble r i with
  | true => have := Nat.le_of_ble_eq_true h; rw [Nat.min_eq_left this]; rfl
  | false => have : ¬ r ≤ i := fun x => by rw [Nat.ble_eq_true_of_le x] at h; cases h
             rw [Nat.min_eq_right (by omega)]; rfl
theorem near_fast (f : Ieee.Format) (neg : Bool) (m q c : Nat) : f.nearest neg m (f.leastPlace + (q : Int) - (c : Int)) = nearF f.fractionBits f.binade f.infRung f.signWeight neg m q c := by
  unfold Ieee.Format.nearest nearF
  rw [← lgF_eq]
  by_cases h0 : m = 0
  · subst h0
    rw [if_pos rfl]
    unfold Ieee.Format.word
    cases neg <;> rfl
  · have e0 : Nat.beq m 0 = false := by cases h : Nat.beq m 0 with | false => rfl | true => exact absurd (Nat.eq_of_beq_eq_true h) h0
    rw [if_neg h0, e0]
    show _ = nearG f.binade f.infRung f.signWeight neg m q c ((q + Nat.log2 m) - (f.fractionBits + c))
    dsimp only
    obtain ⟨L, hL⟩ : ∃ L, L = (q + Nat.log2 m) - (f.fractionBits + c) := ⟨_, rfl⟩
    rw [← hL]
    have e1 : max (f.leastPlace + (q : Int) - (c : Int) + (m.log2 : Int) - (f.fractionBits : Int)) f.leastPlace = f.leastPlace + (L : Int) := by omega
    rw [e1]
    have e2 : (f.leastPlace + (q : Int) - (c : Int) - (f.leastPlace + (L : Int))).toNat = q - (L + c) := by omega
    have e3 : (f.leastPlace + (L : Int) - (f.leastPlace + (q : Int) - (c : Int))).toNat = (L + c) - q := by omega
    have e4 : (f.leastPlace + (L : Int) - f.leastPlace).toNat = L := by omega
    rw [e2, e3, e4, cutF_eq]
    show _ = nearI f.infRung f.signWeight neg (L * f.binade + cutF (m <<< (q - (L + c))) ((L + c) - q))
    unfold nearI Ieee.Format.word
    rw [cond_min]
    cases neg <;> rfl

/-! ### What a word stands for. -/
def mgF (B S x : Nat) : Nat := cond (Nat.ble B (Nat.mod x S)) (Nat.add B (Nat.mod (Nat.mod x S) B)) (Nat.mod x S)
def exF (B S x : Nat) : Nat := Nat.sub (Nat.div (Nat.mod x S) B) 1
def sgF (S x : Nat) : Bool := Nat.beq (Nat.mod (Nat.div x S) 2) 1
def fiF (S INF x : Nat) : Bool := Nat.ble (Nat.succ (Nat.mod x S)) INF
theorem fiF_lt {S INF x : Nat} (h : fiF S INF x = true) : x % S < INF := Nat.le_of_ble_eq_true h
theorem sgF_eq (S x : Nat) : sgF S x = (x / S % 2 == 1) := by
  unfold sgF
  show Nat.beq (x / S % 2) 1 = _
  generalize x / S % 2 = r
  cases h : Nat.beq r 1 with
  | true => have := Nat.eq_of_beq_eq_true h; subst this; rfl
  | false =>
    have : r ≠ 1 := fun e => by subst e; cases h
    simp [this]
theorem read_fast (f : Ieee.Format) (x : Nat) (h : fiF f.signWeight f.infRung x = true) : f.read x = .number (sgF f.signWeight x) (mgF f.binade f.signWeight x) (f.leastPlace + ((exF f.binade f.signWeight x : Nat) : Int)) := by
  have h1 : x % f.signWeight < f.infRung := fiF_lt h
  have hB : 0 < f.binade := binade_pos f
  unfold Ieee.Format.read mgF exF
  rw [sgF_eq]
  dsimp only
  show _ = Ieee.Datum.number _ (cond (Nat.ble f.binade (x % f.signWeight)) (f.binade + x % f.signWeight % f.binade) (x % f.signWeight)) (f.leastPlace + ((x % f.signWeight / f.binade - 1 : Nat) : Int))
  by_cases h2 : x % f.signWeight < f.binade
  · have e : Nat.ble f.binade (x % f.signWeight) = false := by cases h : Nat.ble f.binade (x % f.signWeight) with | false => rfl | true => have := Nat.le_of_ble_eq_true h; omega
    rw [if_pos h2, e, Nat.div_eq_of_lt h2]
    simp
  · rw [if_neg h2, if_pos h1, Nat.ble_eq_true_of_le (by omega)]
    rfl

/-! ### 64 bits. -/
def near64 (neg : Bool) (m q c : Nat) : Nat := nearF 52 4503599627370496 9218868437227405312 9223372036854775808 neg m q c
def near32 (neg : Bool) (m q c : Nat) : Nat := nearF 23 8388608 2139095040 2147483648 neg m q c
def mg64 (x : Nat) : Nat := mgF 4503599627370496 9223372036854775808 x
def ex64 (x : Nat) : Nat := exF 4503599627370496 9223372036854775808 x
def sg64 (x : Nat) : Bool := sgF 9223372036854775808 x
def fi64 (x : Nat) : Bool := fiF 9223372036854775808 9218868437227405312 x
def mg32 (x : Nat) : Nat := mgF 8388608 2147483648 x
def ex32 (x : Nat) : Nat := exF 8388608 2147483648 x
def sg32 (x : Nat) : Bool := sgF 2147483648 x
def fi32 (x : Nat) : Bool := fiF 2147483648 2139095040 x
theorem lp64 : Ieee.double.leastPlace = -1074 := by decide
theorem lp32 : Ieee.single.leastPlace = -149 := by decide
theorem near64_eq (neg : Bool) (m q c : Nat) (p : Int) (h : p = -1074 + (q : Int) - (c : Int)) : Ieee.double.nearest neg m p = near64 neg m q c := by
  have e := near_fast Ieee.double neg m q c
  rw [lp64, ← h] at e
  rw [e]
  show nearF Ieee.double.fractionBits Ieee.double.binade Ieee.double.infRung Ieee.double.signWeight neg m q c = nearF 52 4503599627370496 9218868437227405312 9223372036854775808 neg m q c
  rw [show Ieee.double.fractionBits = 52 by decide, show Ieee.double.binade = 4503599627370496 by decide, show Ieee.double.infRung = 9218868437227405312 by decide, show Ieee.double.signWeight = 9223372036854775808 by decide]
theorem near32_eq (neg : Bool) (m q c : Nat) (p : Int) (h : p = -149 + (q : Int) - (c : Int)) : Ieee.single.nearest neg m p = near32 neg m q c := by
  have e := near_fast Ieee.single neg m q c
  rw [lp32, ← h] at e
  rw [e]
  show nearF Ieee.single.fractionBits Ieee.single.binade Ieee.single.infRung Ieee.single.signWeight neg m q c = nearF 23 8388608 2139095040 2147483648 neg m q c
  rw [show Ieee.single.fractionBits = 23 by decide, show Ieee.single.binade = 8388608 by decide, show Ieee.single.infRung = 2139095040 by decide, show Ieee.single.signWeight = 2147483648 by decide]
theorem read64 {x : Nat} (h : fi64 x = true) : Ieee.double.read x = .number (sg64 x) (mg64 x) (-1074 + ((ex64 x : Nat) : Int)) := by
  have e := read_fast Ieee.double x (by rw [show Ieee.double.signWeight = 9223372036854775808 by decide, show Ieee.double.infRung = 9218868437227405312 by decide]; exact h)
  rw [lp64, show Ieee.double.signWeight = 9223372036854775808 by decide, show Ieee.double.binade = 4503599627370496 by decide] at e
  exact e
theorem read32 {x : Nat} (h : fi32 x = true) : Ieee.single.read x = .number (sg32 x) (mg32 x) (-149 + ((ex32 x : Nat) : Int)) := by
  have e := read_fast Ieee.single x (by rw [show Ieee.single.signWeight = 2147483648 by decide, show Ieee.single.infRung = 2139095040 by decide]; exact h)
  rw [lp32, show Ieee.single.signWeight = 2147483648 by decide, show Ieee.single.binade = 8388608 by decide] at e
  exact e

def xorB (a b : Bool) : Bool := cond a (cond b false true) b
def mulF (x y : Nat) : Nat := cond (fi64 x) (cond (fi64 y) (near64 (xorB (sg64 x) (sg64 y)) (Nat.mul (mg64 x) (mg64 y)) (Nat.add (ex64 x) (ex64 y)) 1074) (fmul .f64 x y)) (fmul .f64 x y)
theorem mulF_eq (x y : Nat) : fmul .f64 x y = mulF x y := by
  unfold mulF
  cases hx : fi64 x with
  | false => rfl
  | true =>
    cases hy : fi64 y with
    | false => rfl
    | true =>
      rw [fmul_eq]
      show ((Ieee.double.mul x y).getD (nanb .f64)) = near64 _ (mg64 x * mg64 y) (ex64 x + ex64 y) 1074
      unfold Ieee.Format.mul
      rw [read64 hx, read64 hy]
      show Ieee.double.nearest (sg64 x ^^ sg64 y) (mg64 x * mg64 y) _ = _
      rw [near64_eq _ _ (ex64 x + ex64 y) 1074 _ (by omega)]
      cases sg64 x <;> cases sg64 y <;> rfl
def divG (s : Bool) (m n a b more : Nat) : Nat := near64 s (Nat.add (Nat.mul 2 (Nat.div (Nat.shiftLeft m more) n)) (cond (Nat.beq (Nat.mod (Nat.shiftLeft m more) n) 0) 0 1)) (Nat.add a 1074) (Nat.add b (Nat.add more 1))
def divF (x y : Nat) : Nat := cond (fi64 x) (cond (fi64 y) (cond (Nat.beq (mg64 y) 0) (fdiv .f64 x y) (divG (xorB (sg64 x) (sg64 y)) (mg64 x) (mg64 y) (ex64 x) (ex64 y) (Nat.sub (Nat.add 54 (lgF (mg64 y))) (lgF (mg64 x))))) (fdiv .f64 x y)) (fdiv .f64 x y)
theorem divF_eq (x y : Nat) : fdiv .f64 x y = divF x y := by
  unfold divF
  rw [← lgF_eq, ← lgF_eq]
  cases hx : fi64 x with
  | false => rfl
  | true =>
    cases hy : fi64 y with
    | false => rfl
    | true =>
      cases hz : Nat.beq (mg64 y) 0 with
      | true => rfl
      | false =>
        have hn : mg64 y ≠ 0 := fun e => by rw [e] at hz; cases hz
        rw [fdiv_eq]
        show ((Ieee.double.div x y).getD (nanb .f64)) = divG _ (mg64 x) (mg64 y) (ex64 x) (ex64 y) ((54 + Nat.log2 (mg64 y)) - Nat.log2 (mg64 x))
        unfold Ieee.Format.div
        rw [read64 hx, read64 hy]
        unfold Ieee.Datum.quotient
        dsimp only
        rw [if_neg hn]
        have ed : Ieee.double.fractionBits + 2 = 54 := by decide
        rw [ed]
        show Ieee.double.nearest (sg64 x ^^ sg64 y) _ _ = _
        rw [near64_eq _ _ (ex64 x + 1074) (ex64 y + ((54 + Nat.log2 (mg64 y)) - Nat.log2 (mg64 x) + 1)) _ (by omega)]
        unfold divG
        have e1 : (cond (Nat.beq (Nat.mod (Nat.shiftLeft (mg64 x) (54 + Nat.log2 (mg64 y) - Nat.log2 (mg64 x))) (mg64 y)) 0) 0 1) = (mg64 x <<< (54 + Nat.log2 (mg64 y) - Nat.log2 (mg64 x)) % mg64 y != 0).toNat := by
          show (cond (Nat.beq (mg64 x <<< (54 + Nat.log2 (mg64 y) - Nat.log2 (mg64 x)) % mg64 y) 0) 0 1) = _
          generalize mg64 x <<< (54 + Nat.log2 (mg64 y) - Nat.log2 (mg64 x)) % mg64 y = r
          cases r <;> rfl
        rw [e1]
        cases sg64 x <;> cases sg64 y <;> rfl
def sumG (s t : Bool) (X Y q : Nat) : Nat := cond (xorB s t) (cond (Nat.ble Y X) (near64 (cond (Nat.beq X Y) false s) (Nat.sub X Y) q 0) (near64 t (Nat.sub Y X) q 0)) (near64 s (Nat.add X Y) q 0)
def sumH (s t : Bool) (m n a b q : Nat) : Nat := sumG s t (Nat.shiftLeft m (Nat.sub a q)) (Nat.shiftLeft n (Nat.sub b q)) q
def sumF (s t : Bool) (m n a b : Nat) : Nat := sumH s t m n a b (cond (Nat.ble a b) a b)
theorem sum_near (s t : Bool) (m n a b : Nat) : (((Ieee.Datum.sum (.number s m (-1074 + (a : Int))) (.number t n (-1074 + (b : Int)))).map Ieee.double.write).getD (nanb .f64)) =
    near64 (if Ieee.signed s m (a - min a b) + Ieee.signed t n (b - min a b) = 0 then s && t else decide (Ieee.signed s m (a - min a b) + Ieee.signed t n (b - min a b) < 0)) (Ieee.signed s m (a - min a b) + Ieee.signed t n (b - min a b)).natAbs (min a b) 0 := by
  have e0 : min (-1074 + (a : Int)) (-1074 + (b : Int)) = -1074 + ((min a b : Nat) : Int) := by omega
  have e1 : (-1074 + (a : Int) - (-1074 + ((min a b : Nat) : Int))).toNat = a - min a b := by omega
  have e2 : (-1074 + (b : Int) - (-1074 + ((min a b : Nat) : Int))).toNat = b - min a b := by omega
  rw [← near64_eq _ _ (min a b) 0 (-1074 + ((min a b : Nat) : Int)) (by omega)]
  unfold Ieee.Datum.sum
  dsimp only
  rw [e0, e1, e2, Option.map_some, Option.getD_some]
  rfl
theorem ble_or (u v : Nat) : (Nat.ble u v = true ∧ u ≤ v) ∨ (Nat.ble u v = false ∧ v < u) := by
  cases h : Nat.ble u v with
  | true => exact .inl ⟨rfl, Nat.le_of_ble_eq_true h⟩
  | false => exact .inr ⟨rfl, Nat.lt_of_not_le fun x => by rw [Nat.ble_eq_true_of_le x] at h; cases h⟩
theorem beq_or (u v : Nat) : (Nat.beq u v = true ∧ u = v) ∨ (Nat.beq u v = false ∧ u ≠ v) := by
  cases h : Nat.beq u v with
  | true => exact .inl ⟨rfl, Nat.eq_of_beq_eq_true h⟩
  | false => exact .inr ⟨rfl, fun e => by subst e; rw [Nat.beq_refl] at h; cases h⟩
theorem sum_pick (N : Bool → Nat → Nat) (s t : Bool) (X Y : Nat) (S : Int) (hS : S = (if s then -(X : Int) else (X : Int)) + (if t then -(Y : Int) else (Y : Int))) :
    N (if S = 0 then s && t else decide (S < 0)) S.natAbs = cond (xorB s t) (cond (Nat.ble Y X) (N (cond (Nat.beq X Y) false s) (X - Y)) (N t (Y - X))) (N s (X + Y)) := by
  have key : ∀ (s1 s2 : Bool) (m1 m2 : Nat), s1 = s2 → m1 = m2 → N s1 m1 = N s2 m2 := by rintro s1 _ m1 _ rfl rfl; rfl
  cases s <;> cases t <;> simp only [Bool.false_eq_true, if_true, if_false] at hS
  · rw [show xorB false false = false from rfl, Bool.cond_false]
    refine key _ _ _ _ ?_ (by omega)
    by_cases h : S = 0
    · rw [if_pos h]; rfl
    · rw [if_neg h]; exact decide_eq_false (by omega)
  · rw [show xorB false true = true from rfl, Bool.cond_true]
    have e : cond (Nat.beq X Y) false false = false := by cases Nat.beq X Y <;> rfl
    rw [e]
    rcases ble_or Y X with ⟨h1, h2⟩ | ⟨h1, h2⟩
    · rw [h1, Bool.cond_true]
      refine key _ _ _ _ ?_ (by omega)
      by_cases h : S = 0
      · rw [if_pos h]; rfl
      · rw [if_neg h]; exact decide_eq_false (by omega)
    · rw [h1, Bool.cond_false]
      refine key _ _ _ _ ?_ (by omega)
      rw [if_neg (by omega)]; exact decide_eq_true (by omega)
  · rw [show xorB true false = true from rfl, Bool.cond_true]
    rcases ble_or Y X with ⟨h1, h2⟩ | ⟨h1, h2⟩
    · rw [h1, Bool.cond_true]
      refine key _ _ _ _ ?_ (by omega)
      rcases beq_or X Y with ⟨h3, h4⟩ | ⟨h3, h4⟩
      · rw [h3, Bool.cond_true, if_pos (by omega)]; rfl
      · rw [h3, Bool.cond_false, if_neg (by omega)]; exact decide_eq_true (by omega)
    · rw [h1, Bool.cond_false]
      refine key _ _ _ _ ?_ (by omega)
      rw [if_neg (by omega)]; exact decide_eq_false (by omega)
  · rw [show xorB true true = false from rfl, Bool.cond_false]
    refine key _ _ _ _ ?_ (by omega)
    by_cases h : S = 0
    · rw [if_pos h]; rfl
    · rw [if_neg h]; exact decide_eq_true (by omega)
theorem sumF_eq (s t : Bool) (m n a b : Nat) : (((Ieee.Datum.sum (.number s m (-1074 + (a : Int))) (.number t n (-1074 + (b : Int)))).map Ieee.double.write).getD (nanb .f64)) = sumF s t m n a b := by
  rw [sum_near, sum_pick (fun u v => near64 u v (min a b) 0) s t (m <<< (a - min a b)) (n <<< (b - min a b)) _ (by unfold Ieee.signed; rfl)]
  unfold sumF sumH sumG
  rw [cond_min]
  rfl
def intF (n : Int) : Nat := near64 (decide (n < 0)) n.natAbs 1074 0
theorem intF_eq (n : Int) : floatOfInt .f64 n = intF n := by
  unfold floatOfInt FloatKind.nearest FloatKind.encode intF
  show Ieee.double.nearest (decide (n < 0)) n.natAbs 0 = _
  rw [near64_eq _ _ 1074 0 _ (by omega)]
def addF (x y : Nat) : Nat := cond (fi64 x) (cond (fi64 y) (sumF (sg64 x) (sg64 y) (mg64 x) (mg64 y) (ex64 x) (ex64 y)) (fadd .f64 x y)) (fadd .f64 x y)
theorem addF_eq (x y : Nat) : fadd .f64 x y = addF x y := by
  unfold addF
  cases hx : fi64 x with
  | false => rfl
  | true =>
    cases hy : fi64 y with
    | false => rfl
    | true =>
      rw [fadd_eq]
      show ((Ieee.double.add x y).getD (nanb .f64)) = sumF _ _ _ _ _ _
      unfold Ieee.Format.add
      rw [read64 hx, read64 hy, sumF_eq]
def subF (x y : Nat) : Nat := cond (fi64 x) (cond (fi64 y) (sumF (sg64 x) (cond (sg64 y) false true) (mg64 x) (mg64 y) (ex64 x) (ex64 y)) (fsub .f64 x y)) (fsub .f64 x y)
theorem subF_eq (x y : Nat) : fsub .f64 x y = subF x y := by
  unfold subF
  cases hx : fi64 x with
  | false => rfl
  | true =>
    cases hy : fi64 y with
    | false => rfl
    | true =>
      rw [fsub_eq]
      show ((Ieee.double.sub x y).getD (nanb .f64)) = sumF _ _ _ _ _ _
      unfold Ieee.Format.sub
      rw [read64 hx, read64 hy]
      show (((Ieee.Datum.sum _ (.number (!sg64 y) _ _)).map Ieee.double.write).getD (nanb .f64)) = _
      rw [sumF_eq]
      cases sg64 y <;> rfl
/-! ### From one kind to another. -/
def narF (x : Nat) : Nat := cond (fi64 x) (near32 (sg64 x) (mg64 x) (ex64 x) 925) (fconv .f64 x .f32)
theorem num64 {x : Nat} (h : fi64 x = true) : isN .f64 x = false := by
  unfold isN
  rw [show FloatKind.f64.format.read x = _ from read64 h]; rfl
theorem num32 {x : Nat} (h : fi32 x = true) : isN .f32 x = false := by
  unfold isN
  rw [show FloatKind.f32.format.read x = _ from read32 h]; rfl
theorem cn_num {k : FloatKind} {x : Nat} (h : isN k x = false) : cn k x = x := by unfold cn; rw [h]; rfl
theorem narF_eq (x : Nat) : fconv .f64 x .f32 = narF x := by
  unfold narF
  cases hx : fi64 x with
  | false => rfl
  | true =>
    unfold fconv pconv
    rw [cn_num (num64 hx), num64 hx]
    show Ieee.single.write (Ieee.double.read x) = _
    rw [read64 hx]
    show Ieee.single.nearest _ _ _ = near32 _ _ _ _
    rw [near32_eq _ _ (ex64 x) 925 _ (by omega)]
def widF (x : Nat) : Nat := cond (fi32 x) (near64 (sg32 x) (mg32 x) (Nat.add (ex32 x) 925) 0) (fwid x)
theorem widF_eq (x : Nat) : fwid x = widF x := by
  unfold widF
  cases hx : fi32 x with
  | false => rfl
  | true =>
    unfold fwid fconv pconv
    rw [cn_num (num32 hx), num32 hx]
    show Ieee.double.write (Ieee.single.read x) = near64 _ _ (ex32 x + 925) 0
    rw [read32 hx]
    show Ieee.double.nearest _ _ _ = near64 _ _ _ _
    rw [near64_eq _ _ (ex32 x + 925) 0 _ (by omega)]
end Go.Proofs.Ytcnamhmoocdccaa
