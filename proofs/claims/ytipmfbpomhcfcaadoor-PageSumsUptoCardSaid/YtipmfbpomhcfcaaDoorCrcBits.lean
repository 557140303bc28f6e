/- Texts by their bits: one in which a bit, or a run of up to 32 bits, is changed has another checksum. Plain mathematics. -/
import Derived.Test.YtipmfbpomhcfcaaDoorCrcMath
set_option linter.unusedVariables false
set_option linter.unusedSimpArgs false
namespace Go.Le
open Go

def bitAt (l : List UInt8) (k : Nat) : Bool := (l.getD (k / 8) 0).toNat.testBit (k % 8)

theorem feed_congr {b c : Nat → Bool} : ∀ (n : Nat) (x : BitVec 32), (∀ i, i < n → b i = c i) → feed b n x = feed c n x
  | 0, _, _ => rfl
  | n + 1, x, h => by rw [feed, feed, feed_congr n x (fun i hi => h i (by omega)), h n (by omega)]
theorem feed_add (b : Nat → Bool) (n : Nat) : ∀ (m : Nat) (x : BitVec 32), feed b (n + m) x = feed (fun i => b (n + i)) m (feed b n x)
  | 0, _ => rfl
  | m + 1, x => by rw [← Nat.add_assoc, feed, feed, feed_add b n m x]
theorem one_xor (a b : Bool) : one a ^^^ one b = one (a ^^ b) := by cases a <;> cases b <;> decide
theorem feed_xor (b c : Nat → Bool) : ∀ (n : Nat) (x y : BitVec 32), feed b n x ^^^ feed c n y = feed (fun i => b i ^^ c i) n (x ^^^ y)
  | 0, _, _ => rfl
  | n + 1, x, y => by
    rw [feed, feed, feed, ← sh_xor, ← feed_xor b c n x y, ← one_xor]
    congr 1
    apply BitVec.eq_of_getLsbD_eq
    intro i hi
    simp only [BitVec.getLsbD_xor]
    cases (feed b n x).getLsbD i <;> cases (feed c n y).getLsbD i <;> cases (one (b n)).getLsbD i <;> cases (one (c n)).getLsbD i <;> rfl
theorem shN_succ' : ∀ (n : Nat) (x : BitVec 32), shN (n + 1) x = sh (shN n x)
  | 0, _ => rfl
  | n + 1, x => by rw [shN, shN_succ' n]; rfl
theorem feed_false {b : Nat → Bool} : ∀ (n : Nat) (x : BitVec 32), (∀ i, i < n → b i = false) → feed b n x = shN n x
  | 0, _, _ => rfl
  | n + 1, x, h => by
    rw [feed, feed_false n x (fun i hi => h i (by omega)), h n (by omega), shN_succ']
    simp [one]

theorem wide_bit (b : UInt8) (i : Nat) : (wide b).getLsbD i = b.toNat.testBit i := by
  rw [wide, BitVec.getLsbD_ofNat]
  by_cases h : i < 32
  · simp [h]
  · have : b.toNat.testBit i = false := Nat.testBit_lt_two_pow (Nat.lt_of_lt_of_le b.toNat_lt (Nat.pow_le_pow_right (by omega) (by omega)))
    simp [h, this]
theorem crcRun_feed (x : BitVec 32) (l : List UInt8) : ∀ k, k ≤ l.length → crcRun x (l.take k) = feed (bitAt l) (8 * k) x
  | 0, _ => by simp [crcRun, feed]
  | k + 1, h => by
    rw [crcRun_take x l k (by omega), crcByte_shN, crcRun_feed x l k (by omega), show 8 * (k + 1) = 8 * k + 8 from by omega, feed_add]
    rw [← feed_word 8 _ (wide l[k]) (by omega) (fun i hi => by
      rw [wide_bit]; exact Nat.testBit_lt_two_pow (Nat.lt_of_lt_of_le (l[k]).toNat_lt (Nat.pow_le_pow_right (by omega) hi)))]
    apply feed_congr
    intro i hi
    rw [wide_bit, bitAt, show (8 * k + i) / 8 = k from by omega, show (8 * k + i) % 8 = i from by omega]
    simp [List.getD, List.getElem?_eq_getElem (show k < l.length by omega)]
theorem crc_feed (l : List UInt8) : crc l = ~~~ feed (bitAt l) (8 * l.length) 0xffffffff#32 := by
  rw [crc, ← crcRun_feed _ l l.length (Nat.le_refl _), List.take_length]

/-- two texts of one length that differ just by the word M, laid over some bits from bit k on: their checksums differ -/
theorem crc_differs {l l' : List UInt8} (hl : l'.length = l.length) (k W : Nat) (M : BitVec 32) (hW : W ≤ 32) (hM : M ≠ 0#32) (hMW : ∀ i, W ≤ i → M.getLsbD i = false) (hk : k + W ≤ 8 * l.length)
    (h : ∀ p, p < 8 * l.length → bitAt l' p = (bitAt l p ^^ (decide (k ≤ p) && M.getLsbD (p - k)))) : crc l ≠ crc l' := by
  intro he
  have h1 : feed (bitAt l) (8 * l.length) 0xffffffff#32 ^^^ feed (bitAt l') (8 * l.length) 0xffffffff#32 = 0#32 := by
    rw [crc_feed, crc_feed, hl] at he
    have := congrArg (fun z => ~~~ z) he
    simp only [BitVec.not_not] at this
    rw [this, BitVec.xor_self]
  rw [feed_xor, BitVec.xor_self] at h1
  rw [feed_congr (c := fun p => decide (k ≤ p) && M.getLsbD (p - k)) _ _ (fun p hp => by rw [h p hp]; cases bitAt l p <;> simp)] at h1
  rw [show 8 * l.length = k + (W + (8 * l.length - k - W)) from by omega, feed_add, feed_add] at h1
  rw [feed_false (b := fun p => decide (k ≤ p) && M.getLsbD (p - k)) k _ (fun i hi => by simp; omega), shN_zero] at h1
  rw [feed_congr (c := fun i => M.getLsbD i) W _ (fun i _ => by simp)] at h1
  rw [feed_word W _ M hW hMW, BitVec.zero_xor] at h1
  rw [feed_false _ _ (fun i _ => by simp; exact hMW _ (by omega))] at h1
  exact shN_ne _ (shN_ne _ hM) h1

/-- a byte with one bit turned -/
def flipB (b : UInt8) (i : Nat) : UInt8 := UInt8.ofNat (b.toNat ^^^ 2 ^ i)
theorem flipB_toNat (b : UInt8) (i : Nat) (h : i < 8) : (flipB b i).toNat = b.toNat ^^^ 2 ^ i := by
  rw [flipB, UInt8.toNat_ofNat', Nat.mod_eq_of_lt]
  exact Nat.xor_lt_two_pow b.toNat_lt (Nat.pow_lt_pow_right (by omega) h)
/-- a text with one bit turned -/
def flip (l : List UInt8) (j : Nat) : List UInt8 := l.set (j / 8) (flipB (l.getD (j / 8) 0) (j % 8))
theorem flip_length (l : List UInt8) (j : Nat) : (flip l j).length = l.length := by simp [flip]
theorem bitAt_flip (l : List UInt8) (j p : Nat) (h : j < 8 * l.length) : bitAt (flip l j) p = (bitAt l p ^^ decide (p = j)) := by
  unfold bitAt flip
  by_cases hq : j / 8 = p / 8
  · have e : (l.set (j / 8) (flipB (l.getD (j / 8) 0) (j % 8))).getD (p / 8) 0 = flipB (l.getD (p / 8) 0) (j % 8) := by
      rw [hq]
      simp [List.getD, show p / 8 < l.length by omega]
    rw [e, flipB_toNat _ _ (Nat.mod_lt _ (by omega)), Nat.testBit_xor, Nat.testBit_two_pow]
    congr 1
    by_cases hpj : p = j
    · subst hpj; simp
    · have : ¬ j % 8 = p % 8 := by omega
      simp [hpj, this]
  · have e : (l.set (j / 8) (flipB (l.getD (j / 8) 0) (j % 8))).getD (p / 8) 0 = l.getD (p / 8) 0 := by
      simp [List.getD, hq]
    have : ¬ p = j := by intro hh; subst hh; exact hq rfl
    rw [e]; simp [this]
/-- a text in which, from bit k on, the first i bits are turned where m has ones -/
def burst (l : List UInt8) (k m : Nat) : Nat → List UInt8
  | 0 => l
  | i + 1 => if m.testBit i = true then flip (burst l k m i) (k + i) else burst l k m i
theorem burst_length (l : List UInt8) (k m : Nat) : ∀ i, (burst l k m i).length = l.length
  | 0 => rfl
  | i + 1 => by
    rw [burst]; split
    · rw [flip_length, burst_length l k m i]
    · exact burst_length l k m i
theorem bitAt_burst (l : List UInt8) (k m : Nat) : ∀ (i p : Nat), k + i ≤ 8 * l.length → bitAt (burst l k m i) p = (bitAt l p ^^ (decide (k ≤ p) && (decide (p < k + i) && m.testBit (p - k))))
  | 0, p, _ => by
    have : (decide (k ≤ p) && (decide (p < k + 0) && m.testBit (p - k))) = false := by
      by_cases h : k ≤ p <;> simp [h]; omega
    rw [this]; simp [burst]
  | i + 1, p, h => by
    rw [burst]
    by_cases hm : m.testBit i = true
    · rw [if_pos hm, bitAt_flip _ _ _ (by rw [burst_length]; omega), bitAt_burst l k m i p (by omega), Bool.xor_assoc]
      congr 1
      by_cases h1 : p = k + i
      · subst h1; simp [hm]
      · by_cases h2 : k ≤ p
        · by_cases h3 : p < k + i
          · simp [h1, h2, h3, show p < k + (i + 1) by omega]
          · simp [h1, h2, h3, show ¬ p < k + (i + 1) by omega]
        · simp [h1, h2]
    · rw [if_neg hm, bitAt_burst l k m i p (by omega)]
      congr 1
      by_cases h1 : p = k + i
      · subst h1; simp [hm]
      · by_cases h2 : k ≤ p
        · by_cases h3 : p < k + i
          · simp [h2, h3, show p < k + (i + 1) by omega]
          · simp [h2, h3, show ¬ p < k + (i + 1) by omega]
        · simp [h2]
/-- bytes are their bits -/
theorem byte_eq {a b : UInt8} (h : ∀ i, i < 8 → a.toNat.testBit i = b.toNat.testBit i) : a = b := by
  apply UInt8.toNat_inj.1
  apply Nat.eq_of_testBit_eq
  intro i
  by_cases hi : i < 8
  · exact h i hi
  · rw [Nat.testBit_lt_two_pow (Nat.lt_of_lt_of_le a.toNat_lt (Nat.pow_le_pow_right (by omega) (by omega))), Nat.testBit_lt_two_pow (Nat.lt_of_lt_of_le b.toNat_lt (Nat.pow_le_pow_right (by omega) (by omega)))]
end Go.Le
