/- The checksum bit by bit: it is linear, a changed bit or a changed run of up to 32 bits changes it. Plain mathematics. -/
import Derived.Test.YtipmfbpomhcfcaaDoorCrc
set_option linter.unusedVariables false
set_option linter.unusedSimpArgs false
namespace Go.Le
open Go

/-- one shift of the register -/
def sh (x : BitVec 32) : BitVec 32 := if x.getLsbD 0 = true then (x >>> 1) ^^^ 0x82f63b78#32 else x >>> 1
def shN : Nat → BitVec 32 → BitVec 32
  | 0, x => x
  | n + 1, x => shN n (sh x)
def one (b : Bool) : BitVec 32 := if b then 1#32 else 0#32

theorem sh_zero : sh 0#32 = 0#32 := by decide
theorem sh_xor (x y : BitVec 32) : sh (x ^^^ y) = sh x ^^^ sh y := by
  have e : (x ^^^ y) >>> 1 = x >>> 1 ^^^ y >>> 1 := BitVec.ushiftRight_xor_distrib x y 1
  simp only [sh, BitVec.getLsbD_xor, e]
  cases hx : x.getLsbD 0 <;> cases hy : y.getLsbD 0 <;> simp only [Bool.xor_false, Bool.false_xor, Bool.xor_self, Bool.false_eq_true, if_false, if_true]
  all_goals
    apply BitVec.eq_of_getLsbD_eq
    intro i hi
    simp only [BitVec.getLsbD_xor]
    cases (x >>> 1).getLsbD i <;> cases (y >>> 1).getLsbD i <;> cases (2197175160#32).getLsbD i <;> rfl
theorem shN_xor : ∀ (n : Nat) (x y : BitVec 32), shN n (x ^^^ y) = shN n x ^^^ shN n y
  | 0, _, _ => rfl
  | n + 1, x, y => by simp only [shN]; rw [sh_xor, shN_xor n]
theorem shN_zero : ∀ n, shN n 0#32 = 0#32
  | 0 => rfl
  | n + 1 => by simp only [shN]; rw [sh_zero, shN_zero n]
theorem shN_add : ∀ (a b : Nat) (x : BitVec 32), shN (a + b) x = shN b (shN a x)
  | 0, b, x => by simp [shN]
  | a + 1, b, x => by rw [Nat.add_right_comm]; simp only [shN]; exact shN_add a b (sh x)
theorem sh_ne {x : BitVec 32} (h : x ≠ 0#32) : sh x ≠ 0#32 := by
  intro hs
  apply h
  unfold sh at hs
  cases hb : x.getLsbD 0
  · rw [hb] at hs
    simp only [Bool.false_eq_true, if_false] at hs
    apply BitVec.eq_of_getLsbD_eq
    intro i hi
    rw [BitVec.getLsbD_zero]
    cases i with
    | zero => exact hb
    | succ i =>
      have := congrArg (fun z => z.getLsbD i) hs
      simp only [BitVec.getLsbD_ushiftRight, BitVec.getLsbD_zero] at this
      rw [Nat.add_comm]; exact this
  · rw [hb] at hs
    simp only [if_true] at hs
    have := congrArg (fun z => z.getLsbD 31) hs
    simp only [BitVec.getLsbD_xor, BitVec.getLsbD_ushiftRight] at this
    rw [BitVec.getLsbD_of_ge x 32 (by omega)] at this
    exact absurd this (by decide)
theorem shN_ne : ∀ (n : Nat) {x : BitVec 32}, x ≠ 0#32 → shN n x ≠ 0#32
  | 0, _, h => h
  | n + 1, _, h => shN_ne n (sh_ne h)

/-- a number with no lowest bit is halved -/
theorem sh_even (y : BitVec 32) (h : y.getLsbD 31 = false) : sh (y <<< 1) = y := by
  have h0 : (y <<< 1).getLsbD 0 = false := by simp
  rw [sh, h0, if_neg (by simp)]
  apply BitVec.eq_of_getLsbD_eq
  intro i hi
  rw [BitVec.getLsbD_ushiftRight, BitVec.getLsbD_shiftLeft]
  by_cases h31 : i = 31
  · subst h31; rw [h]; simp
  · simp; omega
/-- a word's lowest bit, and the rest -/
theorem split_low (y : BitVec 32) : y = one (y.getLsbD 0) ^^^ ((y >>> 1) <<< 1) := by
  apply BitVec.eq_of_getLsbD_eq
  intro i hi
  rw [BitVec.getLsbD_xor, BitVec.getLsbD_shiftLeft, BitVec.getLsbD_ushiftRight]
  cases i with
  | zero => cases h : y.getLsbD 0 <;> simp [one]
  | succ i =>
    have e : (one (y.getLsbD 0)).getLsbD (i + 1) = false := by
      cases y.getLsbD 0
      · simp [one]
      · simp [one]
    rw [e]
    have : i + 1 < 32 := hi
    simp [this, Nat.add_comm]

/-- the register, fed with n bits, one a shift -/
def feed (b : Nat → Bool) : Nat → BitVec 32 → BitVec 32
  | 0, x => x
  | n + 1, x => sh (feed b n x ^^^ one (b n))
/-- feeding a word's bits from the lowest one on is shifting it in at once -/
theorem feed_front (b : Nat → Bool) : ∀ (n : Nat) (x : BitVec 32), feed b (n + 1) x = feed (fun i => b (i + 1)) n (sh (x ^^^ one (b 0)))
  | 0, x => rfl
  | n + 1, x => by
    rw [feed, feed_front b n x]
    rfl
theorem feed_word : ∀ (n : Nat) (x y : BitVec 32), n ≤ 32 → (∀ i, n ≤ i → y.getLsbD i = false) → feed (fun i => y.getLsbD i) n x = shN n (x ^^^ y)
  | 0, x, y, _, h => by
    have : y = 0#32 := by
      apply BitVec.eq_of_getLsbD_eq
      intro i _
      rw [h i (by omega)]; simp
    subst this
    simp [feed, shN]
  | n + 1, x, y, hn, h => by
    rw [feed_front]
    have hy := split_low y
    have e1 : (fun i => y.getLsbD (i + 1)) = fun i => (y >>> 1).getLsbD i := by
      funext i; rw [BitVec.getLsbD_ushiftRight, Nat.add_comm]
    rw [e1, feed_word n _ (y >>> 1) (by omega) (fun i hi => by rw [BitVec.getLsbD_ushiftRight]; exact h _ (by omega))]
    rw [shN]
    congr 1
    have h31 : (y >>> 1).getLsbD 31 = false := by
      rw [BitVec.getLsbD_ushiftRight]; exact BitVec.getLsbD_of_ge y _ (by omega)
    conv => rhs; rw [hy]
    rw [← BitVec.xor_assoc, sh_xor (x ^^^ one (y.getLsbD 0)), sh_even _ h31]

/-- four shifts, by the table -/
theorem nib_shN (x : BitVec 32) : nib x = shN 4 x := by
  have hlo : ∀ i : Fin 16, shN 4 (BitVec.ofNat 32 i.val) = tabAt i.val := by decide
  have hx : x = BitVec.ofNat 32 (x.toNat % 16) ^^^ ((x >>> 4) <<< 4) := by
    apply BitVec.eq_of_getLsbD_eq
    intro i hi
    rw [BitVec.getLsbD_xor, BitVec.getLsbD_shiftLeft, BitVec.getLsbD_ushiftRight, BitVec.getLsbD_ofNat]
    have e : (x.toNat % 16).testBit i = (decide (i < 4) && x.toNat.testBit i) := by
      have := Nat.testBit_mod_two_pow x.toNat 4 i
      simpa using this
    rw [e]
    by_cases h4 : i < 4
    · simp [h4, hi, BitVec.getLsbD]
    · have : 4 + (i - 4) = i := by omega
      simp [h4, hi, this]
  have hhi : shN 4 ((x >>> 4) <<< 4) = x >>> 4 := by
    have g : ∀ j, 28 ≤ j → (x >>> 4).getLsbD j = false := by
      intro j hj
      rw [BitVec.getLsbD_ushiftRight]; exact BitVec.getLsbD_of_ge x _ (by omega)
    have s : ∀ k, (x >>> 4) <<< (k + 1) = ((x >>> 4) <<< k) <<< 1 := fun k => by rw [BitVec.shiftLeft_add]
    have t : ∀ k, k < 4 → ((x >>> 4) <<< k).getLsbD 31 = false := by
      intro k hk
      rw [BitVec.getLsbD_shiftLeft, g (31 - k) (by omega)]; simp
    simp only [shN]
    rw [s 3, sh_even _ (t 3 (by omega)), s 2, sh_even _ (t 2 (by omega)), s 1, sh_even _ (t 1 (by omega)), s 0, sh_even _ (t 0 (by omega)), BitVec.shiftLeft_zero]
  conv => rhs; rw [hx]
  rw [shN_xor, hhi, hlo ⟨x.toNat % 16, Nat.mod_lt _ (by omega)⟩]
  rfl
theorem crcByte_shN (x : BitVec 32) (b : UInt8) : crcByte x b = shN 8 (x ^^^ wide b) := by
  rw [crcByte, nib_shN, nib_shN, ← shN_add]
end Go.Le
