/- A whole page in which a bit, or a run of bits outside of its checksum, is turned is whole no more. Plain mathematics. -/
import Derived.Test.YtipmfbpomhcfcaaDoorPgPlain
import Derived.Test.YtipmfbpomhcfcaaDoorCrcBits
namespace Go.Le
open Go

theorem bitAt_sumIn {l : List UInt8} (hl : l.length = 1024) (p : Nat) : bitAt (sumIn l) p = if 96 ≤ p ∧ p < 128 then false else bitAt l p := by
  unfold bitAt
  have h0 : (l.take 12).length = 12 := by simp; omega
  by_cases h1 : p / 8 < 12
  · rw [if_neg (by omega)]
    have : (sumIn l).getD (p / 8) 0 = l.getD (p / 8) 0 := by
      rw [sumIn, List.getD, List.getElem?_append_left (by omega), List.getElem?_take, if_pos h1]; rfl
    rw [this]
  · by_cases h2 : p / 8 < 16
    · rw [if_pos (by omega)]
      have : (sumIn l).getD (p / 8) 0 = 0 := by
        rw [sumIn, List.getD, List.getElem?_append_right (by omega), h0, List.getElem?_append_left (by simp; omega)]
        have : p / 8 - 12 = 0 ∨ p / 8 - 12 = 1 ∨ p / 8 - 12 = 2 ∨ p / 8 - 12 = 3 := by omega
        rcases this with e | e | e | e <;> rw [e] <;> rfl
      rw [this]; simp
    · rw [if_neg (by omega)]
      have : (sumIn l).getD (p / 8) 0 = l.getD (p / 8) 0 := by
        rw [sumIn, List.getD, List.getElem?_append_right (by omega), h0, List.getElem?_append_right (by simp; omega), List.getElem?_drop]
        simp only [List.length_cons, List.length_nil]
        rw [show 16 + (p / 8 - 12 - (0 + 1 + 1 + 1 + 1)) = p / 8 from by omega]
        rfl
      rw [this]
theorem sumIn_length {l : List UInt8} (hl : l.length = 1024) : (sumIn l).length = 1024 := by simp [sumIn]; omega
theorem getD_sub (l : List UInt8) (i : Nat) (h : i < 4) : (sub l 12 16).getD i 0 = l.getD (12 + i) 0 := by
  simp only [sub, List.getD, List.getElem?_drop, List.getElem?_take]
  rw [if_pos (by omega)]
theorem sub_bits {l l' : List UInt8} (hl : l.length = 1024) (hl' : l'.length = 1024) (h : ∀ p, 96 ≤ p → p < 128 → bitAt l' p = bitAt l p) : sub l' 12 16 = sub l 12 16 := by
  apply List.ext_getElem
  · rw [sub_length _ _ _ (by omega), sub_length _ _ _ (by omega)]
  · intro i h1 h2
    rw [sub_length _ _ _ (by omega)] at h1
    have e : ∀ m : List UInt8, m.length = 1024 → ∀ hh, (sub m 12 16)[i]'hh = m.getD (12 + i) 0 := by
      intro m hm hh
      have := getD_sub m i h1
      rw [← this]
      simp [List.getD, hh]
    rw [e l' hl' _, e l hl _]
    apply byte_eq
    intro b hb
    have := h (8 * (12 + i) + b) (by omega) (by omega)
    unfold bitAt at this
    rwa [show (8 * (12 + i) + b) / 8 = 12 + i from by omega, show (8 * (12 + i) + b) % 8 = b from by omega] at this
theorem be4_inj {x y : BitVec 32} (h : be4 x.toNat = be4 y.toNat) : x = y := by
  have := congrArg num h
  rw [num_be4 _ x.isLt, num_be4 _ y.isLt] at this
  exact BitVec.eq_of_toNat_eq this

/-- one bit turned -/
theorem spoilt_bit {kind : UInt8} {l : List UInt8} (h : whErr kind l = 0) (j : Nat) (hj : j < 8192) : whErr kind (flip l j) ≠ 0 := by
  intro h'
  obtain ⟨hl, _, hs⟩ := whole_parts h
  obtain ⟨hl', _, hs'⟩ := whole_parts h'
  have hb : ∀ p, bitAt (flip l j) p = (bitAt l p ^^ decide (p = j)) := fun p => bitAt_flip l j p (by omega)
  by_cases hz : 96 ≤ j ∧ j < 128
  · -- a bit of the checksum itself
    have hsum : crc (sumIn (flip l j)) = crc (sumIn l) := by
      congr 1
      apply List.ext_getElem
      · rw [sumIn_length hl', sumIn_length hl]
      · intro i h1 h2
        rw [sumIn_length hl] at h2
        have e : ∀ m : List UInt8, m.length = 1024 → ∀ hh, (sumIn m)[i]'hh = (sumIn m).getD i 0 := by
          intro m hm hh; simp [List.getD, hh]
        rw [e _ hl' _, e _ hl _]
        apply byte_eq
        intro b hbb
        have k1 := bitAt_sumIn hl' (8 * i + b)
        have k2 := bitAt_sumIn hl (8 * i + b)
        unfold bitAt at k1 k2
        rw [show (8 * i + b) / 8 = i from by omega, show (8 * i + b) % 8 = b from by omega] at k1 k2
        rw [k1, k2]
        split
        · rfl
        · rename_i hn
          have := hb (8 * i + b)
          unfold bitAt at this
          rw [show (8 * i + b) / 8 = i from by omega, show (8 * i + b) % 8 = b from by omega] at this
          rw [this]
          have : ¬ 8 * i + b = j := by omega
          simp [this]
    have hss : sub (flip l j) 12 16 = sub l 12 16 := by
      rw [← hs', ← hs, pgSum, pgSum, hsum]
    have hd := getD_sub (flip l j) (j / 8 - 12) (by omega)
    rw [hss, getD_sub l (j / 8 - 12) (by omega)] at hd
    have := hb j
    unfold bitAt at this
    rw [show 12 + (j / 8 - 12) = j / 8 from by omega] at hd
    rw [← hd] at this
    simp at this
  · have hss : sub (flip l j) 12 16 = sub l 12 16 := sub_bits hl hl' (fun p h1 h2 => by
      rw [hb p]; have : ¬ p = j := by omega
      simp [this])
    have hne : crc (sumIn l) ≠ crc (sumIn (flip l j)) := by
      refine crc_differs (by rw [sumIn_length hl', sumIn_length hl]) j 1 1#32 (by omega) (by decide) (fun i hi => ?_) (by rw [sumIn_length hl]; omega) (fun p hp => ?_)
      · rw [BitVec.getLsbD_one]; simp; omega
      · rw [bitAt_sumIn hl', bitAt_sumIn hl, hb p]
        by_cases hz2 : 96 ≤ p ∧ p < 128
        · rw [if_pos hz2, if_pos hz2]
          have : ¬ p = j := by omega
          by_cases h3 : j ≤ p
          · have : ¬ p - j = 0 := by omega
            simp [BitVec.getLsbD_one, this]
          · simp [h3]
        · rw [if_neg hz2, if_neg hz2]
          congr 1
          by_cases h3 : p = j
          · subst h3; simp
          · by_cases h4 : j ≤ p
            · have : ¬ p - j = 0 := by omega
              simp [h3, BitVec.getLsbD_one, this]
            · simp [h3, h4]
    apply hne
    apply be4_inj
    have : pgSum l = pgSum (flip l j) := by rw [hs, hs', hss]
    simpa [pgSum] using this

/-- a run of up to 32 bits turned, outside of the checksum -/
theorem spoilt_run {kind : UInt8} {l : List UInt8} (h : whErr kind l = 0) (k m : Nat) (hm : 0 < m) (hm2 : m < 4294967296) (hk : k + 32 ≤ 8192) (hz : 128 ≤ k ∨ k + 31 < 96) : whErr kind (burst l k m 32) ≠ 0 := by
  intro h'
  obtain ⟨hl, _, hs⟩ := whole_parts h
  obtain ⟨hl', _, hs'⟩ := whole_parts h'
  have hb : ∀ p, bitAt (burst l k m 32) p = (bitAt l p ^^ (decide (k ≤ p) && (decide (p < k + 32) && m.testBit (p - k)))) := fun p => bitAt_burst l k m 32 p (by omega)
  have hss : sub (burst l k m 32) 12 16 = sub l 12 16 := sub_bits hl hl' (fun p h1 h2 => by
    rw [hb p]
    by_cases h3 : k ≤ p
    · have : ¬ p < k + 32 := by omega
      simp [this]
    · simp [h3])
  have hne : crc (sumIn l) ≠ crc (sumIn (burst l k m 32)) := by
    refine crc_differs (by rw [sumIn_length hl', sumIn_length hl]) k 32 (BitVec.ofNat 32 m) (by omega) (fun e => ?_) (fun i hi => BitVec.getLsbD_of_ge _ _ hi) (by rw [sumIn_length hl]; omega) (fun p hp => ?_)
    · have := congrArg BitVec.toNat e
      rw [BitVec.toNat_ofNat, Nat.mod_eq_of_lt (by omega)] at this
      simp at this
      omega
    · rw [bitAt_sumIn hl', bitAt_sumIn hl, hb p, BitVec.getLsbD_ofNat]
      by_cases hz2 : 96 ≤ p ∧ p < 128
      · rw [if_pos hz2, if_pos hz2]
        by_cases h3 : k ≤ p
        · have : ¬ p - k < 32 := by omega
          simp [this]
        · simp [h3]
      · rw [if_neg hz2, if_neg hz2]
        congr 1
        by_cases h3 : k ≤ p
        · by_cases h4 : p < k + 32
          · have : p - k < 32 := by omega
            simp [h3, h4, this]
          · have : ¬ p - k < 32 := by omega
            simp [h4, this]
        · simp [h3]
  apply hne
  apply be4_inj
  have : pgSum l = pgSum (burst l k m 32) := by rw [hs, hs', hss]
  simpa [pgSum] using this
end Go.Le
