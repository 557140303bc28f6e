/- WalGivesUp, the plain law: the image that the law loads. No program in sight. -/
import Derived.Test.YtpaebopmppbjbaaGiveP
set_option linter.unusedVariables false
set_option linter.unusedSimpArgs false
namespace Go.Le
open Go Go.RowKit
/-- an image, byte by byte -/
def imgF (f : Nat → UInt8) (N : Nat) : List UInt8 := (List.range N).map f
theorem imgF_length (f : Nat → UInt8) (N : Nat) : (imgF f N).length = N := by simp [imgF]
theorem imgF_at (f : Nat → UInt8) (N i : Nat) (h : i < N) : (imgF f N)[i]? = some (f i) := by simp [imgF, h]
theorem imgF_set (f : Nat → UInt8) (N k : Nat) (v : UInt8) : (imgF f N).set k v = imgF (fun i => if i = k then v else f i) N := by
  apply List.ext_getElem
  · simp [imgF]
  · intro i h1 h2
    have hi : i < N := by simpa [imgF] using h2
    rw [List.getElem_set]
    by_cases h : k = i
    · subst h; simp [imgF]
    · have : i ≠ k := fun e => h e.symm
      simp [imgF, h, this]
theorem imgF_byt (f : Nat → UInt8) (N i : Nat) (h : i < N) : (byts (imgF f N))[i]? = some (.int .u8 ((f i).toNat : Int)) := by
  have := imgF_at f N i h
  simp [byts, byt, this]
theorem imgF_zero (N : Nat) : imgF (fun _ => 0) N = zrs N := by
  apply List.ext_getElem?
  intro i
  by_cases h : i < N
  · rw [imgF_at _ _ _ h, zrs_at _ _ h]
  · rw [List.getElem?_eq_none (by rw [imgF_length]; omega), List.getElem?_eq_none (by rw [zrs_length]; omega)]
/-- a byte's lowest bits -/
theorem mask_u8 (x : UInt8) (m : Nat) (h0 : 1 ≤ m) (h8 : m ≤ 8) : ∃ s k : Nat, IntKind.u8.wrap ((2 : Int) ^ m) = (s : Int) ∧ IntKind.u8.wrap ((s : Int) - 1) = (k : Int) ∧ bits .and .u8 (x.toNat : Int) (k : Int) = ((UInt8.ofNat (x.toNat % 2 ^ m)).toNat : Int) := by
  have h1 : ∀ m : Fin 9, 1 ≤ m.val → IntKind.u8.wrap ((2 : Int) ^ m.val) = ((2 ^ m.val % 256 : Nat) : Int) ∧ IntKind.u8.wrap (((2 ^ m.val % 256 : Nat) : Int) - 1) = ((2 ^ m.val - 1 : Nat) : Int) := by decide +kernel
  have h2 : ∀ (m : Fin 9) (x : Fin 256), bits .and .u8 ((UInt8.ofNat x.val).toNat : Int) ((2 ^ m.val - 1 : Nat) : Int) = ((UInt8.ofNat (x.val % 2 ^ m.val)).toNat : Int) := by decide +kernel
  obtain ⟨e1, e2⟩ := h1 ⟨m, by omega⟩ h0
  have e3 := h2 ⟨m, by omega⟩ ⟨x.toNat, UInt8.toNat_lt _⟩
  refine ⟨_, _, e1, e2, ?_⟩
  simpa using e3
/-- the junk that the law lays at i -/
def junkAt (J : List UInt8) (i : Nat) : UInt8 := if J.length = 0 then 0 else J.getD ((i * 7 + i / 512) % J.length) 0
/-- the bits of the marker that the law lays -/
def gBits (J : List UInt8) (st : Bool) (p : Nat) : Nat := if st then (junkAt J 0).toNat % 2 ^ (min p 8) else 0
/-- the image behind the law's second loop -/
def gAt (J : List UInt8) (st : Bool) (p i : Nat) : UInt8 := if i = 0 then (if st then UInt8.ofNat (gBits J st p) else junkAt J 0) else if i < 511 then (if st then 0 else junkAt J i) else if i = 511 then 0 else junkAt J i
/-- the image that the law loads -/
def finAt (J : List UInt8) (st : Bool) (p i : Nat) : UInt8 := if i = 511 then (if gBits J st p = 0 then 0 else 1) else gAt J st p i
theorem gBits_lt (J : List UInt8) (st : Bool) (p : Nat) : gBits J st p < 2 ^ (min p 8) := by
  unfold gBits
  split
  · exact Nat.mod_lt _ (Nat.pow_pos (by omega))
  · exact Nat.pow_pos (by omega)
theorem gBits_st {J : List UInt8} {st : Bool} {p : Nat} (h : gBits J st p ≠ 0) : st = true := by
  unfold gBits at h
  cases st with
  | true => rfl
  | false => exact absurd rfl h
theorem fin_none (J : List UInt8) (st : Bool) (p N : Nat) (hN : 512 ≤ N) (h : gBits J st p = 0) : (imgF (finAt J st p) N)[511]? = some 0 := by
  rw [imgF_at _ _ _ (by omega)]
  unfold finAt
  rw [if_pos rfl, if_pos h]
theorem fin_marker (J : List UInt8) (st : Bool) (p N : Nat) (hN : 512 ≤ N) (h : gBits J st p ≠ 0) : sec (imgF (finAt J st p) N) 0 = marker (gBits J st p) := by
  have hs := gBits_st h
  apply List.ext_getElem?
  intro i
  by_cases hi : i < 512
  · rw [sec_at _ _ _ hi, show 0 * 512 + i = i by omega, imgF_at _ _ _ (by omega)]
    by_cases h5 : i = 511
    · subst h5
      have := marker_last (gBits J st p)
      unfold List.getD at this
      rw [List.getElem?_eq_getElem (by rw [marker_length]; omega)] at this
      rw [List.getElem?_eq_getElem (by rw [marker_length]; omega)]
      simp only [Option.getD_some] at this
      rw [this]
      unfold finAt
      rw [if_pos rfl, if_neg h]
    · by_cases h0 : i = 0
      · subst h0
        unfold finAt gAt marker
        rw [if_neg (by omega), if_pos rfl, hs]
        rfl
      · rw [marker_mid _ _ (by omega) (by omega)]
        unfold finAt gAt
        rw [if_neg h5, if_neg h0, if_pos (by omega), hs]
        rfl
  · rw [List.getElem?_eq_none (by unfold sec; rw [List.length_take]; omega), List.getElem?_eq_none (by rw [marker_length]; omega)]
end Go.Le
