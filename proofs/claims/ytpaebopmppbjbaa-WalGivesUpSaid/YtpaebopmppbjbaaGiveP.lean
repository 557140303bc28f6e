/- WalGivesUp, the plain law: what Open and Clear make of an image whose log holds anything. No program in sight. -/
import Derived.Test.YtpaebopmppbjbaaWal27
set_option linter.unusedVariables false
set_option linter.unusedSimpArgs false
namespace Go.Le
open Go Go.RowKit
set_option maxRecDepth 20000
theorem flat_at (c : Nat) (hc : 0 < c) : ∀ (L : List (List UInt8)) (i : Nat), (∀ x ∈ L, x.length = c) → L.flatten[i]? = (L[i / c]?).bind fun x => x[i % c]?
  | [], i, _ => by simp
  | x :: r, i, h => by
    have hx := h x (by simp)
    rw [List.flatten_cons]
    by_cases hi : i < c
    · rw [List.getElem?_append_left (by omega), Nat.div_eq_of_lt hi, Nat.mod_eq_of_lt hi]
      rfl
    · rw [List.getElem?_append_right (by omega), hx, flat_at c hc r (i - c) (fun y hy => h y (by simp [hy]))]
      have e1 : i / c = (i - c) / c + 1 := by rw [← Nat.add_div_right _ hc]; congr 1; omega
      have e2 : i % c = (i - c) % c := by rw [← Nat.add_mod_right (i - c) c]; congr 1; omega
      rw [e1, e2]
      rfl
/-- a marker that stands: of the first eight pages -/
def marker (b : Nat) : List UInt8 := UInt8.ofNat b :: (zrs 510 ++ [1])
theorem marker_length (b : Nat) : (marker b).length = 512 := by unfold marker; rw [List.length_cons, List.length_append, zrs_length]; rfl
theorem marker_last (b : Nat) : (marker b).getD 511 0 = 1 := by
  unfold marker List.getD
  rw [List.getElem?_cons_succ, List.getElem?_append_right (by rw [zrs_length]; omega), zrs_length]
  rfl
theorem marker_mid (b k : Nat) (h0 : 0 < k) (h1 : k < 511) : (marker b)[k]? = some 0 := by
  unfold marker
  obtain ⟨m, rfl⟩ : ∃ m, k = m + 1 := ⟨k - 1, by omega⟩
  rw [List.getElem?_cons_succ, List.getElem?_append_left (by rw [zrs_length]; omega)]
  exact zrs_at 510 m (by omega)
theorem marker_bit (b x : Nat) (hb : b < 256) (hx : x < 256) : pageBit (marker b) x = true ↔ x < 8 ∧ b / 2 ^ x % 2 = 1 := by
  unfold pageBit
  by_cases h : x < 8
  · have e : x / 8 = 0 := by omega
    have e2 : x % 8 = x := by omega
    have e3 : ((marker b).getD 0 0).toNat = b := by
      show (UInt8.ofNat b).toNat = b
      simp
      omega
    rw [e, e2, e3]
    simp [h]
  · have e3 : (marker b).getD (x / 8) 0 = 0 := by
      unfold List.getD
      rw [marker_mid b (x / 8) (by omega) (by omega)]
      rfl
    rw [e3]
    simp [h]
theorem bits_some (b : Nat) (hb : b < 256) (h0 : b ≠ 0) : ∃ x, x < 8 ∧ b / 2 ^ x % 2 = 1 := by
  have : ∀ b : Fin 256, b.val ≠ 0 → ∃ x : Fin 8, b.val / 2 ^ x.val % 2 = 1 := by decide +kernel
  obtain ⟨x, hx⟩ := this ⟨b, hb⟩ h0
  exact ⟨x.val, x.isLt, hx⟩
theorem bit_lt (b x m : Nat) (hb : b < 2 ^ m) (hx : b / 2 ^ x % 2 = 1) : x < m := by
  by_cases h : x < m
  · exact h
  · exfalso
    have : 2 ^ m ≤ 2 ^ x := Nat.pow_le_pow_right (by omega) (by omega)
    rw [Nat.div_eq_of_lt (by omega)] at hx
    omega
theorem marker_marked (b p : Nat) (h0 : b ≠ 0) (hb : b < 2 ^ (min p 8)) (hp : p ≤ 250) : ∃ l, marked (marker b) p = .ok l ∧ l ≠ [] ∧ (∀ x ∈ l, x < p) ∧ ∀ x, x ∈ l ↔ x < 8 ∧ b / 2 ^ x % 2 = 1 := by
  have hb2 : b < 256 := by
    have : 2 ^ (min p 8) ≤ 2 ^ 8 := Nat.pow_le_pow_right (by omega) (by omega)
    omega
  have hmem : ∀ x, x ∈ bitsOf (marker b) ↔ x < 8 ∧ b / 2 ^ x % 2 = 1 := by
    intro x
    unfold bitsOf
    rw [List.mem_filter, List.mem_range]
    constructor
    · rintro ⟨h1, h2⟩
      exact (marker_bit b x hb2 h1).1 h2
    · rintro h
      exact ⟨by omega, (marker_bit b x hb2 (by omega)).2 h⟩
  have hlt : ∀ x ∈ bitsOf (marker b), x < p := by
    intro x hx
    have := bit_lt b x _ hb ((hmem x).1 hx).2
    omega
  have hne : bitsOf (marker b) ≠ [] := by
    obtain ⟨x, hx⟩ := bits_some b hb2 h0
    intro e
    have := (hmem x).2 hx
    rw [e] at this
    cases this
  refine ⟨bitsOf (marker b), ?_, hne, hlt, hmem⟩
  unfold marked
  rw [marker_last, if_neg (by decide)]
  have hz : allZero (((marker b).drop 32).take 479) = true := by
    unfold allZero
    rw [List.all_eq_true]
    intro x hx
    obtain ⟨i, hi⟩ := List.mem_iff_getElem?.1 hx
    rw [List.getElem?_take] at hi
    split at hi
    · rw [List.getElem?_drop, marker_mid b _ (by omega) (by omega)] at hi
      cases hi
      rfl
    · cases hi
  rw [hz, if_neg (by simp), if_neg]
  rintro (h | h)
  · exact hne h
  · have hl := hlt ((bitsOf (marker b)).getLastD 0) (by
      rw [List.getLastD_eq_getLast?, List.getLast?_eq_some_getLast hne]
      exact List.getLast_mem hne)
    omega
/-- page x behind an Open -/
def pageAt (img : List UInt8) (bits p x : Nat) : List UInt8 := if x < 8 ∧ bits / 2 ^ x % 2 = 1 then (img.drop (512 + 1024 * x)).take 1024 else (img.drop (512 + 1024 * p + 1024 * x)).take 1024
theorem pageAt_length (img : List UInt8) (bits p x n : Nat) (hi : img.length = n * 512) (hn : 4 * p + 1 ≤ n) (hx : x < p) : (pageAt img bits p x).length = 1024 := by
  unfold pageAt
  split <;> rw [List.length_take, List.length_drop, hi] <;> omega
theorem sec_at (l : List UInt8) (j r : Nat) (hr : r < 512) : (sec l j)[r]? = l[j * 512 + r]? := by
  unfold sec
  rw [List.getElem?_take, if_pos hr, List.getElem?_drop]
theorem sect0_at (r : Nat) (hr : r < 512) : sect0[r]? = some 0 := zrs_at 512 r hr
/-- an image, told sector by sector, byte by byte -/
theorem calm_bytes {D : Dev} {n : Nat} (h : Calm D n) (hp : D.pend = []) (i : Nat) (hi : i < n * 512) : D.img[i]? = (D.last (i / 512))[i % 512]? := by
  rw [h.img_eq hp, sec_at _ _ _ (Nat.mod_lt _ (by omega))]
  congr 1
  omega
theorem give_img {D : Dev} {n p more bits : Nat} {img : List UInt8} (h : Calm D n) (hp : D.pend = []) (hi : img.length = n * 512) (hn : n = 4 * p + 1 + more)
    (hl : ∀ j, j < n → D.last j = if j < 2 * p + 1 then sect0 else if j < 4 * p + 1 ∧ ((j - (2 * p + 1)) / 2 < 8 ∧ bits / 2 ^ ((j - (2 * p + 1)) / 2) % 2 = 1) then sec img (j - 2 * p) else sec img j) :
    D.img = zrs (512 * (1 + 2 * p)) ++ ((List.range p).map (pageAt img bits p)).flatten ++ img.drop (512 * (4 * p + 1)) := by
  have hfl : ((List.range p).map (pageAt img bits p)).flatten.length = 1024 * p := by
    rw [List.length_flatten, List.map_map]
    have : (List.range p).map (List.length ∘ pageAt img bits p) = List.replicate p 1024 := by
      apply List.ext_getElem
      · simp
      · intro k h1 h2
        simp only [List.getElem_map, List.getElem_range, Function.comp, List.getElem_replicate]
        exact pageAt_length img bits p k n hi (by omega) (by simpa using h1)
    rw [this, List.sum_replicate_nat]
    omega
  apply List.ext_getElem?
  intro i
  by_cases hin : i < n * 512
  · rw [calm_bytes h hp i hin, hl (i / 512) (by omega)]
    by_cases h1 : i / 512 < 2 * p + 1
    · rw [if_pos h1, sect0_at _ (Nat.mod_lt _ (by omega)), List.append_assoc, List.getElem?_append_left (by rw [zrs_length]; omega), zrs_at _ _ (by omega)]
    · rw [if_neg h1]
      by_cases h2 : i / 512 < 4 * p + 1
      · rw [List.getElem?_append_left (by rw [List.length_append, zrs_length, hfl]; omega), List.getElem?_append_right (by rw [zrs_length]; omega), zrs_length, flat_at 1024 (by omega) _ _ (fun x hx => by
          obtain ⟨k, hk, rfl⟩ := List.mem_map.1 hx
          exact pageAt_length img bits p k n hi (by omega) (List.mem_range.1 hk))]
        have hq : (i - 512 * (1 + 2 * p)) / 1024 < p := by omega
        rw [List.getElem?_map, List.getElem?_range hq]
        show _ = (pageAt img bits p _)[_]?
        have e1 : (i / 512 - (2 * p + 1)) / 2 = (i - 512 * (1 + 2 * p)) / 1024 := by omega
        rw [e1]
        unfold pageAt
        by_cases h3 : (i - 512 * (1 + 2 * p)) / 1024 < 8 ∧ bits / 2 ^ ((i - 512 * (1 + 2 * p)) / 1024) % 2 = 1
        · rw [if_pos ⟨h2, h3⟩, if_pos h3, sec_at _ _ _ (Nat.mod_lt _ (by omega)), List.getElem?_take, if_pos (Nat.mod_lt _ (by omega)), List.getElem?_drop]
          congr 1
          omega
        · rw [if_neg (fun h => h3 h.2), if_neg h3, sec_at _ _ _ (Nat.mod_lt _ (by omega)), List.getElem?_take, if_pos (Nat.mod_lt _ (by omega)), List.getElem?_drop]
          congr 1
          omega
      · rw [if_neg (fun h => h2 h.1), sec_at _ _ _ (Nat.mod_lt _ (by omega)), List.getElem?_append_right (by rw [List.length_append, zrs_length, hfl]; omega), List.length_append, zrs_length, hfl, List.getElem?_drop]
        congr 1
        omega
  · rw [List.getElem?_eq_none (by rw [h.img]; omega), List.getElem?_eq_none]
    rw [List.length_append, List.length_append, zrs_length, hfl, List.length_drop, hi]
    omega
theorem give_room (n p more : Nat) (hp1 : 1 ≤ p) (hp2 : p ≤ 20) (hm : more ≤ 3) (hn : n = 4 * p + 1 + more) : roomOf n = p := by unfold roomOf; rw [if_neg (by omega)]; omega
theorem fresh_calm' (img : List UInt8) (n : Nat) (hi : img.length = n * 512) (h1 : 1 ≤ n) (h2 : n ≤ 4096) : Calm (Dev.fresh img) n := ⟨fresh_ok _ n hi h1 h2, hi, rfl, rfl⟩
/-- Open, on a disk whose log's marker is that of these bits, or stands not -/
theorem give_open (img : List UInt8) (n p more bits : Nat) (hp1 : 1 ≤ p) (hp2 : p ≤ 20) (hm : more ≤ 3) (hn : n = 4 * p + 1 + more) (hi : img.length = n * 512) (hb : bits < 2 ^ (min p 8)) (h0 : bits = 0 → img[511]? = some 0) (h1 : bits ≠ 0 → sec img 0 = marker bits) :
    ∃ D', ioOpen (Dev.fresh img) = (.ok (p, decide (bits ≠ 0)), D') ∧ Calm D' n ∧ D'.pend = [] ∧ D'.img = zrs (512 * (1 + 2 * p)) ++ ((List.range p).map (pageAt img bits p)).flatten ++ img.drop (512 * (4 * p + 1)) := by
  have hc := fresh_calm' img n hi (by omega) (by omega)
  have hro := give_room n p more hp1 hp2 hm hn
  have hla : ∀ j, (Dev.fresh img).last j = sec img j := fun j => hc.img_eq rfl j
  by_cases hb0 : bits = 0
  · have hd : decide (bits ≠ 0) = false := by simp [hb0]
    rw [hd]
    obtain ⟨D', e1, e2, e3, e4⟩ := hc.open_fallen hro (by omega) (by omega) rfl (by
      rw [hla]
      unfold List.getD
      rw [sec_at _ _ _ (by omega), show 0 * 512 + 511 = 511 by omega, h0 hb0]
      rfl)
    refine ⟨D', e1, e2, e3, give_img e2 e3 hi hn fun j hj => ?_⟩
    rw [e4 j hj, hla]
    subst hb0
    by_cases h : j < 2 * p + 1
    · rw [if_pos h, if_pos h]
    · rw [if_neg h, if_neg h, if_neg (by
        rintro ⟨-, -, h3⟩
        rw [Nat.zero_div] at h3
        omega)]
  · have hd : decide (bits ≠ 0) = true := by simpa using hb0
    rw [hd]
    obtain ⟨l, k1, k2, k3, k4⟩ := marker_marked bits p hb0 hb (by omega)
    obtain ⟨D', e1, e2, e3, e4⟩ := hc.open_stands hro (by omega) (by omega) rfl l (by rw [hla, h1 hb0]; exact k1) k2 k3
    refine ⟨D', e1, e2, e3, give_img e2 e3 hi hn fun j hj => ?_⟩
    rw [e4 j hj]
    by_cases h : j < 2 * p + 1
    · rw [if_pos h, if_pos h]
    · rw [if_neg h, if_neg h]
      unfold redoAt
      by_cases h2 : j < 4 * p + 1 ∧ ((j - (2 * p + 1)) / 2 < 8 ∧ bits / 2 ^ ((j - (2 * p + 1)) / 2) % 2 = 1)
      · rw [if_pos h2, if_pos ⟨by omega, h2.1, (k4 _).2 h2.2⟩, hla]
      · rw [if_neg h2, if_neg (fun h3 => h2 ⟨h3.2.1, (k4 _).1 h3.2.2⟩), hla]
theorem give_clear (img : List UInt8) (n p more : Nat) (hp1 : 1 ≤ p) (hp2 : p ≤ 20) (hm : more ≤ 3) (hn : n = 4 * p + 1 + more) (hi : img.length = n * 512) :
    ∃ D', ioClear (Dev.fresh img) = (.ok (), D') ∧ Calm D' n ∧ D'.pend = [] ∧ D'.img = zrs (512 * (1 + 2 * p)) ++ (img.take (512 * (4 * p + 1))).drop (512 * (1 + 2 * p)) ++ zrs (512 * more) := by
  have hc := fresh_calm' img n hi (by omega) (by omega)
  have hro := give_room n p more hp1 hp2 hm hn
  have hla : ∀ j, (Dev.fresh img).last j = sec img j := fun j => hc.img_eq rfl j
  obtain ⟨D', e1, e2, e3, e4⟩ := hc.clear hro (by omega) (by omega) rfl
  refine ⟨D', e1, e2, e3, ?_⟩
  have hml : ((img.take (512 * (4 * p + 1))).drop (512 * (1 + 2 * p))).length = 1024 * p := by rw [List.length_drop, List.length_take, hi]; omega
  apply List.ext_getElem?
  intro i
  by_cases hin : i < n * 512
  · rw [calm_bytes e2 e3 i hin, e4 (i / 512) (by omega), hla]
    by_cases h1 : i / 512 < 2 * p + 1
    · rw [if_pos (.inl h1), sect0_at _ (Nat.mod_lt _ (by omega)), List.append_assoc, List.getElem?_append_left (by rw [zrs_length]; omega), zrs_at _ _ (by omega)]
    · by_cases h2 : i / 512 < 4 * p + 1
      · rw [if_neg (by omega), sec_at _ _ _ (Nat.mod_lt _ (by omega)), List.getElem?_append_left (by rw [List.length_append, zrs_length, hml]; omega), List.getElem?_append_right (by rw [zrs_length]; omega), zrs_length, List.getElem?_drop, List.getElem?_take, if_pos (by omega)]
        congr 1
        omega
      · rw [if_pos (.inr (by omega)), sect0_at _ (Nat.mod_lt _ (by omega)), List.getElem?_append_right (by rw [List.length_append, zrs_length, hml]; omega), List.length_append, zrs_length, hml, zrs_at _ _ (by omega)]
  · rw [List.getElem?_eq_none (by rw [e2.img]; omega), List.getElem?_eq_none]
    rw [List.length_append, List.length_append, zrs_length, hml, zrs_length]
    omega
end Go.Le
