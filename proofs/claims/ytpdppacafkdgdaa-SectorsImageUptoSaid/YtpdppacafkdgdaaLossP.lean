/- SectorsLoss, the plain law: what a crash leaves of m writes to two sectors in turns. -/
import Derived.Test.YtpdppacafkdgdaaLw3
set_option linter.unusedVariables false
set_option linter.unusedSimpArgs false
namespace Go.Le
open Go Go.RowKit
def bitKeep (k : Nat) : List Nat := List.replicate (k / 64) 0 ++ [2 ^ (k % 64)]
theorem kept_bit1 : ∀ k < 100, ∀ j < 100, kept ⟨bitKeep k, -1, 0⟩ j = (j == k) := by decide +kernel
theorem kept_ones : ∀ j < 100, kept ⟨[18446744073709551615, 18446744073709551615], -1, 0⟩ j = true := by decide +kernel
/-- byte i of what a crash leaves -/
def foldAt (l : Loss) (i : Nat) : Nat → UInt8 → List (Nat × List UInt8) → UInt8
  | _, x, [] => x
  | j, x, p :: r => foldAt l i (j + 1) (if p.1 = i / 512 ∧ i % 512 < remains l j then p.2.getD (i % 512) 0 else x) r
set_option maxRecDepth 10000 in
theorem put_at (img : List UInt8) (p : Nat × List UInt8) (n i : Nat) (h : p.1 * 512 + 512 ≤ img.length) (hp : p.2.length = 512) (hn : n ≤ 512) : (put img p n)[i]? = if p.1 = i / 512 ∧ i % 512 < n then some (p.2.getD (i % 512) 0) else img[i]? := by
  unfold put splice
  have hl : (p.2.take n).length = n := by rw [List.length_take]; omega
  rw [hl]
  by_cases h1 : i < p.1 * 512
  · rw [List.getElem?_append_left (by rw [List.length_take]; omega), List.getElem?_take, if_pos h1, if_neg (by omega)]
  · rw [List.getElem?_append_right (by rw [List.length_take]; omega), List.length_take, Nat.min_eq_left (by omega)]
    by_cases h2 : i < p.1 * 512 + n
    · rw [List.getElem?_append_left (by rw [hl]; omega), List.getElem?_take, if_pos (by omega)]
      have e : i - p.1 * 512 = i % 512 := by omega
      rw [if_pos ⟨by omega, by omega⟩, e, List.getElem?_eq_getElem (by omega)]
      simp [List.getD_eq_getElem?_getD, List.getElem?_eq_getElem (show i % 512 < p.2.length by omega)]
    · rw [List.getElem?_append_right (by rw [hl]; omega), hl, List.getElem?_drop, if_neg (by omega)]
      congr 1
      omega
theorem remains_le (l : Loss) (k : Nat) : remains l k ≤ 512 := by unfold remains; split; omega; split <;> omega
theorem fallFrom_at (l : Loss) (i : Nat) : ∀ (j : Nat) (img : List UInt8) (pend : List (Nat × List UInt8)) (x : UInt8), (∀ p ∈ pend, p.1 * 512 + 512 ≤ img.length ∧ p.2.length = 512) → img[i]? = some x → (fallFrom l j img pend)[i]? = some (foldAt l i j x pend)
  | _, _, [], x, _, hx => hx
  | j, img, p :: r, x, h, hx => by
    have h1 := h p (by simp)
    have h2 := put_length img p (remains l j) h1.1 h1.2
    unfold fallFrom foldAt
    refine fallFrom_at l i (j + 1) _ r _ (fun q hq => by rw [h2]; exact h q (by simp [hq])) ?_
    rw [put_at img p _ i h1.1 h1.2 (remains_le l j), hx]
    split <;> rfl
theorem foldAt_append (l : Loss) (i : Nat) : ∀ (j : Nat) (x : UInt8) (p q : List (Nat × List UInt8)), foldAt l i j x (p ++ q) = foldAt l i (j + p.length) (foldAt l i j x p) q
  | j, x, [], q => rfl
  | j, x, a :: p, q => by
    show foldAt l i (j + 1) _ (p ++ q) = _
    rw [foldAt_append l i (j + 1) _ p q]
    show foldAt l i (j + 1 + p.length) _ q = foldAt l i (j + (p.length + 1)) _ q
    rw [show j + 1 + p.length = j + (p.length + 1) by omega]
    rfl
/-- m writes, one of each of two sectors in turns -/
def wr2 (m : Nat) : List (Nat × List UInt8) := (List.range m).map fun i => (i % 2, secFill (UInt8.ofNat (1 + i)) [])
theorem wr2_succ (m : Nat) : wr2 (m + 1) = wr2 m ++ [(m % 2, secFill (UInt8.ofNat (1 + m)) [])] := by simp [wr2, List.range_succ]
theorem wr2_length (m : Nat) : (wr2 m).length = m := by simp [wr2]
theorem secFill_getD (x : UInt8) (o : Nat) (h : o < 512) : (secFill x []).getD o 0 = x := by
  have := secFill_at x [] o h
  rw [List.getD_eq_getElem?_getD, this]
  simp
def leftAt (l : Loss) (i : Nat) : Nat → UInt8
  | 0 => 0
  | m + 1 => if m % 2 = i / 512 ∧ i % 512 < remains l m then UInt8.ofNat (1 + m) else leftAt l i m
theorem foldAt_wr2 (l : Loss) (i : Nat) : ∀ m, foldAt l i 0 0 (wr2 m) = leftAt l i m
  | 0 => rfl
  | m + 1 => by
    rw [wr2_succ, foldAt_append, foldAt_wr2 l i m, wr2_length, Nat.zero_add]
    show (if m % 2 = i / 512 ∧ i % 512 < remains l m then (secFill (UInt8.ofNat (1 + m)) []).getD (i % 512) 0 else leftAt l i m) = _
    rw [secFill_getD _ _ (Nat.mod_lt _ (by omega))]
    rfl
def devW (m : Nat) : Dev := { Dev.fresh (zrs (4 * 512)) with pend := wr2 m, calls := m }
theorem devW_zero : devW 0 = Dev.fresh (zrs (4 * 512)) := rfl
theorem devW_write (m : Nat) (hm : m ≤ 1000) : (devW m).write ((m % 2 : Nat) : Int) (secFill (UInt8.ofNat (1 + m)) []) = (devW (m + 1), 0) := by
  have h1 : (devW m).asked ((m % 2 : Nat) : Int) = 0 := by
    have h2 : (devW m).n = 4 := by simp [Dev.n, devW, Dev.fresh, zrs_length]
    unfold Dev.asked
    rw [h2]
    have h3 : (devW m).down = false := rfl
    rw [h3, if_neg (by simp), if_neg (by omega)]
  unfold Dev.write
  rw [h1, if_neg (by simp), if_neg (by rw [secFill_length]; simp)]
  show (if false = true then _ else _) = _
  rw [if_neg (by simp), Prod.mk.injEq]
  refine ⟨?_, rfl⟩
  unfold Dev.count devW
  rw [wr2_succ]
  simp [Dev.fresh, wrap64]
  omega
theorem devW_ok (m : Nat) (hm : m ≤ 1000) : (devW m).ok :=
  ⟨⟨4, by simp [devW, Dev.fresh, zrs_length], by omega, by omega⟩, fun p hp => by
    simp only [devW, wr2, List.mem_map, List.mem_range] at hp
    obtain ⟨i, _, rfl⟩ := hp
    exact ⟨by simp [devW, Dev.fresh, zrs_length]; omega, secFill_length _ _⟩, by simp [devW, Dev.fresh], by simp [devW, Dev.fresh], by simp [devW, Dev.fresh], by simp [devW, Dev.fresh], by simp [devW]; omega⟩
theorem loss_at (l : Loss) (m i : Nat) (hm : m ≤ 1000) (hi : i < 2048) : (((devW m).crash l).1.img)[i]? = some (leftAt l i m) := by
  have e : ((devW m).crash l).1.img = fallFrom l 0 (zrs (4 * 512)) (wr2 m) := rfl
  rw [e, ← foldAt_wr2]
  refine fallFrom_at l i 0 _ _ 0 (fun p hp => (devW_ok m hm).pend p hp) ?_
  exact zrs_at _ _ (by omega)
theorem val_none (i : Nat) (l : Loss) : ∀ m, (∀ j, j < m → remains l j = 0) → leftAt l i m = 0
  | 0, _ => rfl
  | m + 1, h => by
    unfold leftAt
    rw [h m (by omega), if_neg (by omega)]
    exact val_none i l m fun j hj => h j (by omega)
theorem val_one (i : Nat) (l : Loss) (k c : Nat) : ∀ m, (∀ j, j < m → remains l j = if j = k then c else 0) → leftAt l i m = if k < m ∧ k % 2 = i / 512 ∧ i % 512 < c then UInt8.ofNat (1 + k) else 0
  | 0, _ => by simp [leftAt]
  | m + 1, h => by
    unfold leftAt
    rw [h m (by omega), val_one i l k c m fun j hj => h j (by omega)]
    by_cases hk : m = k
    · subst hk
      rw [if_pos rfl]
      by_cases h2 : m % 2 = i / 512 ∧ i % 512 < c
      · rw [if_pos h2, if_pos ⟨by omega, h2⟩]
      · rw [if_neg h2, if_neg (by omega), if_neg (by omega)]
    · rw [if_neg hk, if_neg (by omega)]
      by_cases h2 : k < m ∧ k % 2 = i / 512 ∧ i % 512 < c
      · rw [if_pos h2, if_pos (by omega)]
      · rw [if_neg h2, if_neg (by omega)]
theorem val_all (i : Nat) (l : Loss) : ∀ m, (∀ j, j < m → remains l j = 512) → leftAt l i m = if 0 < m ∧ (m - 1) % 2 = i / 512 then UInt8.ofNat m else if 1 < m ∧ m % 2 = i / 512 then UInt8.ofNat (m - 1) else 0
  | 0, _ => by simp [leftAt]
  | m + 1, h => by
    unfold leftAt
    rw [h m (by omega), val_all i l m fun j hj => h j (by omega)]
    have hi : i % 512 < 512 := Nat.mod_lt _ (by omega)
    by_cases h1 : m % 2 = i / 512
    · rw [if_pos ⟨h1, hi⟩, if_pos ⟨by omega, by omega⟩, Nat.add_comm]
    · rw [if_neg (by omega), if_neg (c := 0 < m + 1 ∧ _) (by omega)]
      by_cases h2 : 0 < m ∧ (m - 1) % 2 = i / 512
      · rw [if_pos h2, if_pos (by omega)]; rfl
      · rw [if_neg h2, if_neg (by omega), if_neg (by omega)]
/-- what the law awaits of byte i -/
def expB (three : Bool) (a0 a1 : UInt8) (k cut i : Nat) : UInt8 :=
  if three = true ∧ i / 512 = k % 2 ∧ i % 512 < cut then UInt8.ofNat (1 + k) else if i < 512 then a0 else if i < 1024 then a1 else 0
theorem turn0 (m k i : Nat) : leftAt ⟨[], -1, 0⟩ i m = expB false 0 0 k 0 i := by
  rw [val_none i _ m fun j _ => by simp [remains, kept]]
  simp [expB]
theorem turn1 (m k i : Nat) (h0 : 1 ≤ m) (hm : m ≤ 100) (hi : i < 2048) : leftAt ⟨[18446744073709551615, 18446744073709551615], -1, 0⟩ i m =
    expB false (if (m - 1) % 2 = 0 then UInt8.ofNat m else if 1 < m then UInt8.ofNat (m - 1) else 0) (if (m - 1) % 2 = 1 then UInt8.ofNat m else if 1 < m then UInt8.ofNat (m - 1) else 0) k 0 i := by
  rw [val_all i _ m fun j hj => by simp [remains, kept_ones j (by omega)]]
  unfold expB
  grind
theorem turn2 (m k i : Nat) (hk : k < m) (hm : m ≤ 100) : leftAt ⟨bitKeep k, -1, 0⟩ i m = expB false (if k % 2 = 0 then UInt8.ofNat (1 + k) else 0) (if k % 2 = 1 then UInt8.ofNat (1 + k) else 0) k 0 i := by
  rw [val_one i _ k 512 m fun j hj => by
    unfold remains
    rw [kept_bit1 k (by omega) j (by omega)]
    by_cases h : j = k
    · simp [h]
    · have : (j == k) = false := by simpa using h
      rw [this]; simp [h]]
  unfold expB
  grind
theorem turn3 (m k i : Nat) (n : Int) (hk : k < m) : leftAt ⟨[], k, n⟩ i m = expB true 0 0 k (min (max n 0) 512).toNat i := by
  rw [val_one i _ k (min (max n 0) 512).toNat m fun j hj => by
    unfold remains
    by_cases h : j = k
    · subst h; simp [kept]
    · have h2 : ¬ ((j : Int) = (k : Int)) := by omega
      simp [kept, h, h2]]
  unfold expB
  generalize (min (max n 0) 512).toNat = c
  grind
end Go.Le
