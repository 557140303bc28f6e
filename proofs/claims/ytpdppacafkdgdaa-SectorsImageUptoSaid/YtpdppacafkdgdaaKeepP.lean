/- SectorsKeep, the plain law: what stands in a sector behind a flush, behind a crash. -/
import Derived.Test.YtpdppacafkdgdaaLw3
set_option linter.unusedVariables false
set_option linter.unusedSimpArgs false
namespace Go.Le
open Go Go.RowKit
set_option maxRecDepth 20000
theorem put_sec (img : List UInt8) (p : Nat × List UInt8) (r k : Nat) (h : p.1 * 512 + 512 ≤ img.length) (hp : p.2.length = 512) (hr : r ≤ 512) (hk : k * 512 + 512 ≤ img.length) :
    sec (put img p r) k = if p.1 = k then p.2.take r ++ (sec img k).drop r else sec img k := by
  have hl : (p.2.take r).length = r := by rw [List.length_take]; omega
  apply List.ext_getElem?
  intro i
  have hsec : ∀ l : List UInt8, (sec l k)[i]? = if i < 512 then l[k * 512 + i]? else none := by
    intro l
    unfold sec
    rw [List.getElem?_take]
    split
    · rw [List.getElem?_drop]
    · rfl
  rw [hsec]
  have hput : ∀ m, (put img p r)[m]? = if m < p.1 * 512 then img[m]? else if m < p.1 * 512 + r then p.2[m - p.1 * 512]? else img[m]? := by
    intro m
    unfold put splice
    rw [hl]
    by_cases h1 : m < p.1 * 512
    · rw [List.getElem?_append_left (by rw [List.length_take]; omega), List.getElem?_take, if_pos h1, if_pos h1]
    · rw [List.getElem?_append_right (by rw [List.length_take]; omega), List.length_take, Nat.min_eq_left (by omega), if_neg h1]
      by_cases h2 : m < p.1 * 512 + r
      · rw [List.getElem?_append_left (by rw [hl]; omega), List.getElem?_take, if_pos (by omega), if_pos h2]
      · rw [List.getElem?_append_right (by rw [hl]; omega), hl, List.getElem?_drop, if_neg h2]
        congr 1
        omega
  rw [hput]
  by_cases hi : i < 512
  · rw [if_pos hi]
    by_cases hpk : p.1 = k
    · rw [if_pos hpk, if_neg (by omega)]
      by_cases hir : i < r
      · rw [if_pos (by omega), List.getElem?_append_left (by rw [hl]; omega), List.getElem?_take, if_pos hir]
        congr 1
        omega
      · rw [if_neg (by omega), List.getElem?_append_right (by rw [hl]; omega), hl, List.getElem?_drop]
        have e : r + (i - r) = i := by omega
        rw [e, hsec, if_pos hi]
    · rw [if_neg hpk, hsec, if_pos hi]
      by_cases h1 : k * 512 + i < p.1 * 512
      · rw [if_pos h1]
      · rw [if_neg h1, if_neg (by omega)]
  · rw [if_neg hi]
    have hs : (sec img k).length = 512 := sec_length hk
    split
    · rw [List.getElem?_eq_none]
      rw [List.length_append, hl, List.length_drop, hs]
      omega
    · rw [List.getElem?_eq_none (by omega)]
theorem flushed_sec (k : Nat) : ∀ (pend : List (Nat × List UInt8)) (img : List UInt8), (∀ p ∈ pend, p.1 * 512 + 512 ≤ img.length ∧ p.2.length = 512) → k * 512 + 512 ≤ img.length → sec (flushed img pend) k = lastOf k (sec img k) pend
  | [], _, _, _ => rfl
  | p :: r, img, h, hk => by
    have h1 := h p (by simp)
    have h2 := put_length img p 512 h1.1 h1.2
    show sec (flushed (put img p 512) r) k = lastOf k (if p.1 = k then p.2 else sec img k) r
    rw [flushed_sec k r _ (fun q hq => by rw [h2]; exact h q (by simp [hq])) (by rw [h2]; exact hk), put_sec img p 512 k h1.1 h1.2 (by omega) hk]
    congr 1
    split
    · rw [List.take_of_length_le (by omega), List.drop_of_length_le (by rw [sec_length hk]; exact Nat.le_refl _), List.append_nil]
    · rfl
/-- what a sector may hold: the image's bytes, or a write's -/
def allOf (i : Nat) (b : List UInt8) (pend : List (Nat × List UInt8)) : List (List UInt8) := b :: (pend.filter fun p => p.1 = i).map (·.2)
theorem allOf_cons (i : Nat) (b : List UInt8) (p : Nat × List UInt8) (r : List (Nat × List UInt8)) (x : List UInt8) (hx : x ∈ allOf i (if p.1 = i then p.2 else b) r) : x ∈ allOf i b (p :: r) := by
  unfold allOf at hx ⊢
  by_cases h : p.1 = i
  · rw [if_pos h] at hx
    simp only [List.mem_cons] at hx ⊢
    rw [List.filter_cons_of_pos (by simpa using h)]
    simp only [List.map_cons, List.mem_cons]
    rcases hx with rfl | hx
    · exact .inr (.inl rfl)
    · exact .inr (.inr hx)
  · rw [if_neg h] at hx
    rw [List.filter_cons_of_neg (by simpa using h)]
    exact hx
/-- no torn write of this sector: it is whole -/
theorem fall_whole (l : Loss) (k : Nat) : ∀ (pend : List (Nat × List UInt8)) (j : Nat) (img : List UInt8), (∀ p ∈ pend, p.1 * 512 + 512 ≤ img.length ∧ p.2.length = 512) → k * 512 + 512 ≤ img.length →
    (∀ m p, pend[m]? = some p → p.1 = k → ((j + m : Nat) : Int) ≠ l.torn) → sec (fallFrom l j img pend) k ∈ allOf k (sec img k) pend
  | [], _, _, _, _, _ => by simp [fallFrom, allOf]
  | p :: r, j, img, h, hk, ht => by
    have h1 := h p (by simp)
    have h2 := put_length img p (remains l j) h1.1 h1.2
    have ih := fall_whole l k r (j + 1) (put img p (remains l j)) (fun q hq => by rw [h2]; exact h q (by simp [hq])) (by rw [h2]; exact hk) (fun m q hm hq => by
      have := ht (m + 1) q (by simpa using hm) hq
      rw [show j + 1 + m = j + (m + 1) by omega]; exact this)
    rw [put_sec img p _ k h1.1 h1.2 (by unfold remains; split; omega; split <;> omega) hk] at ih
    unfold fallFrom
    by_cases hp : p.1 = k
    · rw [if_pos hp] at ih
      have hn := ht 0 p rfl hp
      by_cases hkp : kept l j = true
      · have hr : remains l j = 512 := by simp [remains, hkp]
        rw [hr] at ih ⊢
        rw [List.take_of_length_le (by omega), List.drop_of_length_le (by rw [sec_length hk]; exact Nat.le_refl _), List.append_nil] at ih
        exact allOf_cons k _ p r _ (by rw [if_pos hp]; exact ih)
      · have hr : remains l j = 0 := by
          have hkf : kept l j = false := by simpa using hkp
          simp only [Nat.add_zero] at hn
          simp [remains, hkf, hn]
        rw [hr] at ih ⊢
        rw [List.take_zero, List.drop_zero, List.nil_append] at ih
        unfold allOf at ih ⊢
        rw [List.filter_cons_of_pos (by simpa using hp)]
        simp only [List.map_cons, List.mem_cons] at ih ⊢
        rcases ih with h | h
        · exact .inl h
        · exact .inr (.inr h)
    · rw [if_neg hp] at ih
      exact allOf_cons k _ p r _ (by rw [if_neg hp]; exact ih)
/-- byte by byte, in any case -/
theorem fall_bytes (l : Loss) (k o : Nat) (ho : o < 512) : ∀ (pend : List (Nat × List UInt8)) (j : Nat) (img : List UInt8), (∀ p ∈ pend, p.1 * 512 + 512 ≤ img.length ∧ p.2.length = 512) → k * 512 + 512 ≤ img.length →
    ∃ x ∈ allOf k (sec img k) pend, x[o]? = (sec (fallFrom l j img pend) k)[o]?
  | [], j, img, _, _ => ⟨sec img k, by simp [allOf], rfl⟩
  | p :: r, j, img, h, hk => by
    have h1 := h p (by simp)
    have h2 := put_length img p (remains l j) h1.1 h1.2
    obtain ⟨x, hx, hxo⟩ := fall_bytes l k o ho r (j + 1) (put img p (remains l j)) (fun q hq => by rw [h2]; exact h q (by simp [hq])) (by rw [h2]; exact hk)
    have hrl : remains l j ≤ 512 := by unfold remains; split; omega; split <;> omega
    rw [put_sec img p _ k h1.1 h1.2 hrl hk] at hx
    unfold fallFrom
    by_cases hp : p.1 = k
    · rw [if_pos hp] at hx
      unfold allOf at hx ⊢
      rw [List.filter_cons_of_pos (by simpa using hp)]
      simp only [List.map_cons, List.mem_cons] at hx ⊢
      rcases hx with rfl | hx
      · by_cases hlt : o < remains l j
        · refine ⟨p.2, .inr (.inl rfl), ?_⟩
          rw [← hxo, List.getElem?_append_left (by rw [List.length_take]; omega), List.getElem?_take, if_pos hlt]
        · refine ⟨sec img k, .inl rfl, ?_⟩
          rw [← hxo, List.getElem?_append_right (by rw [List.length_take]; omega), List.length_take, List.getElem?_drop, Nat.min_eq_left (by omega)]
          congr 1
          omega
      · exact ⟨x, .inr (.inr hx), hxo⟩
    · rw [if_neg hp] at hx
      refine ⟨x, allOf_cons k _ p r _ (by rw [if_neg hp]; exact hx), hxo⟩

/-- the book of a device -/
def secs (D : Dev) : List (List UInt8) := [sec D.img 0, sec D.img 1, sec D.img 2, sec D.img 3]
theorem secs_length (D : Dev) : (secs D).length = 4 := rfl
theorem secs_at (D : Dev) (i : Nat) (h : i < 4) : (secs D)[i]? = some (sec D.img i) := by
  have : i = 0 ∨ i = 1 ∨ i = 2 ∨ i = 3 := by omega
  rcases this with rfl | rfl | rfl | rfl <;> rfl
def lifeOf (D : Dev) : Life := ⟨D, secs D, D.pend⟩
/-- a device as the law's has it between its steps -/
structure Good (D : Dev) (N : Nat) : Prop where
  ok : D.ok
  img : D.img.length = 2048
  down : D.down = false
  armed : D.armed = 0
  pend : D.pend.length ≤ N
theorem Good.n {D : Dev} {N : Nat} (h : Good D N) : D.n = 4 := by unfold Dev.n; rw [h.img]
theorem sec_zrs (k : Nat) (h : k < 4) : sec (zrs (4 * 512)) k = z512 := by
  unfold sec zrs z512
  rw [List.drop_replicate, List.take_replicate]
  congr 1
  omega
theorem newLife_eq : newLife = lifeOf (Dev.fresh (zrs (4 * 512))) := by
  unfold newLife lifeOf secs
  have e : (Dev.fresh (zrs (4 * 512))).img = zrs (4 * 512) := rfl
  rw [e, sec_zrs 0 (by omega), sec_zrs 1 (by omega), sec_zrs 2 (by omega), sec_zrs 3 (by omega)]
  rfl
theorem good_new : Good (Dev.fresh (zrs (4 * 512))) 0 := ⟨fresh_ok _ 4 (zrs_length _) (by omega) (by omega), zrs_length _, rfl, rfl, by simp [Dev.fresh]⟩
theorem Good.flush {D : Dev} {N : Nat} (h : Good D N) : D.flush.2 = 0 ∧ Good D.flush.1 N ∧ D.flush.1.pend = [] ∧ ∀ k, k < 4 → sec D.flush.1.img k = lastOf k (sec D.img k) D.pend := by
  have hf : D.fires = false := by simp [Dev.fires, h.armed]
  have e : D.flush = ({ D.count with img := flushed D.img D.pend, pend := [] }, 0) := by
    unfold Dev.flush
    rw [h.down, hf]
    simp
  rw [e]
  refine ⟨rfl, ⟨flushed_ok h.ok, ?_, h.down, ?_, by simp⟩, rfl, fun k hk => flushed_sec k D.pend D.img h.ok.pend (by rw [h.img]; omega)⟩
  · show (flushed D.img D.pend).length = _
    rw [flushed_length D.pend D.img h.ok.pend, h.img]
  · show (if D.armed = 0 then (0 : Int) else _) = 0
    rw [if_pos h.armed]
theorem Good.write {D : Dev} {N : Nat} (h : Good D N) (i : Nat) (hi : i < 4) (b : List UInt8) (hb : b.length = 512) : (D.write i b).2 = 0 ∧ Good (D.write i b).1 (N + 1) ∧ (D.write i b).1.pend = D.pend ++ [(i, b)] ∧ (D.write i b).1.img = D.img := by
  have ha : D.asked (i : Int) = 0 := by
    unfold Dev.asked
    rw [h.down, h.n, if_neg (by simp), if_neg (by omega)]
  have e : D.write i b = (({ D with pend := D.pend ++ [(i, b)] } : Dev).count, 0) := by
    unfold Dev.write
    rw [ha, if_neg (by simp), if_neg (by omega)]
    have hf : ({ D with pend := D.pend ++ [((i : Int).toNat, b)] } : Dev).fires = false := by simp [Dev.fires, h.armed]
    show (if ({ D with pend := D.pend ++ [((i : Int).toNat, b)] } : Dev).fires = true then _ else _) = _
    rw [hf]
    rfl
  rw [e]
  refine ⟨rfl, ⟨Dev.count_ok (Dev.push_ok h.ok (by rw [h.n]; exact hi) hb), h.img, h.down, ?_, ?_⟩, rfl, rfl⟩
  · show (if D.armed = 0 then (0 : Int) else _) = 0
    rw [if_pos h.armed]
  · show (D.pend ++ [(i, b)]).length ≤ _
    rw [List.length_append]
    have := h.pend
    simp; omega
/-- behind a crash the device runs again -/
theorem Good.fallUp {D : Dev} {N : Nat} (hok : D.ok) (hi : D.img.length = 2048) (l : Loss) : Good (D.fall l).up N :=
  ⟨Dev.up_ok (Dev.fall_ok hok l), by show (fallFrom l 0 D.img D.pend).length = _; rw [fallFrom_length l 0 D.img D.pend hok.pend, hi], rfl, rfl, by simp [Dev.up, Dev.fall]⟩
end Go.Le
