/- A disk that gives nothing up: what Open and Clear make of it, sector by sector. No program in sight. -/
import Derived.Test.YtpaebopmppbjbaaGreatDoorWalP
set_option linter.unusedVariables false
set_option linter.unusedSimpArgs false
namespace Go.Le
open Go Go.RowKit
set_option maxRecDepth 20000
theorem calm_put_sec (img : List UInt8) (p : Nat × List UInt8) (r k : Nat) (h : p.1 * 512 + 512 ≤ img.length) (hp : p.2.length = 512) (hr : r ≤ 512) (hk : k * 512 + 512 ≤ img.length) :
    sec (put img p r) k = if p.1 = k then p.2.take r ++ (sec img k).drop r else sec img k := by
  have hl : (p.2.take r).length = r := by rw [List.length_take]; omega
  apply List.ext_getElem?
  intro i
  have hsec : ∀ l : List UInt8, (sec l k)[i]? = if i < 512 then l[k * 512 + i]? else none := by
    intro l
    unfold sec
    rw [List.getElem?_take]
    split
    · rw [List.getElem?_drop]
    · rfl
  rw [hsec]
  have hput : ∀ m, (put img p r)[m]? = if m < p.1 * 512 then img[m]? else if m < p.1 * 512 + r then p.2[m - p.1 * 512]? else img[m]? := by
    intro m
    unfold put splice
    rw [hl]
    by_cases h1 : m < p.1 * 512
    · rw [List.getElem?_append_left (by rw [List.length_take]; omega), List.getElem?_take, if_pos h1, if_pos h1]
    · rw [List.getElem?_append_right (by rw [List.length_take]; omega), List.length_take, Nat.min_eq_left (by omega), if_neg h1]
      by_cases h2 : m < p.1 * 512 + r
      · rw [List.getElem?_append_left (by rw [hl]; omega), List.getElem?_take, if_pos (by omega), if_pos h2]
      · rw [List.getElem?_append_right (by rw [hl]; omega), hl, List.getElem?_drop, if_neg h2]
        congr 1
        omega
  rw [hput]
  by_cases hi : i < 512
  · rw [if_pos hi]
    by_cases hpk : p.1 = k
    · rw [if_pos hpk, if_neg (by omega)]
      by_cases hir : i < r
      · rw [if_pos (by omega), List.getElem?_append_left (by rw [hl]; omega), List.getElem?_take, if_pos hir]
        congr 1
        omega
      · rw [if_neg (by omega), List.getElem?_append_right (by rw [hl]; omega), hl, List.getElem?_drop]
        have e : r + (i - r) = i := by omega
        rw [e, hsec, if_pos hi]
    · rw [if_neg hpk, hsec, if_pos hi]
      by_cases h1 : k * 512 + i < p.1 * 512
      · rw [if_pos h1]
      · rw [if_neg h1, if_neg (by omega)]
  · rw [if_neg hi]
    have hs : (sec img k).length = 512 := sec_length hk
    split
    · rw [List.getElem?_eq_none]
      rw [List.length_append, hl, List.length_drop, hs]
      omega
    · rw [List.getElem?_eq_none (by omega)]
theorem calm_flushed_sec (k : Nat) : ∀ (pend : List (Nat × List UInt8)) (img : List UInt8), (∀ p ∈ pend, p.1 * 512 + 512 ≤ img.length ∧ p.2.length = 512) → k * 512 + 512 ≤ img.length → sec (flushed img pend) k = lastOf k (sec img k) pend
  | [], _, _, _ => rfl
  | p :: r, img, h, hk => by
    have h1 := h p (by simp)
    have h2 := put_length img p 512 h1.1 h1.2
    show sec (flushed (put img p 512) r) k = lastOf k (if p.1 = k then p.2 else sec img k) r
    rw [calm_flushed_sec k r _ (fun q hq => by rw [h2]; exact h q (by simp [hq])) (by rw [h2]; exact hk), calm_put_sec img p 512 k h1.1 h1.2 (by omega) hk]
    congr 1
    split
    · rw [List.take_of_length_le (by omega), List.drop_of_length_le (by rw [sec_length hk]; exact Nat.le_refl _), List.append_nil]
    · rfl

structure Calm (D : Dev) (n : Nat) : Prop where
  ok : D.ok
  img : D.img.length = n * 512
  down : D.down = false
  armed : D.armed = 0
theorem Calm.n {D : Dev} {n : Nat} (h : Calm D n) : D.n = n := by unfold Dev.n; rw [h.img]; omega
theorem Calm.asked {D : Dev} {n : Nat} (h : Calm D n) (i : Nat) (hi : i < n) : D.asked (i : Int) = 0 := by
  unfold Dev.asked
  rw [h.down, h.n, if_neg (by simp), if_neg (by omega)]
theorem Calm.len {D : Dev} {n : Nat} (h : Calm D n) (i : Nat) (hi : i < n) : (D.last i).length = 512 := Dev.last_length h.ok (by rw [h.n]; exact hi)
theorem Calm.read {D : Dev} {n : Nat} (h : Calm D n) (i : Nat) (hi : i < n) : ioRead i D = (.ok (D.last i), D) := by
  unfold ioRead
  rw [if_pos (h.asked i hi)]
theorem Calm.write {D : Dev} {n : Nat} (h : Calm D n) (i : Nat) (hi : i < n) (b : List UInt8) (hb : b.length = 512) :
    ∃ D', ioWrite i b D = (.ok (), D') ∧ Calm D' n ∧ ∀ j, D'.last j = if j = i then b else D.last j := by
  have e : D.write i b = (({ D with pend := D.pend ++ [(i, b)] } : Dev).count, 0) := by
    unfold Dev.write
    rw [h.asked i hi, if_neg (by simp), if_neg (by omega)]
    have hf : ({ D with pend := D.pend ++ [((i : Int).toNat, b)] } : Dev).fires = false := by simp [Dev.fires, h.armed]
    show (if ({ D with pend := D.pend ++ [((i : Int).toNat, b)] } : Dev).fires = true then _ else _) = _
    rw [hf]
    rfl
  refine ⟨_, by unfold ioWrite; rw [e]; rfl, ⟨Dev.count_ok (Dev.push_ok h.ok (by rw [h.n]; exact hi) hb), h.img, h.down, ?_⟩, fun j => ?_⟩
  · show (if D.armed = 0 then (0 : Int) else _) = 0
    rw [if_pos h.armed]
  · show lastOf j (sec D.img j) (D.pend ++ [(i, b)]) = _
    unfold lastOf
    rw [List.foldl_append]
    show (if i = j then b else _) = _
    by_cases hj : j = i
    · rw [if_pos hj.symm, if_pos hj]
    · rw [if_neg (fun e => hj e.symm), if_neg hj]
      rfl
theorem Calm.flush {D : Dev} {n : Nat} (h : Calm D n) : ∃ D', ioFlush D = (.ok (), D') ∧ Calm D' n ∧ D'.pend = [] ∧ ∀ j, j < n → D'.last j = D.last j := by
  have hf : D.fires = false := by simp [Dev.fires, h.armed]
  have e : D.flush = ({ D.count with img := flushed D.img D.pend, pend := [] }, 0) := by
    unfold Dev.flush
    rw [h.down, hf]
    simp
  refine ⟨_, by unfold ioFlush; rw [e]; rfl, ⟨flushed_ok h.ok, ?_, h.down, ?_⟩, rfl, fun j hj => calm_flushed_sec j D.pend D.img h.ok.pend (by rw [h.img]; omega)⟩
  · show (flushed D.img D.pend).length = _
    rw [flushed_length D.pend D.img h.ok.pend, h.img]
  · show (if D.armed = 0 then (0 : Int) else _) = 0
    rw [if_pos h.armed]
theorem allZero_eq {b : List UInt8} (h : allZero b = true) (hl : b.length = 512) : b = sect0 := by
  apply List.ext_getElem?
  intro i
  have hs : sect0.length = 512 := zrs_length 512
  by_cases hi : i < 512
  · have := List.all_eq_true.1 h b[i] (List.getElem_mem (by omega))
    simp only [beq_iff_eq] at this
    rw [show sect0[i]? = some 0 from zrs_at 512 i hi, List.getElem?_eq_getElem (by omega), this]
  · rw [List.getElem?_eq_none (by omega), List.getElem?_eq_none (by omega)]
theorem Calm.wipe {n : Nat} : ∀ (l : List Nat) (D : Dev) (s : Bool), Calm D n → (∀ i ∈ l, i < n) → ∃ D' s', ioWipe s l D = (.ok s', D') ∧ Calm D' n ∧ (∀ j, D'.last j = if j ∈ l then sect0 else D.last j) ∧ (s' = false → D' = D) ∧ (s = true → s' = true)
  | [], D, s, h, _ => ⟨D, s, rfl, h, fun j => by simp, fun _ => rfl, fun e => e⟩
  | i :: r, D, s, h, hl => by
    have hi := hl i (by simp)
    have hr := h.read i hi
    have e : ioWipe s (i :: r) D = (if allZero (D.last i) then ioWipe s r else (ioWrite i sect0).and fun _ => ioWipe true r) D := by
      show ((ioRead i).and _) D = _
      rw [Io.and_ok hr]
    rw [e]
    by_cases hz : allZero (D.last i) = true
    · rw [if_pos hz]
      obtain ⟨D', s', h1, h2, h3, h4, h5⟩ := Calm.wipe r D s h (fun x hx => hl x (by simp [hx]))
      refine ⟨D', s', h1, h2, fun j => ?_, h4, h5⟩
      rw [h3 j]
      by_cases hj : j ∈ r
      · rw [if_pos hj, if_pos (by simp [hj])]
      · rw [if_neg hj]
        by_cases hji : j = i
        · subst hji
          rw [if_pos (by simp)]
          exact allZero_eq hz (h.len j hi)
        · rw [if_neg (by simp [hj, hji])]
    · rw [if_neg hz]
      obtain ⟨D1, w1, w2, w3⟩ := h.write i hi sect0 (zrs_length 512)
      rw [Io.and_ok w1]
      obtain ⟨D', s', h1, h2, h3, h4, h5⟩ := Calm.wipe r D1 true w2 (fun x hx => hl x (by simp [hx]))
      refine ⟨D', s', h1, h2, fun j => ?_, fun e => ?_, fun _ => h5 rfl⟩
      · rw [h3 j, w3 j]
        by_cases hj : j ∈ r
        · rw [if_pos hj, if_pos (by simp [hj])]
        · rw [if_neg hj]
          by_cases hji : j = i
          · rw [if_pos hji, if_pos (by simp [hji])]
          · rw [if_neg hji, if_neg (by simp [hj, hji])]
      · rw [h5 rfl] at e
        cases e
theorem Calm.wiped {n : Nat} {D : Dev} (h : Calm D n) (l : List Nat) (hl : ∀ i ∈ l, i < n) : ∃ D', ioWiped l D = (.ok (), D') ∧ Calm D' n ∧ (D.pend = [] → D'.pend = []) ∧ ∀ j, j < n → D'.last j = if j ∈ l then sect0 else D.last j := by
  obtain ⟨D1, s, h1, h2, h3, h4, -⟩ := Calm.wipe l D false h hl
  unfold ioWiped
  rw [Io.and_ok h1]
  cases s with
  | false =>
    have := h4 rfl
    subst this
    exact ⟨_, rfl, h2, fun e => e, fun j _ => h3 j⟩
  | true =>
    obtain ⟨D2, f1, f2, f3, f4⟩ := h2.flush
    exact ⟨D2, f1, f2, fun _ => f3, fun j hj => by rw [f4 j hj, h3 j]⟩
/-- what stands in sector j behind a redo -/
def redoAt (p : Nat) (l : List Nat) (f : Nat → List UInt8) (j : Nat) : List UInt8 := if 2 * p + 1 ≤ j ∧ j < 4 * p + 1 ∧ (j - (2 * p + 1)) / 2 ∈ l then f (j - 2 * p) else f j
theorem Calm.copy {n p x k : Nat} {D : Dev} (h : Calm D n) (hx : x < p) (hk : k < 2) (hn : 4 * p + 1 ≤ n) : ∃ D', ioCopy p x k D = (.ok (), D') ∧ Calm D' n ∧ ∀ j, D'.last j = if j = homeOf p x + k then D.last (slotOf x + k) else D.last j := by
  have h1 : slotOf x + k < n := by unfold slotOf; omega
  have h2 : homeOf p x + k < n := by unfold homeOf; omega
  unfold ioCopy
  rw [Io.and_ok (h.read _ h1)]
  exact h.write _ h2 _ (h.len _ h1)
theorem Calm.redo {n p : Nat} (hn : 4 * p + 1 ≤ n) : ∀ (l : List Nat) (D : Dev), Calm D n → (∀ x ∈ l, x < p) → ∃ D', ioRedo p l D = (.ok (), D') ∧ Calm D' n ∧ ∀ j, D'.last j = redoAt p l D.last j
  | [], D, h, _ => ⟨D, rfl, h, fun j => by unfold redoAt; rw [if_neg (by simp)]⟩
  | x :: r, D, h, hl => by
    have hx := hl x (by simp)
    obtain ⟨D1, a1, a2, a3⟩ := h.copy (k := 0) hx (by omega) hn
    obtain ⟨D2, b1, b2, b3⟩ := a2.copy (k := 1) hx (by omega) hn
    obtain ⟨D', h1, h2, h3⟩ := Calm.redo hn r D2 b2 (fun y hy => hl y (by simp [hy]))
    refine ⟨D', ?_, h2, fun j => ?_⟩
    · show ((ioCopy p x 0).and _) D = _
      rw [Io.and_ok a1]
      show ((ioCopy p x 1).and _) D1 = _
      rw [Io.and_ok b1]
      exact h1
    · have hs : ∀ i, i < 2 * p + 1 → D2.last i = D.last i := by
        intro i hi
        rw [b3, if_neg (by unfold homeOf; omega), a3, if_neg (by unfold homeOf; omega)]
      have hq : slotOf x + 1 < 2 * p + 1 := by unfold slotOf; omega
      rw [h3 j]
      unfold redoAt
      by_cases hj : 2 * p + 1 ≤ j ∧ j < 4 * p + 1 ∧ (j - (2 * p + 1)) / 2 ∈ r
      · rw [if_pos hj, if_pos ⟨hj.1, hj.2.1, by simp [hj.2.2]⟩]
        exact hs _ (by omega)
      · rw [if_neg hj]
        by_cases hj2 : 2 * p + 1 ≤ j ∧ j < 4 * p + 1 ∧ (j - (2 * p + 1)) / 2 = x
        · rw [if_pos ⟨hj2.1, hj2.2.1, by simp [hj2.2.2]⟩]
          obtain ⟨c1, c2, c3⟩ := hj2
          have : j = homeOf p x ∨ j = homeOf p x + 1 := by unfold homeOf; omega
          rcases this with e | e
          · rw [b3, if_neg (by omega), a3, if_pos (by omega)]
            congr 1
            unfold homeOf at e
            unfold slotOf
            omega
          · rw [b3, if_pos e, a3, if_neg (by unfold slotOf homeOf; omega)]
            congr 1
            unfold homeOf at e
            unfold slotOf
            omega
        · rw [if_neg (by
            rintro ⟨c1, c2, c3⟩
            rcases List.mem_cons.1 c3 with c3 | c3
            · exact hj2 ⟨c1, c2, c3⟩
            · exact hj ⟨c1, c2, c3⟩)]
          have h5 : j ≠ homeOf p x ∧ j ≠ homeOf p x + 1 := by
            constructor
            · intro e; apply hj2; unfold homeOf at e; omega
            · intro e; apply hj2; unfold homeOf at e; omega
          rw [b3, if_neg h5.2, a3, if_neg (by omega)]
theorem Calm.falls {n : Nat} {D : Dev} (h : Calm D n) (h0 : 0 < n) (m : List UInt8) (hm : m.length = 512) : ∃ D', ioFalls m D = (.ok (), D') ∧ Calm D' n ∧ D'.pend = [] ∧ ∀ j, j < n → D'.last j = if j = 0 then m.set 511 0 else D.last j := by
  obtain ⟨D1, a1, a2, a3⟩ := h.write 0 h0 (m.set 511 0) (by rw [List.length_set]; exact hm)
  obtain ⟨D2, b1, b2, b3, b4⟩ := a2.flush
  refine ⟨D2, ?_, b2, b3, fun j hj => by rw [b4 j hj, a3 j]⟩
  unfold ioFalls
  rw [Io.and_ok a1]
  exact b1
theorem Calm.begun {n p : Nat} {D : Dev} (h : Calm D n) (hp : roomOf n = p) (hp0 : p ≠ 0) (hpd : D.pend = []) : ioBegun D = (.ok p, D) := by
  unfold ioBegun
  rw [h.down, h.n, hp, if_neg (by simp), if_neg hp0, if_pos hpd]
theorem mem_runOf (lo hi j : Nat) : j ∈ runOf lo hi ↔ lo ≤ j ∧ j < hi := by
  unfold runOf
  rw [List.mem_range'_1]
  omega
theorem Calm.open_fallen {n p : Nat} {D : Dev} (h : Calm D n) (hp : roomOf n = p) (hp0 : p ≠ 0) (hn : 4 * p + 1 ≤ n) (hpd : D.pend = []) (hm : (D.last 0).getD 511 0 = 0) :
    ∃ D', ioOpen D = (.ok (p, false), D') ∧ Calm D' n ∧ D'.pend = [] ∧ ∀ j, j < n → D'.last j = if j < 2 * p + 1 then sect0 else D.last j := by
  obtain ⟨D', a1, a2, a3, a4⟩ := h.wiped (runOf 0 (2 * p + 1)) (fun i hi => by have := (mem_runOf _ _ _).1 hi; omega)
  have e2 : ioAgain p D = (.ok false, D) := by
    unfold ioAgain
    rw [Io.and_ok (h.read 0 (by omega))]
    unfold marked
    rw [if_pos hm]
    rfl
  refine ⟨D', ?_, a2, a3 hpd, fun j hj => ?_⟩
  · unfold ioOpen
    rw [Io.and_ok (h.begun hp hp0 hpd), Io.and_ok e2, Io.and_ok a1]
    rfl
  · rw [a4 j hj]
    by_cases hl : j < 2 * p + 1
    · rw [if_pos hl, if_pos ((mem_runOf _ _ _).2 ⟨by omega, hl⟩)]
    · rw [if_neg hl, if_neg (by rw [mem_runOf]; omega)]
theorem Calm.clear {n p : Nat} {D : Dev} (h : Calm D n) (hp : roomOf n = p) (hp0 : p ≠ 0) (hn : 4 * p + 1 ≤ n) (hpd : D.pend = []) :
    ∃ D', ioClear D = (.ok (), D') ∧ Calm D' n ∧ D'.pend = [] ∧ ∀ j, j < n → D'.last j = if j < 2 * p + 1 ∨ 4 * p + 1 ≤ j then sect0 else D.last j := by
  obtain ⟨D1, e1, e2, e3, e4⟩ : ∃ D1, (if (D.last 0).getD 511 0 = 0 then Io.ret () else ioFalls (D.last 0)) D = (.ok (), D1) ∧ Calm D1 n ∧ D1.pend = [] ∧ ∀ j, j < n → j ≠ 0 → D1.last j = D.last j := by
    by_cases hm : (D.last 0).getD 511 0 = 0
    · rw [if_pos hm]
      exact ⟨D, rfl, h, hpd, fun _ _ _ => rfl⟩
    · rw [if_neg hm]
      obtain ⟨D3, g1, g2, g3, g4⟩ := h.falls (by omega) (D.last 0) (h.len 0 (by omega))
      exact ⟨D3, g1, g2, g3, fun j hj h0 => by rw [g4 j hj, if_neg h0]⟩
  obtain ⟨D', a1, a2, a3, a4⟩ := e2.wiped (runOf 0 (2 * p + 1) ++ runOf (4 * p + 1) n) (fun i hi => by
    rcases List.mem_append.1 hi with hi | hi
    · have := (mem_runOf _ _ _).1 hi; omega
    · exact ((mem_runOf _ _ _).1 hi).2)
  refine ⟨D', ?_, a2, a3 e3, fun j hj => ?_⟩
  · unfold ioClear
    rw [Io.and_ok (h.begun hp hp0 hpd), Io.and_ok (h.read 0 (by omega)), Io.and_ok e1]
    have en : ioN D1 = (.ok n, D1) := by unfold ioN; rw [e2.n]
    rw [Io.and_ok en]
    exact a1
  · rw [a4 j hj]
    by_cases hlj : j < 2 * p + 1 ∨ 4 * p + 1 ≤ j
    · rw [if_pos hlj, if_pos (by
        rw [List.mem_append, mem_runOf, mem_runOf]
        rcases hlj with h | h
        · exact .inl ⟨by omega, h⟩
        · exact .inr ⟨h, hj⟩)]
    · rw [if_neg hlj, if_neg (by rw [List.mem_append, mem_runOf, mem_runOf]; omega), e4 j hj (by omega)]
/-- two images of as many sectors, that are the same sector by sector -/
theorem img_ext {a b : List UInt8} (n : Nat) (ha : a.length = n * 512) (hb : b.length = n * 512) (h : ∀ j, j < n → sec a j = sec b j) : a = b := by
  apply List.ext_getElem?
  intro i
  by_cases hi : i < n * 512
  · have h1 := h (i / 512) (by omega)
    have hsec : ∀ l : List UInt8, (sec l (i / 512))[i % 512]? = l[i]? := by
      intro l
      unfold sec
      rw [List.getElem?_take, if_pos (Nat.mod_lt _ (by omega)), List.getElem?_drop]
      congr 1
      omega
    rw [← hsec a, ← hsec b, h1]
  · rw [List.getElem?_eq_none (by omega), List.getElem?_eq_none (by omega)]
theorem Calm.img_eq {D : Dev} {n : Nat} (h : Calm D n) (hp : D.pend = []) (j : Nat) : D.last j = sec D.img j := by
  unfold Dev.last
  rw [hp]
  rfl
end Go.Le
