import Derived.Test.YtpaebopmppbjbaaGreatDoorCalm
import Derived.Test.YtpaebopmppbjbaaGreatDoorGiveP
/- A disk that may give up: what is left of it, whatever is lost; calls of it, one behind the other. No program in sight. -/
set_option linter.unusedVariables false
set_option linter.unusedSimpArgs false
namespace Go.Le
open Go Go.RowKit
set_option maxRecDepth 20000
/-- what stands in each sector -/
abbrev SF := Nat → List UInt8
def secs (img : List UInt8) : SF := fun j => sec img j
/-- a write of b to sector i, of which r bytes are left -/
def upd (f : SF) (i : Nat) (b : List UInt8) (r : Nat) : SF := fun j => if j = i then b.take r ++ (f i).drop r else f j
theorem secs_put (img : List UInt8) (n : Nat) (hn : img.length = n * 512) (i : Nat) (b : List UInt8) (r : Nat) (hi : i < n) (hb : b.length = 512) (hr : r ≤ 512) : secs (put img (i, b) r) = upd (secs img) i b r := by
  funext j
  unfold secs upd
  by_cases hj : j < n
  · rw [calm_put_sec img (i, b) r j (by show i * 512 + 512 ≤ _; omega) hb hr (by omega)]
    by_cases h : j = i
    · subst h; simp
    · have h2 : ¬ i = j := fun e => h e.symm
      simp [h, h2]
  · have hl : (put img (i, b) r).length = img.length := put_length img (i, b) r (by show i * 512 + 512 ≤ _; omega) hb
    have hne : ¬ j = i := by omega
    have e1 : (put img (i, b) r).drop (j * 512) = [] := List.drop_eq_nil_of_le (by omega)
    have e2 : img.drop (j * 512) = [] := List.drop_eq_nil_of_le (by omega)
    simp [sec, hne, e1, e2]
theorem fallFrom_snoc (l : Loss) (p : Nat × List UInt8) : ∀ (pend : List (Nat × List UInt8)) (k : Nat) (img : List UInt8), fallFrom l k img (pend ++ [p]) = put (fallFrom l k img pend) p (remains l (k + pend.length))
  | [], k, img => rfl
  | q :: r, k, img => by
    show fallFrom l (k + 1) _ (r ++ [p]) = put (fallFrom l (k + 1) _ r) p _
    rw [fallFrom_snoc l p r (k + 1), List.length_cons, show k + 1 + r.length = k + (r.length + 1) by omega]
theorem remains_le' (l : Loss) (k : Nat) : remains l k ≤ 512 := by unfold remains; split; omega; split <;> omega
/-- nothing is lost -/
def lossNone (n : Nat) : Loss := ⟨List.replicate (n / 64 + 1) 18446744073709551615, 0, 0⟩
theorem ones_bit (r : Nat) (h : r < 64) : 18446744073709551615 / 2 ^ r % 2 = 1 := by
  have : ∀ r : Fin 64, 18446744073709551615 / 2 ^ r.val % 2 = 1 := by decide +kernel
  exact this ⟨r, h⟩
theorem remains_none (n k : Nat) (h : k < n) : remains (lossNone n) k = 512 := by
  unfold remains
  rw [if_pos]
  unfold kept lossNone
  have hl : k / 64 < n / 64 + 1 := by omega
  have hm : k % 64 < 64 := by omega
  simp only [List.length_replicate, hl, decide_true, Bool.true_and, beq_iff_eq]
  unfold List.getD
  rw [List.getElem?_replicate, if_pos hl]
  exact ones_bit _ hm
theorem fallFrom_none (n : Nat) : ∀ (pend : List (Nat × List UInt8)) (k : Nat) (img : List UInt8), k + pend.length ≤ n → fallFrom (lossNone n) k img pend = flushed img pend
  | [], k, img, _ => rfl
  | p :: r, k, img, h => by
    rw [List.length_cons] at h
    show fallFrom (lossNone n) (k + 1) (put img p (remains (lossNone n) k)) r = flushed (put img p 512) r
    rw [remains_none n k (by omega)]
    exact fallFrom_none n r (k + 1) _ (by omega)

/-- a disk that runs -/
structure Live (D : Dev) (n : Nat) : Prop where
  ok : D.ok
  img : D.img.length = n * 512
  down : D.down = false
/-- a disk that has given up -/
structure Fell (D : Dev) (n : Nat) : Prop where
  ok : D.ok
  img : D.img.length = n * 512
  down : D.down = true
  pend : D.pend = []
/-- whatever would be lost now: what is left is so -/
def Dev.Inv (D : Dev) (I : SF → Prop) : Prop := ∀ l, I (secs (fallFrom l 0 D.img D.pend))
/-- a write of b to sector i, torn anywhere, leaves it so -/
def Shut (I : SF → Prop) (i : Nat) (b : List UInt8) : Prop := ∀ f r, r ≤ 512 → I f → I (upd f i b r)
theorem Live.n {D : Dev} {n : Nat} (h : Live D n) : D.n = n := by unfold Dev.n; rw [h.img]; omega
theorem Live.asked {D : Dev} {n : Nat} (h : Live D n) (i : Nat) (hi : i < n) : D.asked (i : Int) = 0 := by
  unfold Dev.asked
  rw [h.down, h.n, if_neg (by simp), if_neg (by omega)]
theorem Live.len {D : Dev} {n : Nat} (h : Live D n) (i : Nat) (hi : i < n) : (D.last i).length = 512 := Dev.last_length h.ok (by rw [h.n]; exact hi)
theorem Live.read {D : Dev} {n : Nat} (h : Live D n) (i : Nat) (hi : i < n) : ioRead i D = (.ok (D.last i), D) := by
  unfold ioRead
  rw [if_pos (h.asked i hi)]
theorem Live.secs {D : Dev} (h : D.pend = []) : secs D.img = D.last := by
  funext j
  unfold Le.secs Dev.last
  rw [h]
  rfl
theorem Dev.Inv.of {D : Dev} (h : D.pend = []) {I : SF → Prop} (hI : I D.last) : D.Inv I := by
  intro l
  rw [h]
  show I (Le.secs D.img)
  rw [Live.secs h]
  exact hI
theorem Dev.Inv.mono {D : Dev} {I J : SF → Prop} (h : D.Inv I) (hIJ : ∀ f, I f → J f) : D.Inv J := fun l => hIJ _ (h l)
theorem Calm.live {D : Dev} {n : Nat} (h : Calm D n) : Live D n := ⟨h.ok, h.img, h.down⟩
theorem Fell.secs {D : Dev} {n : Nat} (h : Fell D n) : Le.secs D.img = D.last := Live.secs h.pend
/-- how often a disk that is armed may still be called -/
def Armed (D D' : Dev) (lo hi : Nat) : Prop := (D.armed = 0 ∧ D'.armed = 0) ∨ ∃ k : Nat, lo ≤ k ∧ k ≤ hi ∧ (k : Int) < D.armed ∧ D'.armed = D.armed - k
theorem Armed.refl (D : Dev) (h : D.ok) : Armed D D 0 0 := by
  by_cases h0 : D.armed = 0
  · exact .inl ⟨h0, h0⟩
  · exact .inr ⟨0, Nat.le_refl _, Nat.le_refl _, by have := h.armed.1; show (0 : Int) < _; omega, by simp⟩
theorem Armed.trans {D D1 D2 : Dev} {a b c d : Nat} (h : Armed D D1 a b) (k : Armed D1 D2 c d) : Armed D D2 (a + c) (b + d) := by
  rcases h with ⟨h1, h2⟩ | ⟨x, h1, h2, h3, h4⟩ <;> rcases k with ⟨k1, k2⟩ | ⟨y, k1, k2, k3, k4⟩
  · exact .inl ⟨h1, k2⟩
  · omega
  · omega
  · exact .inr ⟨x + y, by omega, by omega, by omega, by omega⟩
theorem Armed.mono {D D1 : Dev} {a b c d : Nat} (h : Armed D D1 a b) (h1 : c ≤ a) (h2 : b ≤ d) : Armed D D1 c d := by
  rcases h with h | ⟨x, q1, q2, q3, q4⟩
  · exact .inl h
  · exact .inr ⟨x, by omega, by omega, q3, q4⟩
/-- m, from D: it answers so behind lo to hi changing calls, or the disk has given up at one of these, and what is left is so -/
def Io.Runs {α : Type} (n : Nat) (m : Io α) (lo hi : Nat) (I : SF → Prop) (D : Dev) (Q : α → Dev → Prop) : Prop :=
  (∃ a D', m D = (.ok a, D') ∧ Live D' n ∧ D'.Inv I ∧ Armed D D' lo hi ∧ Q a D') ∨ (∃ D', m D = (.error 80, D') ∧ Fell D' n ∧ I D'.last ∧ 1 ≤ D.armed ∧ D.armed ≤ hi)
section
variable {α β : Type} {n : Nat} {D : Dev} {I : SF → Prop}
theorem Io.Runs.ret {a : α} (h : Live D n) (hI : D.Inv I) {Q : α → Dev → Prop} (hQ : Q a D) : Io.Runs n (Io.ret a) 0 0 I D Q := .inl ⟨a, D, rfl, h, hI, Armed.refl D h.ok, hQ⟩
theorem Io.Runs.and {m : Io α} {f : α → Io β} {a b c d : Nat} {Q : α → Dev → Prop} {Q' : β → Dev → Prop} (h : Io.Runs n m a b I D Q) (k : ∀ x D', Live D' n → D'.Inv I → Q x D' → Io.Runs n (f x) c d I D' Q') : Io.Runs n (m.and f) (a + c) (b + d) I D Q' := by
  rcases h with ⟨x, D1, h1, h2, h3, h4, h5⟩ | ⟨D1, h1, h2, h3, h4, h5⟩
  · rcases k x D1 h2 h3 h5 with ⟨y, D2, k1, k2, k3, k4, k5⟩ | ⟨D2, k1, k2, k3, k4, k5⟩
    · exact .inl ⟨y, D2, by rw [Io.and_ok h1, k1], k2, k3, h4.trans k4, k5⟩
    · refine .inr ⟨D2, by rw [Io.and_ok h1, k1], k2, k3, ?_⟩
      rcases h4 with h4 | ⟨z, q1, q2, q3, q4⟩
      · omega
      · omega
  · exact .inr ⟨D1, by rw [Io.and_error h1], h2, h3, h4, by omega⟩
theorem Io.Runs.mono {m : Io α} {a b c d : Nat} {Q Q' : α → Dev → Prop} {J : SF → Prop} (h : Io.Runs n m a b I D Q) (h1 : c ≤ a) (h2 : b ≤ d) (hI : ∀ f, I f → J f) (hQ : ∀ x D', Live D' n → Q x D' → Q' x D') : Io.Runs n m c d J D Q' := by
  rcases h with ⟨x, D1, k1, k2, k3, k4, k5⟩ | ⟨D1, k1, k2, k3, k4, k5⟩
  · exact .inl ⟨x, D1, k1, k2, k3.mono hI, k4.mono h1 h2, hQ _ _ k2 k5⟩
  · exact .inr ⟨D1, k1, k2, hI _ k3, k4, by omega⟩
theorem Io.Runs.read (h : Live D n) (hI : D.Inv I) (i : Nat) (hi : i < n) : Io.Runs n (ioRead i) 0 0 I D (fun b D' => b = D.last i ∧ D' = D) := .inl ⟨_, D, h.read i hi, h, hI, Armed.refl D h.ok, rfl, rfl⟩
theorem Io.Runs.write (h : Live D n) (hI : D.Inv I) (i : Nat) (hi : i < n) (b : List UInt8) (hb : b.length = 512) (hS : Shut I i b) :
    Io.Runs n (ioWrite i b) 1 1 I D (fun _ D' => ∀ j, D'.last j = if j = i then b else D.last j) := by
  have hok := Dev.push_ok h.ok (by rw [h.n]; exact hi) hb
  have hinv : ({ D with pend := D.pend ++ [(i, b)] } : Dev).Inv I := by
    intro l
    show I (secs (fallFrom l 0 D.img (D.pend ++ [(i, b)])))
    rw [fallFrom_snoc, secs_put _ n (by rw [fallFrom_length l 0 D.img D.pend h.ok.pend, h.img]) i b _ hi hb (remains_le' _ _)]
    exact hS _ _ (remains_le' _ _) (hI l)
  have e : D.write i b = if ({ D with pend := D.pend ++ [(i, b)] } : Dev).fires then ((({ D with pend := D.pend ++ [(i, b)] } : Dev).count.fall D.loss), 80) else (({ D with pend := D.pend ++ [(i, b)] } : Dev).count, 0) := by
    unfold Dev.write
    rw [h.asked i hi, if_neg (by simp), if_neg (by omega)]
    rfl
  by_cases hf : D.armed = 1
  · refine .inr ⟨({ D with pend := D.pend ++ [(i, b)] } : Dev).count.fall D.loss, ?_, ⟨Dev.fall_ok (Dev.count_ok hok) _, ?_, rfl, rfl⟩, ?_, by omega, by omega⟩
    · unfold ioWrite
      have e' := e.trans (if_pos (by simp [Dev.fires, hf]))
      rw [e']
      rfl
    · show (fallFrom D.loss 0 D.img (D.pend ++ [(i, b)])).length = _
      rw [fallFrom_length D.loss 0 D.img _ hok.pend, h.img]
    · rw [← Live.secs rfl]
      exact hinv D.loss
  · refine .inl ⟨(), ({ D with pend := D.pend ++ [(i, b)] } : Dev).count, ?_, ⟨Dev.count_ok hok, h.img, h.down⟩, hinv, ?_, fun j => ?_⟩
    · unfold ioWrite
      have e' := e.trans (if_neg (by simp [Dev.fires, hf]))
      rw [e']
      rfl
    · by_cases h0 : D.armed = 0
      · exact .inl ⟨h0, by show (if D.armed = 0 then (0 : Int) else _) = 0; rw [if_pos h0]⟩
      · exact .inr ⟨1, by omega, by omega, by have := h.ok.armed.1; omega, by show (if D.armed = 0 then (0 : Int) else _) = _; rw [if_neg h0]; rfl⟩
    · show lastOf j (sec D.img j) (D.pend ++ [(i, b)]) = _
      unfold lastOf
      rw [List.foldl_append]
      show (if i = j then b else _) = _
      by_cases hj : j = i
      · rw [if_pos hj.symm, if_pos hj]
      · rw [if_neg (fun e => hj e.symm), if_neg hj]
        rfl
theorem Io.Runs.flush (h : Live D n) (hI : D.Inv I) : Io.Runs n ioFlush 1 1 I D (fun _ D' => D'.pend = [] ∧ ∀ j, j < n → D'.last j = D.last j) := by
  have e : D.flush = if D.fires then (D.count.fall D.loss, 80) else ({ D.count with img := flushed D.img D.pend, pend := [] }, 0) := by
    unfold Dev.flush
    rw [h.down]
    rfl
  by_cases hf : D.armed = 1
  · refine .inr ⟨D.count.fall D.loss, ?_, ⟨Dev.fall_ok (Dev.count_ok h.ok) _, ?_, rfl, rfl⟩, ?_, by omega, by omega⟩
    · unfold ioFlush
      have e' := e.trans (if_pos (by simp [Dev.fires, hf]))
      rw [e']
      rfl
    · show (fallFrom D.loss 0 D.img D.pend).length = _
      rw [fallFrom_length D.loss 0 D.img _ h.ok.pend, h.img]
    · rw [← Live.secs rfl]
      exact hI D.loss
  · refine .inl ⟨(), { D.count with img := flushed D.img D.pend, pend := [] }, ?_, ⟨flushed_ok h.ok, ?_, h.down⟩, ?_, ?_, rfl, fun j hj => calm_flushed_sec j D.pend D.img h.ok.pend (by rw [h.img]; omega)⟩
    · unfold ioFlush
      have e' := e.trans (if_neg (by simp [Dev.fires, hf]))
      rw [e']
      rfl
    · show (flushed D.img D.pend).length = _
      rw [flushed_length D.pend D.img h.ok.pend, h.img]
    · intro l
      show I (secs (flushed D.img D.pend))
      rw [← fallFrom_none D.pend.length D.pend 0 D.img (by omega)]
      exact hI _
    · by_cases h0 : D.armed = 0
      · exact .inl ⟨h0, by show (if D.armed = 0 then (0 : Int) else _) = 0; rw [if_pos h0]⟩
      · exact .inr ⟨1, by omega, by omega, by have := h.ok.armed.1; omega, by show (if D.armed = 0 then (0 : Int) else _) = _; rw [if_neg h0]; rfl⟩
end
/-- a state of the disk's sectors, but that sector 0 and these others may be anything: shut under a write to one of those -/
theorem upd_ne (f : SF) (i : Nat) (b : List UInt8) (r j : Nat) (h : j ≠ i) : upd f i b r j = f j := by unfold upd; rw [if_neg h]
theorem upd_eq (f : SF) (i : Nat) (b : List UInt8) (r : Nat) : upd f i b r i = b.take r ++ (f i).drop r := by unfold upd; rw [if_pos rfl]
end Go.Le

/- What Open and Commit make of a disk that may give up anywhere. No program in sight. -/
set_option linter.unusedVariables false
set_option linter.unusedSimpArgs false
namespace Go.Le
open Go Go.RowKit
set_option maxRecDepth 20000
section
variable {n p : Nat} {H : SF}
/-- no marker stands; behind the log all is as H has it -/
def Fallen (n p : Nat) (H f : SF) : Prop := (f 0).getD 511 0 = 0 ∧ ∀ j, 2 * p + 1 ≤ j → j < n → f j = H j
/-- a marker of these pages stands; behind the log all is as H has it, once what the marker says is done -/
def Stood (n p : Nat) (H : SF) (l : List Nat) (f : SF) : Prop := marked (f 0) p = .ok l ∧ l ≠ [] ∧ (∀ x ∈ l, x < p) ∧ ∀ j, 2 * p + 1 ≤ j → j < n → redoAt p l f j = H j
def Good (n p : Nat) (H f : SF) : Prop := Fallen n p H f ∨ ∃ l, Stood n p H l f
theorem torn_getD (a b : List UInt8) (r k : Nat) (h : r ≤ k) : (a.take r ++ b.drop r).getD k 0 = if a.length < r then (b.getD (k - a.length + r) 0) else b.getD k 0 := by
  unfold List.getD
  by_cases ha : a.length < r
  · rw [if_pos ha, List.take_of_length_le (by omega), List.getElem?_append_right (by omega), List.getElem?_drop]
    congr 2; omega
  · rw [if_neg ha, List.getElem?_append_right (by rw [List.length_take]; omega), List.length_take, List.getElem?_drop]
    congr 2; omega
/-- a torn write to sector 0 leaves its last byte, or is whole -/
theorem torn_last (a b : List UInt8) (r : Nat) (ha : a.length = 512) (h : r ≤ 511) : (a.take r ++ b.drop r).getD 511 0 = b.getD 511 0 := by
  rw [torn_getD a b r 511 h, if_neg (by omega)]
theorem torn_whole (a b : List UInt8) (r : Nat) (ha : a.length = 512) (hb : b.length ≤ 512) (h : 512 ≤ r) : a.take r ++ b.drop r = a := by
  rw [List.take_of_length_le (by omega), List.drop_eq_nil_of_le (by omega), List.append_nil]
theorem sect0_getD (k : Nat) : sect0.getD k 0 = 0 := by
  unfold sect0 zrs List.getD
  rw [List.getElem?_replicate]
  split <;> rfl
theorem Fallen.zero (i : Nat) (hi : i < 2 * p + 1) : Shut (Fallen n p H) i sect0 := by
  intro f r hr ⟨h1, h2⟩
  refine ⟨?_, fun j hj hn => by rw [upd_ne _ _ _ _ _ (by omega)]; exact h2 j hj hn⟩
  by_cases h0 : i = 0
  · subst h0
    rw [upd_eq]
    by_cases h5 : r ≤ 511
    · rw [torn_last sect0 _ _ (zrs_length 512) h5, h1]
    · unfold List.getD
      by_cases hk : 511 < (sect0.take r).length
      · rw [List.getElem?_append_left hk, List.getElem?_take]
        split
        · exact sect0_getD 511
        · rfl
      · rw [List.length_take, show sect0.length = 512 from zrs_length 512] at hk; omega
  · rw [upd_ne _ _ _ _ _ (fun e => h0 e.symm)]
    exact h1
theorem Fallen.log (i : Nat) (hi : i < 2 * p + 1) (h0 : i ≠ 0) (b : List UInt8) : Shut (Fallen n p H) i b := by
  intro f r hr ⟨h1, h2⟩
  exact ⟨by rw [upd_ne _ _ _ _ _ (fun e => h0 e.symm)]; exact h1, fun j hj hn => by rw [upd_ne _ _ _ _ _ (by omega)]; exact h2 j hj hn⟩
/-- a home that the marker names may be anything -/
theorem Stood.home {l : List Nat} (x k : Nat) (hx : x ∈ l) (hk : k < 2) (hxp : x < p) (b : List UInt8) : Shut (Stood n p H l) (homeOf p x + k) b := by
  intro f r hr ⟨h1, h2, h3, h4⟩
  have e : ∀ j, j < 2 * p + 1 → upd f (homeOf p x + k) b r j = f j := fun j hj => upd_ne _ _ _ _ _ (by unfold homeOf; omega)
  refine ⟨by rw [e 0 (by omega)]; exact h1, h2, h3, fun j hj hn => ?_⟩
  rw [← h4 j hj hn]
  unfold redoAt
  split
  · rw [e _ (by omega)]
  · rename_i hj2
    rw [upd_ne _ _ _ _ _ ?_]
    rintro rfl
    apply hj2
    unfold homeOf
    refine ⟨by omega, by omega, ?_⟩
    rw [show (1 + 2 * p + 2 * x + k - (2 * p + 1)) / 2 = x by omega]
    exact hx
theorem redo_runs {l : List Nat} (hn : 4 * p + 1 ≤ n) (hl : ∀ x ∈ l, x < p) : ∀ (t : List Nat) (D : Dev), Live D n → D.Inv (Stood n p H l) → (∀ x ∈ t, x ∈ l) → Io.Runs n (ioRedo p t) (2 * t.length) (2 * t.length) (Stood n p H l) D (fun _ D' => ∀ j, D'.last j = redoAt p t D.last j)
  | [], D, h, hI, _ => Io.Runs.ret h hI fun j => by unfold redoAt; rw [if_neg (by simp)]
  | x :: r, D, h, hI, ht => by
    have hx := ht x (by simp)
    have hxp := hl x hx
    have one : ∀ (k : Nat) (D : Dev), k < 2 → Live D n → D.Inv (Stood n p H l) → Io.Runs n (ioCopy p x k) 1 1 (Stood n p H l) D (fun _ D' => ∀ j, D'.last j = if j = homeOf p x + k then D.last (slotOf x + k) else D.last j) := by
      intro k D hk h hI
      have h1 : slotOf x + k < n := by unfold slotOf; omega
      have h2 : homeOf p x + k < n := by unfold homeOf; omega
      refine ((Io.Runs.read h hI _ h1).and (c := 1) (d := 1) fun b D' h' hI' hb => ?_).mono (by omega) (by omega) (fun _ h => h) (fun _ _ _ h => h)
      obtain ⟨rfl, rfl⟩ := hb
      exact Io.Runs.write h' hI' _ h2 _ (h'.len _ h1) (Stood.home x k hx hk hxp _)
    refine ((one 0 D (by omega) h hI).and (c := 1 + 2 * r.length) (d := 1 + 2 * r.length) fun _ D1 h1 hI1 a3 => (one 1 D1 (by omega) h1 hI1).and (c := 2 * r.length) (d := 2 * r.length) fun _ D2 h2 hI2 b3 => (redo_runs hn hl r D2 h2 hI2 (fun y hy => ht y (by simp [hy]))).mono (Nat.le_refl _) (Nat.le_refl _) (fun _ h => h) fun _ D' _ h3 => ?_).mono (by simp; omega) (by simp; omega) (fun _ h => h) (fun _ _ _ h => h)
    intro j
    have hs : ∀ i, i < 2 * p + 1 → D2.last i = D.last i := by
      intro i hi
      rw [b3, if_neg (by unfold homeOf; omega), a3, if_neg (by unfold homeOf; omega)]
    have hq : slotOf x + 1 < 2 * p + 1 := by unfold slotOf; omega
    rw [h3 j]
    unfold redoAt
    by_cases hj : 2 * p + 1 ≤ j ∧ j < 4 * p + 1 ∧ (j - (2 * p + 1)) / 2 ∈ r
    · rw [if_pos hj, if_pos ⟨hj.1, hj.2.1, by simp [hj.2.2]⟩]
      exact hs _ (by omega)
    · rw [if_neg hj]
      by_cases hj2 : 2 * p + 1 ≤ j ∧ j < 4 * p + 1 ∧ (j - (2 * p + 1)) / 2 = x
      · rw [if_pos ⟨hj2.1, hj2.2.1, by simp [hj2.2.2]⟩]
        obtain ⟨c1, c2, c3⟩ := hj2
        have : j = homeOf p x ∨ j = homeOf p x + 1 := by unfold homeOf; omega
        rcases this with e | e
        · rw [b3, if_neg (by omega), a3, if_pos (by omega)]
          congr 1
          unfold homeOf at e
          unfold slotOf
          omega
        · rw [b3, if_pos e, a3, if_neg (by unfold slotOf homeOf; omega)]
          congr 1
          unfold homeOf at e
          unfold slotOf
          omega
      · rw [if_neg (by
          rintro ⟨c1, c2, c3⟩
          rcases List.mem_cons.1 c3 with c3 | c3
          · exact hj2 ⟨c1, c2, c3⟩
          · exact hj ⟨c1, c2, c3⟩)]
        have h5 : j ≠ homeOf p x ∧ j ≠ homeOf p x + 1 := by
          constructor
          · intro e; apply hj2; unfold homeOf at e; omega
          · intro e; apply hj2; unfold homeOf at e; omega
        rw [b3, if_neg h5.2, a3, if_neg (by omega)]
theorem wipe_runs {I : SF → Prop} : ∀ (l : List Nat) (D : Dev) (s : Bool), Live D n → D.Inv I → (∀ i ∈ l, i < n) → (∀ i ∈ l, Shut I i sect0) → Io.Runs n (ioWipe s l) 0 l.length I D (fun s' D' => (∀ j, D'.last j = if j ∈ l then sect0 else D.last j) ∧ (s' = false → D' = D) ∧ (s = true → s' = true))
  | [], D, s, h, hI, _, _ => Io.Runs.ret h hI ⟨fun j => by simp, fun _ => rfl, fun e => e⟩
  | i :: r, D, s, h, hI, hl, hS => by
    have hi := hl i (by simp)
    refine ((Io.Runs.read h hI i hi).and (c := 0) (d := r.length + 1) fun b D' h' hI' hb => ?_).mono (by omega) (by simp) (fun _ h => h) (fun _ _ _ h => h)
    obtain ⟨rfl, rfl⟩ := hb
    by_cases hz : allZero (D'.last i) = true
    · rw [if_pos hz]
      refine (wipe_runs r D' s h' hI' (fun x hx => hl x (by simp [hx])) (fun x hx => hS x (by simp [hx]))).mono (by omega) (by omega) (fun _ h => h) fun s' D'' _ ⟨h3, h4, h5⟩ => ⟨fun j => ?_, h4, h5⟩
      rw [h3 j]
      by_cases hj : j ∈ r
      · rw [if_pos hj, if_pos (by simp [hj])]
      · rw [if_neg hj]
        by_cases hji : j = i
        · subst hji
          rw [if_pos (by simp)]
          exact allZero_eq hz (h.len j hi)
        · rw [if_neg (by simp [hj, hji])]
    · rw [if_neg hz]
      refine ((Io.Runs.write h' hI' i hi sect0 (zrs_length 512) (hS i (by simp))).and (c := 0) (d := r.length) fun _ D1 w2 wI w3 => (wipe_runs r D1 true w2 wI (fun x hx => hl x (by simp [hx])) (fun x hx => hS x (by simp [hx]))).mono (by omega) (by omega) (fun _ h => h) fun s' D'' _ ⟨h3, h4, h5⟩ => ⟨fun j => ?_, fun e => ?_, fun _ => h5 rfl⟩).mono (by omega) (by omega) (fun _ h => h) (fun _ _ _ h => h)
      · rw [h3 j, w3 j]
        by_cases hj : j ∈ r
        · rw [if_pos hj, if_pos (by simp [hj])]
        · rw [if_neg hj]
          by_cases hji : j = i
          · rw [if_pos hji, if_pos (by simp [hji])]
          · rw [if_neg hji, if_neg (by simp [hj, hji])]
      · rw [h5 rfl] at e
        cases e
theorem wiped_runs {I : SF → Prop} {D : Dev} (h : Live D n) (hpd : D.pend = []) (hI : D.Inv I) (l : List Nat) (hl : ∀ i ∈ l, i < n) (hS : ∀ i ∈ l, Shut I i sect0) : Io.Runs n (ioWiped l) 0 (l.length + 1) I D (fun _ D' => D'.pend = [] ∧ ∀ j, j < n → D'.last j = if j ∈ l then sect0 else D.last j) := by
  refine ((wipe_runs l D false h hI hl hS).and (c := 0) (d := 1) fun s D1 h1 hI1 ⟨h3, h4, _⟩ => ?_).mono (by omega) (by omega) (fun _ h => h) (fun _ _ _ h => h)
  cases s with
  | false =>
    have := h4 rfl
    subst this
    exact (Io.Runs.ret h1 hI1 ⟨hpd, fun j _ => h3 j⟩).mono (by omega) (by omega) (fun _ h => h) (fun _ _ _ h => h)
  | true => exact (Io.Runs.flush h1 hI1).mono (by omega) (by omega) (fun _ h => h) fun _ D' _ ⟨f3, f4⟩ => ⟨f3, fun j hj => by rw [f4 j hj, h3 j]⟩
/-- a disk whose log is all zeros -/
def cleanAt (p : Nat) (H : SF) : SF := fun j => if j < 2 * p + 1 then sect0 else H j
/-- ahead of the last of it: the log is wiped -/
theorem wlog_runs {D : Dev} (hn : 4 * p + 1 ≤ n) (h : Live D n) (hpd : D.pend = []) (hf : Fallen n p H D.last) : Io.Runs n (ioWiped (runOf 0 (2 * p + 1))) 0 (2 * p + 2) (Good n p H) D (fun _ D' => D'.pend = [] ∧ ∀ j, j < n → D'.last j = cleanAt p H j) := by
  refine (wiped_runs h hpd (Dev.Inv.of hpd hf) (runOf 0 (2 * p + 1)) (fun i hi => by have := (mem_runOf _ _ _).1 hi; omega) (fun i hi => Fallen.zero i (by have := (mem_runOf _ _ _).1 hi; omega))).mono (by omega) (by rw [runOf_length]; omega) (fun _ h => .inl h) fun _ D' _ ⟨h1, h2⟩ => ⟨h1, fun j hj => ?_⟩
  rw [h2 j hj]
  unfold cleanAt
  by_cases hl : j < 2 * p + 1
  · rw [if_pos hl, if_pos ((mem_runOf _ _ _).2 ⟨by omega, hl⟩)]
  · rw [if_neg hl, if_neg (by rw [mem_runOf]; omega)]
    exact hf.2 j (by omega) hj
/-- a marker falls: it stands, or not -/
theorem falls_runs {D : Dev} {l : List Nat} (hn : 4 * p + 1 ≤ n) (h : Live D n) (hpd : D.pend = []) (hs : Stood n p H l D.last) (hh : ∀ j, 2 * p + 1 ≤ j → j < n → D.last j = H j) :
    Io.Runs n (ioFalls (D.last 0)) 2 2 (Good n p H) D (fun _ D' => D'.pend = [] ∧ Fallen n p H D'.last ∧ ∀ j, j < n → j ≠ 0 → D'.last j = D.last j) := by
  obtain ⟨m, hm⟩ : ∃ m, m = D.last 0 := ⟨_, rfl⟩
  have hml : m.length = 512 := by rw [hm]; exact h.len 0 (by omega)
  have hl0 : (m.set 511 0).getD 511 0 = 0 := by unfold List.getD; rw [List.getElem?_set_self (by omega)]; rfl
  let I : SF → Prop := fun f => (∀ j, j < n → j ≠ 0 → f j = D.last j) ∧ (f 0 = m ∨ f 0 = m.set 511 0)
  have hIG : ∀ f, I f → Good n p H f := by
    rintro f ⟨h1, h2 | h2⟩
    · refine .inr ⟨l, by rw [h2, hm]; exact hs.1, hs.2.1, hs.2.2.1, fun j hj hjn => ?_⟩
      rw [← hs.2.2.2 j hj hjn]
      unfold redoAt
      split
      · exact h1 _ (by omega) (by omega)
      · exact h1 _ (by omega) (by omega)
    · exact .inl ⟨by rw [h2]; exact hl0, fun j hj hjn => by rw [h1 j hjn (by omega)]; exact hh j hj hjn⟩
  have hS : Shut I 0 (m.set 511 0) := by
    intro f r hr ⟨h1, h2⟩
    refine ⟨fun j hj h0 => by rw [upd_ne _ _ _ _ _ h0]; exact h1 j hj h0, ?_⟩
    rw [upd_eq]
    have e2 : (m.set 511 0).take r ++ (m.set 511 0).drop r = m.set 511 0 := List.take_append_drop _ _
    rcases h2 with h2 | h2
    · rw [h2]
      by_cases h5 : r ≤ 511
      · left
        rw [List.take_set_of_le h5, List.take_append_drop]
      · right
        exact torn_whole _ _ _ (by rw [List.length_set]; exact hml) (by omega) (by omega)
    · rw [h2]; exact .inr e2
  rw [← hm]
  refine ((Io.Runs.write h (Dev.Inv.of hpd (I := I) ⟨fun _ _ _ => rfl, .inl hm.symm⟩) 0 (by omega) (m.set 511 0) (by rw [List.length_set]; exact hml) hS).and (c := 1) (d := 1) fun _ D1 h1 hI1 h3 => (Io.Runs.flush h1 hI1).mono (Nat.le_refl _) (Nat.le_refl _) (fun _ h => h) fun _ D2 _ ⟨k1, k2⟩ => (⟨k1, ⟨?_, fun j hj hjn => ?_⟩, fun j hj h0 => ?_⟩ : D2.pend = [] ∧ Fallen n p H D2.last ∧ ∀ j, j < n → j ≠ 0 → D2.last j = D.last j)).mono (by omega) (by omega) hIG (fun _ _ _ h => h)
  · rw [k2 0 (by omega), h3 0, if_pos rfl]; exact hl0
  · rw [k2 j hjn, h3 j, if_neg (by omega)]; exact hh j hj hjn
  · rw [k2 j hj, h3 j, if_neg h0]
theorem again_runs {D : Dev} (hn : 4 * p + 1 ≤ n) (h : Live D n) (hpd : D.pend = []) (hg : Good n p H D.last) : ∃ c, Io.Runs n (ioAgain p) 0 c (Good n p H) D (fun _ D' => D'.pend = [] ∧ Fallen n p H D'.last) := by
  rcases hg with hf | ⟨l, hs⟩
  · refine ⟨0, .inl ⟨false, D, ?_, h, Dev.Inv.of hpd (.inl hf), Armed.refl D h.ok, hpd, hf⟩⟩
    unfold ioAgain
    rw [Io.and_ok (h.read 0 (by omega))]
    unfold marked
    rw [if_pos hf.1]
    rfl
  · refine ⟨2 * l.length + (1 + (2 + 0)), ?_⟩
    have hr := redo_runs hn hs.2.2.1 l D h (Dev.Inv.of hpd hs) (fun _ h => h)
    have e : ioAgain p D = ((ioRedo p l).and fun _ => ioFlush.and fun _ => (ioFalls (D.last 0)).and fun _ => Io.ret true) D := by
      unfold ioAgain
      rw [Io.and_ok (h.read 0 (by omega)), hs.1]
      show ((Io.ret l).and _) D = _
      rw [Io.ret_and, if_neg hs.2.1]
    have hmain : Io.Runs n ((ioRedo p l).and fun _ => ioFlush.and fun _ => (ioFalls (D.last 0)).and fun _ => Io.ret true) (2 * l.length + (1 + (2 + 0))) (2 * l.length + (1 + (2 + 0))) (Good n p H) D (fun _ D' => D'.pend = [] ∧ Fallen n p H D'.last) := by
      rcases hr with ⟨u, D1, k1, k2, k3, k4, k5⟩ | ⟨D1, k1, k2, k3, k4, k5⟩
      · rcases Io.Runs.flush k2 k3 with ⟨u', D2, f1, f2, f3, f4, f5, f6⟩ | ⟨D2, f1, f2, f3, f4, f5⟩
        · have hlast : ∀ j, j < n → D2.last j = redoAt p l D.last j := fun j hj => by rw [f6 j hj, k5 j]
          have hlog : ∀ j, j < 2 * p + 1 → D2.last j = D.last j := fun j hj => by rw [hlast j (by omega)]; unfold redoAt; rw [if_neg (by omega)]
          have hh : ∀ j, 2 * p + 1 ≤ j → j < n → D2.last j = H j := fun j hj hjn => by rw [hlast j hjn]; exact hs.2.2.2 j hj hjn
          have hs2 : Stood n p H l D2.last := by
            refine ⟨by rw [hlog 0 (by omega)]; exact hs.1, hs.2.1, hs.2.2.1, fun j hj hjn => ?_⟩
            rw [← hs.2.2.2 j hj hjn]
            unfold redoAt
            split
            · exact hlog _ (by omega)
            · rename_i h1; rw [hh j hj hjn, ← hs.2.2.2 j hj hjn]; unfold redoAt; rw [if_neg h1]
          have hfa := falls_runs hn f2 f5 hs2 hh
          rw [hlog 0 (by omega)] at hfa
          have hgo := hfa.and (c := 0) (d := 0) (f := fun _ => Io.ret true) (Q' := fun _ D' => D'.pend = [] ∧ Fallen n p H D'.last) fun _ D3 g1 g2 ⟨g3, g4, _⟩ => Io.Runs.ret g1 g2 ⟨g3, g4⟩
          rcases hgo with ⟨y, D3, q1, q2, q3, q4, q5⟩ | ⟨D3, q1, q2, q3, q4, q5⟩
          · exact .inl ⟨y, D3, by rw [Io.and_ok k1, Io.and_ok f1, q1], q2, q3, k4.trans (f4.trans q4), q5⟩
          · refine .inr ⟨D3, by rw [Io.and_ok k1, Io.and_ok f1, q1], q2, q3, ?_⟩
            rcases k4 with k4 | ⟨a, a1, a2, a3, a4⟩ <;> rcases f4 with f4 | ⟨b, b1, b2, b3, b4⟩ <;> omega
        · refine .inr ⟨D2, by rw [Io.and_ok k1, Io.and_error f1], f2, .inr ⟨l, f3⟩, ?_⟩
          rcases k4 with k4 | ⟨a, a1, a2, a3, a4⟩ <;> omega
      · exact .inr ⟨D1, by rw [Io.and_error k1], k2, .inr ⟨l, k3⟩, k4, by omega⟩
    rcases hmain with ⟨y, D3, q1, q2, q3, q4, q5⟩ | ⟨D3, q1, q2⟩
    · exact .inl ⟨y, D3, by rw [e, q1], q2, q3, q4.mono (by omega) (Nat.le_refl _), q5⟩
    · exact .inr ⟨D3, by rw [e, q1], q2⟩
/-- OPEN, of a disk that is as a crash has left it: it answers and all is clean, or the disk has given up and is so again -/
theorem open_runs {D : Dev} (hp : roomOf n = p) (hp0 : p ≠ 0) (hn : 4 * p + 1 ≤ n) (h : Live D n) (hpd : D.pend = []) (hg : Good n p H D.last) : ∃ c, Io.Runs n ioOpen 0 c (Good n p H) D (fun x D' => x.1 = p ∧ D'.pend = [] ∧ ∀ j, j < n → D'.last j = cleanAt p H j) := by
  obtain ⟨c, hc⟩ := again_runs hn h hpd hg
  refine ⟨c + (2 * p + 2 + 0), ?_⟩
  have hb : ioBegun D = (.ok p, D) := by
    unfold ioBegun
    rw [h.down, h.n, hp, if_neg (by simp), if_neg hp0, if_pos hpd]
  have hm := hc.and (c := 0) (d := 2 * p + 2 + 0) (f := fun a => (ioWiped (runOf 0 (2 * p + 1))).and fun _ => Io.ret (p, a)) (Q' := fun (x : Nat × Bool) D' => x.1 = p ∧ D'.pend = [] ∧ ∀ j, j < n → D'.last j = cleanAt p H j) fun a D1 k1 _ ⟨k2, k3⟩ =>
    ((wlog_runs hn k1 k2 k3).and (c := 0) (d := 0) fun _ D2 g1 g2 g3 => Io.Runs.ret g1 g2 ⟨rfl, g3⟩).mono (by omega) (Nat.le_refl _) (fun _ h => h) (fun _ _ _ h => h)
  have e : ioOpen D = ((ioAgain p).and fun a => (ioWiped (runOf 0 (2 * p + 1))).and fun _ => Io.ret (p, a)) D := by
    unfold ioOpen
    rw [Io.and_ok hb]
  unfold Io.Runs at hm ⊢
  rw [e]
  exact hm
end
end Go.Le

/- What a Commit makes of a disk that may give up anywhere. No program in sight. -/
set_option linter.unusedVariables false
set_option linter.unusedSimpArgs false
namespace Go.Le
open Go Go.RowKit
set_option maxRecDepth 20000
/-- pages at their places: from sector c on, two sectors each -/
def set2 (c : Nat) (f : SF) (x : Nat × List UInt8) : SF := fun j => if j = c + 2 * x.1 then x.2.take 512 else if j = c + 2 * x.1 + 1 then x.2.drop 512 else f j
def setsAt (c : Nat) (L : List (Nat × List UInt8)) (f : SF) : SF := L.foldl (set2 c) f
theorem setsAt_cons (c : Nat) (x : Nat × List UInt8) (r : List (Nat × List UInt8)) (f : SF) : setsAt c (x :: r) f = setsAt c r (set2 c f x) := rfl
theorem setsAt_not (c j : Nat) : ∀ (L : List (Nat × List UInt8)) (f : SF), (∀ x ∈ L, j ≠ c + 2 * x.1 ∧ j ≠ c + 2 * x.1 + 1) → setsAt c L f j = f j
  | [], _, _ => rfl
  | x :: r, f, h => by
    rw [setsAt_cons, setsAt_not c j r _ (fun y hy => h y (by simp [hy]))]
    have := h x (by simp)
    unfold set2
    rw [if_neg this.1, if_neg this.2]
theorem setsAt_in (c d x k : Nat) (hk : k < 2) : ∀ (L : List (Nat × List UInt8)) (f g : SF), x ∈ L.map (·.1) → setsAt c L f (c + 2 * x + k) = setsAt d L g (d + 2 * x + k)
  | [], _, _, h => by simp at h
  | y :: r, f, g, h => by
    rw [setsAt_cons, setsAt_cons]
    by_cases hr : x ∈ r.map (·.1)
    · exact setsAt_in c d x k hk r _ _ hr
    · have hy : y.1 = x := by
        rw [List.map_cons, List.mem_cons] at h
        rcases h with h | h
        · exact h.symm
        · exact absurd h hr
      have hne : ∀ (c : Nat), ∀ z ∈ r, c + 2 * x + k ≠ c + 2 * z.1 ∧ c + 2 * x + k ≠ c + 2 * z.1 + 1 := by
        intro c z hz
        have : z.1 ≠ x := fun e => hr (by rw [← e]; exact List.mem_map_of_mem hz)
        omega
      rw [setsAt_not c _ r _ (hne c), setsAt_not d _ r _ (hne d)]
      unfold set2
      rw [hy]
      have : k = 0 ∨ k = 1 := by omega
      rcases this with rfl | rfl
      · rw [if_pos (by omega), if_pos (by omega)]
      · rw [if_neg (by omega), if_pos rfl, if_neg (by omega), if_pos rfl]
/-- a page's place or none -/
theorem setsAt_place (c j : Nat) (L : List (Nat × List UInt8)) : (∃ x k, k < 2 ∧ j = c + 2 * x + k ∧ x ∈ L.map (·.1)) ∨ ∀ x ∈ L, j ≠ c + 2 * x.1 ∧ j ≠ c + 2 * x.1 + 1 := by
  by_cases h : ∃ x ∈ L, j = c + 2 * x.1 ∨ j = c + 2 * x.1 + 1
  · obtain ⟨x, hx, h⟩ := h
    refine .inl ?_
    rcases h with h | h
    · exact ⟨x.1, 0, by omega, h, List.mem_map_of_mem hx⟩
    · exact ⟨x.1, 1, by omega, h, List.mem_map_of_mem hx⟩
  · exact .inr fun x hx => ⟨fun e => h ⟨x, hx, .inl e⟩, fun e => h ⟨x, hx, .inr e⟩⟩
/-- a marker of these pages, but for its last byte -/
structure Marks (m : List UInt8) (s : List Nat) : Prop where
  len : m.length = 512
  rest : ∀ k, 32 ≤ k → m.getD k 0 = 0
  bit : ∀ y, y < 256 → pageBit m y = decide (y ∈ s)
theorem getD_set {m : List UInt8} {i k : Nat} {v : UInt8} (h : i < m.length) : (m.set i v).getD k 0 = if k = i then v else m.getD k 0 := by
  unfold List.getD
  rw [List.getElem?_set]
  by_cases hk : i = k
  · subst hk; rw [if_pos rfl, if_pos rfl, if_pos h]; rfl
  · rw [if_neg hk, if_neg (fun e => hk e.symm)]
theorem Marks.zero : Marks sect0 [] := ⟨zrs_length 512, fun k _ => sect0_getD k, fun y _ => by unfold pageBit; rw [sect0_getD]; simp⟩
theorem or_bit (b : UInt8) (r s : Nat) (hr : r < 8) (hs : s < 8) : ((b ||| UInt8.ofNat (2 ^ r)).toNat / 2 ^ s % 2 == 1) = ((b.toNat / 2 ^ s % 2 == 1) || decide (r = s)) := by
  have h2 : (UInt8.ofNat (2 ^ r)).toNat = 2 ^ r := by
    have : ∀ r : Fin 8, (UInt8.ofNat (2 ^ r.val)).toNat = 2 ^ r.val := by decide +kernel
    exact this ⟨r, hr⟩
  have t : ∀ n : Nat, (n / 2 ^ s % 2 == 1) = n.testBit s := by
    intro n
    rw [Nat.testBit_eq_decide_div_mod_eq]
    rfl
  rw [t, t, UInt8.toNat_or, Nat.testBit_or, h2, Nat.testBit_two_pow]
theorem Marks.set {m : List UInt8} {s : List Nat} (h : Marks m s) (x : Nat) (hx : x < 256) : Marks (setBit m x) (x :: s) := by
  have h8 : x / 8 < m.length := by rw [h.len]; omega
  refine ⟨by unfold setBit; rw [List.length_set]; exact h.len, fun k hk => ?_, fun y hy => ?_⟩
  · unfold setBit
    rw [getD_set h8, if_neg (by omega)]
    exact h.rest k hk
  · have hb := h.bit y hy
    unfold pageBit setBit at *
    rw [getD_set h8]
    by_cases hyx : y / 8 = x / 8
    · rw [if_pos hyx, or_bit _ _ _ (Nat.mod_lt _ (by omega)) (Nat.mod_lt _ (by omega)), ← hyx, hb]
      have : decide (x % 8 = y % 8) = decide (y = x) := by
        rw [decide_eq_decide]; omega
      rw [this, Bool.or_comm]
      simp [List.mem_cons]
    · rw [if_neg hyx, hb, decide_eq_decide, List.mem_cons]
      constructor
      · exact fun h => .inr h
      · rintro (rfl | h)
        · exact absurd rfl hyx
        · exact h
theorem Marks.fold {p : Nat} (hp : p ≤ 250) : ∀ (l : List Nat) (m : List UInt8) (s : List Nat), Marks m s → (∀ x ∈ l, x < p) → ∃ t, Marks (l.foldl setBit m) t ∧ ∀ y, y ∈ t ↔ y ∈ l ∨ y ∈ s
  | [], m, s, h, _ => ⟨s, h, fun y => by simp⟩
  | x :: r, m, s, h, hl => by
    obtain ⟨t, h1, h2⟩ := Marks.fold hp r _ _ (h.set x (by have := hl x (by simp); omega)) (fun y hy => hl y (by simp [hy]))
    refine ⟨t, h1, fun y => ?_⟩
    rw [h2 y, List.mem_cons, List.mem_cons]
    constructor
    · rintro (h | h | h)
      · exact .inl (.inr h)
      · exact .inl (.inl h)
      · exact .inr h
    · rintro ((h | h) | h)
      · exact .inr (.inl h)
      · exact .inl h
      · exact .inr (.inr h)
/-- it stands -/
theorem Marks.stands {m : List UInt8} {s : List Nat} {p : Nat} (h : Marks m s) (hs : ∀ x ∈ s, x < p) (hp : p ≤ 250) (h0 : s ≠ []) : ∃ l, marked (m.set 511 1) p = .ok l ∧ l ≠ [] ∧ ∀ x, x ∈ l ↔ x ∈ s := by
  have hl : 511 < m.length := by rw [h.len]; omega
  have hmem : ∀ x, x ∈ bitsOf (m.set 511 1) ↔ x ∈ s := by
    intro x
    unfold bitsOf
    rw [List.mem_filter, List.mem_range]
    have hb : x < 256 → (pageBit (m.set 511 1) x = true ↔ x ∈ s) := by
      intro hx
      have e : pageBit (m.set 511 1) x = pageBit m x := by unfold pageBit; rw [getD_set hl, if_neg (by omega)]
      rw [e, h.bit x hx, decide_eq_true_iff]
    constructor
    · rintro ⟨a, b⟩; exact (hb a).1 b
    · intro hx
      have := hs x hx
      exact ⟨by omega, (hb (by omega)).2 hx⟩
  obtain ⟨y, hy⟩ := List.exists_mem_of_ne_nil s h0
  have hne : bitsOf (m.set 511 1) ≠ [] := fun e => by have := (hmem y).2 hy; rw [e] at this; simp at this
  refine ⟨bitsOf (m.set 511 1), ?_, hne, hmem⟩
  have h1 : (m.set 511 1).getD 511 0 = 1 := by rw [getD_set hl, if_pos rfl]
  unfold marked
  rw [h1, if_neg (by decide), if_neg, if_neg]
  · rintro (h2 | h2)
    · exact hne h2
    · have hlast : (bitsOf (m.set 511 1)).getLastD 0 ∈ bitsOf (m.set 511 1) := by
        rw [List.getLastD_eq_getLast?, List.getLast?_eq_some_getLast hne]
        exact List.getLast_mem hne
      have := hs _ ((hmem _).1 hlast)
      omega
  · rintro (h2 | h2)
    · exact h2 rfl
    · have hall : allZero (((m.set 511 1).drop 32).take 479) = true := by
        unfold allZero
        rw [List.all_eq_true]
        intro b hb
        obtain ⟨i, hi⟩ := List.getElem?_of_mem hb
        rw [List.getElem?_take] at hi
        by_cases hlt : i < 479
        · rw [if_pos hlt, List.getElem?_drop, List.getElem?_set, if_neg (by omega)] at hi
          have := h.rest (32 + i) (by omega)
          unfold List.getD at this
          rw [hi] at this
          simpa using this
        · rw [if_neg hlt] at hi; cases hi
      rw [hall] at h2
      cases h2
section
variable {n p : Nat} {H : SF}
theorem both_runs {I : SF → Prop} {D : Dev} (c x : Nat) (pg : List UInt8) (h : Live D n) (hI : D.Inv I) (hc : c + 2 * x + 1 < n) (hpg : pg.length = 1024) (hS : ∀ k b, k < 2 → Shut I (c + 2 * x + k) b) :
    Io.Runs n (ioBoth (c + 2 * x) pg) 2 2 I D (fun _ D' => ∀ j, D'.last j = set2 c D.last (x, pg) j) := by
  refine ((Io.Runs.write h hI (c + 2 * x) (by omega) (pg.take 512) (by rw [List.length_take]; omega) (hS 0 _ (by omega))).and (c := 1) (d := 1) fun _ D1 h1 hI1 e1 => (Io.Runs.write h1 hI1 (c + 2 * x + 1) hc (pg.drop 512) (by rw [List.length_drop]; omega) (hS 1 _ (by omega))).mono (Nat.le_refl _) (Nat.le_refl _) (fun _ h => h) fun _ D2 _ e2 j => ?_).mono (by omega) (by omega) (fun _ h => h) (fun _ _ _ h => h)
  rw [e2 j, e1 j]
  unfold set2
  by_cases h1 : j = c + 2 * x + 1
  · rw [if_pos h1, if_neg (show ¬ j = c + 2 * x by omega), if_pos h1]
  · rw [if_neg h1]
    by_cases h2 : j = c + 2 * x
    · rw [if_pos h2, if_pos h2]
    · rw [if_neg h2, if_neg h2, if_neg h1]
theorem slots_runs {I : SF → Prop} (hn : 4 * p + 1 ≤ n) (hS : ∀ i b, i < 2 * p + 1 → i ≠ 0 → Shut I i b) : ∀ (L : List (Nat × List UInt8)) (m : List UInt8) (D : Dev), Live D n → D.Inv I → (∀ x ∈ L, x.1 < p ∧ x.2.length = 1024) → Io.Runs n (ioSlots m L) (2 * L.length) (2 * L.length) I D (fun m' D' => m' = (L.map (·.1)).foldl setBit m ∧ D'.last = setsAt 1 L D.last)
  | [], m, D, h, hI, _ => Io.Runs.ret h hI ⟨rfl, rfl⟩
  | x :: r, m, D, h, hI, hL => by
    have hx := hL x (by simp)
    refine ((both_runs 1 x.1 x.2 h hI (by omega) hx.2 (fun k b hk => hS _ _ (by omega) (by omega))).and (c := 2 * r.length) (d := 2 * r.length) fun _ D1 h1 hI1 e1 => (slots_runs hn hS r (setBit m x.1) D1 h1 hI1 (fun y hy => hL y (by simp [hy]))).mono (Nat.le_refl _) (Nat.le_refl _) (fun _ h => h) fun m' D2 _ ⟨e2, e3⟩ => ?_).mono (by simp; omega) (by simp; omega) (fun _ h => h) (fun _ _ _ h => h)
    refine ⟨e2, ?_⟩
    rw [e3, setsAt_cons]
    congr 1
    funext j
    exact e1 j
theorem homes_runs {I : SF → Prop} (hn : 4 * p + 1 ≤ n) : ∀ (L : List (Nat × List UInt8)) (D : Dev), (∀ x ∈ L, ∀ k b, k < 2 → Shut I (homeOf p x.1 + k) b) → Live D n → D.Inv I → (∀ x ∈ L, x.1 < p ∧ x.2.length = 1024) → Io.Runs n (ioHomes p L) (2 * L.length) (2 * L.length) I D (fun _ D' => D'.last = setsAt (1 + 2 * p) L D.last)
  | [], D, _, h, hI, _ => Io.Runs.ret h hI rfl
  | x :: r, D, hS, h, hI, hL => by
    have hx := hL x (by simp)
    refine ((both_runs (1 + 2 * p) x.1 x.2 h hI (by omega) hx.2 (fun k b hk => hS x (by simp) k b hk)).and (c := 2 * r.length) (d := 2 * r.length) fun _ D1 h1 hI1 e1 => (homes_runs hn r D1 (fun y hy => hS y (by simp [hy])) h1 hI1 (fun y hy => hL y (by simp [hy]))).mono (Nat.le_refl _) (Nat.le_refl _) (fun _ h => h) fun m' D2 _ e3 => ?_).mono (by simp; omega) (by simp; omega) (fun _ h => h) (fun _ _ _ h => h)
    rw [e3, setsAt_cons]
    congr 1
    funext j
    exact e1 j
def blanks (L : List (Nat × List UInt8)) : List (Nat × List UInt8) := L.map fun x => (x.1, zrs 1024)
theorem blank_runs {I : SF → Prop} (hn : 4 * p + 1 ≤ n) (hS : ∀ i b, i < 2 * p + 1 → i ≠ 0 → Shut I i b) : ∀ (L : List (Nat × List UInt8)) (D : Dev), Live D n → D.Inv I → (∀ x ∈ L, x.1 < p) → Io.Runs n (ioBlank L) (2 * L.length) (2 * L.length) I D (fun _ D' => D'.last = setsAt 1 (blanks L) D.last)
  | [], D, h, hI, _ => Io.Runs.ret h hI rfl
  | x :: r, D, h, hI, hL => by
    have hx := hL x (by simp)
    refine ((both_runs 1 x.1 (zrs 1024) h hI (by omega) (zrs_length _) (fun k b hk => hS _ _ (by omega) (by omega))).and (c := 2 * r.length) (d := 2 * r.length) fun _ D1 h1 hI1 e1 => (blank_runs hn hS r D1 h1 hI1 (fun y hy => hL y (by simp [hy]))).mono (Nat.le_refl _) (Nat.le_refl _) (fun _ h => h) fun m' D2 _ e3 => ?_).mono (by simp; omega) (by simp; omega) (fun _ h => h) (fun _ _ _ h => h)
    rw [e3]
    show _ = setsAt 1 (blanks r) (set2 1 D.last (x.1, zrs 1024))
    congr 1
    funext j
    exact e1 j
/-- the disk behind a Commit -/
def newAt (p : Nat) (L : List (Nat × List UInt8)) (H : SF) : SF := setsAt (1 + 2 * p) L H
/-- COMMIT, of a clean disk: it answers and all is clean, with these pages; or the disk has given up, by which call it was -/
theorem commit_runs {D : Dev} {L : List (Nat × List UInt8)} (hp : p ≤ 250) (hn : 4 * p + 1 ≤ n) (h : Live D n) (hpd : D.pend = []) (hc : ∀ j, j < n → D.last j = cleanAt p H j) (hL : ∀ x ∈ L, x.1 < p ∧ x.2.length = 1024) (hL0 : L ≠ []) :
    (∃ D', ioCommit p L D = (.ok (), D') ∧ Live D' n ∧ Armed D D' (6 * L.length + 8) (6 * L.length + 8) ∧ D'.pend = [] ∧ ∀ j, j < n → D'.last j = cleanAt p (newAt p L H) j) ∨
    (∃ D', ioCommit p L D = (.error 80, D') ∧ Fell D' n ∧ 1 ≤ D.armed ∧ D.armed ≤ 6 * L.length + 8 ∧ (Good n p H D'.last ∨ Good n p (newAt p L H) D'.last) ∧ (D.armed ≤ 2 * L.length + 1 → Good n p H D'.last) ∧ (2 * L.length + 3 < D.armed → Good n p (newAt p L H) D'.last)) := by
  have hlt : ∀ x ∈ L.map (·.1), x < p := by
    intro x hx
    obtain ⟨y, hy, rfl⟩ := List.mem_map.1 hx
    exact (hL y hy).1
  have hF0 : Fallen n p H D.last := ⟨by rw [hc 0 (by omega)]; unfold cleanAt; rw [if_pos (by omega)]; exact sect0_getD _, fun j hj hjn => by rw [hc j hjn]; unfold cleanAt; rw [if_neg (by omega)]⟩
  -- the slots
  have hA := slots_runs (I := Fallen n p H) hn (fun i b hi h0 => Fallen.log i hi h0 b) L sect0 D h (Dev.Inv.of hpd hF0) hL
  rcases hA with ⟨m, D1, a1, a2, a3, a4, a5, a6⟩ | ⟨D1, a1, a2, a3, a4, a5⟩
  case inr => exact .inr ⟨D1, by unfold ioCommit; rw [Io.and_error a1], a2, a4, by omega, .inl (.inl a3), fun _ => .inl a3, fun h => by omega⟩
  obtain ⟨s, hM, hMs⟩ := Marks.fold hp (L.map (·.1)) sect0 [] Marks.zero hlt
  rw [← a5] at hM
  have hMs' : ∀ y, y ∈ s ↔ y ∈ L.map (·.1) := fun y => by rw [hMs y]; simp
  have hs0 : s ≠ [] := by
    obtain ⟨y, hy⟩ := List.exists_mem_of_ne_nil L hL0
    intro e
    have := (hMs' y.1).2 (List.mem_map_of_mem hy)
    rw [e] at this; simp at this
  obtain ⟨l, hl1, hl2, hl3⟩ := hM.stands (p := p) (fun x hx => hlt x ((hMs' x).1 hx)) hp hs0
  have hlL : ∀ x, x ∈ l ↔ x ∈ L.map (·.1) := fun x => (hl3 x).trans (hMs' x)
  have hlp : ∀ x ∈ l, x < p := fun x hx => hlt x ((hlL x).1 hx)
  rcases Io.Runs.flush a2 a3 with ⟨u, D2, b1, b2, b3, b4, b5, b6⟩ | ⟨D2, b1, b2, b3, b4, b5⟩
  case inr =>
    refine .inr ⟨D2, by unfold ioCommit; rw [Io.and_ok a1, Io.and_error b1], b2, ?_⟩
    have : 1 ≤ D.armed ∧ D.armed ≤ 2 * L.length + 1 := by rcases a4 with q | ⟨k, q1, q2, q3, q4⟩ <;> omega
    exact ⟨this.1, by omega, .inl (.inl b3), fun _ => .inl b3, fun h => by omega⟩
  -- the marker
  obtain ⟨M, hMM⟩ : ∃ M, M = m.set 511 1 := ⟨_, rfl⟩
  have hMl : M.length = 512 := by rw [hMM, List.length_set]; exact hM.len
  have hslot : ∀ j, j < n → D2.last j = setsAt 1 L D.last j := fun j hj => by rw [b6 j hj, a6]
  have hbase : ∀ j, j = 0 ∨ 2 * p + 1 ≤ j → setsAt 1 L D.last j = D.last j := fun j hj => setsAt_not 1 j L _ fun x hx => by have := (hL x hx).1; omega
  -- what redoing makes of it
  have hredo : ∀ f : SF, (∀ j, j < n → j ≠ 0 → j < 2 * p + 1 → f j = setsAt 1 L D.last j) → (∀ j, 2 * p + 1 ≤ j → j < n → f j = H j ∨ (j < 4 * p + 1 ∧ (j - (2 * p + 1)) / 2 ∈ l)) → ∀ j, 2 * p + 1 ≤ j → j < n → redoAt p l f j = newAt p L H j := by
    intro f hf1 hf2 j hj hjn
    unfold redoAt
    by_cases hq : 2 * p + 1 ≤ j ∧ j < 4 * p + 1 ∧ (j - (2 * p + 1)) / 2 ∈ l
    · rw [if_pos hq, hf1 (j - 2 * p) (by omega) (by omega) (by omega)]
      unfold newAt
      have e := setsAt_in 1 (1 + 2 * p) ((j - (2 * p + 1)) / 2) ((j - (2 * p + 1)) % 2) (Nat.mod_lt _ (by omega)) L D.last H ((hlL _).1 hq.2.2)
      rw [show 1 + 2 * ((j - (2 * p + 1)) / 2) + (j - (2 * p + 1)) % 2 = j - 2 * p by omega, show 1 + 2 * p + 2 * ((j - (2 * p + 1)) / 2) + (j - (2 * p + 1)) % 2 = j by omega] at e
      exact e
    · rw [if_neg hq]
      have hfj : f j = H j := by
        rcases hf2 j hj hjn with h | h
        · exact h
        · exact absurd ⟨hj, h⟩ hq
      rw [hfj]
      unfold newAt
      rw [setsAt_not]
      intro x hx
      have hxl : x.1 ∈ l := (hlL _).2 (List.mem_map_of_mem hx)
      have hxp := hlp _ hxl
      constructor
      · intro e; apply hq; refine ⟨hj, by omega, ?_⟩; rw [show (j - (2 * p + 1)) / 2 = x.1 by omega]; exact hxl
      · intro e; apply hq; refine ⟨hj, by omega, ?_⟩; rw [show (j - (2 * p + 1)) / 2 = x.1 by omega]; exact hxl
  let IB : SF → Prop := fun f => (∀ j, j < n → j ≠ 0 → f j = D2.last j) ∧ ((f 0).getD 511 0 = 0 ∧ (f 0).length = 512 ∨ f 0 = M)
  have hD2H : ∀ j, 2 * p + 1 ≤ j → j < n → D2.last j = H j := fun j hj hjn => by rw [hslot j hjn, hbase j (.inr hj)]; exact hF0.2 j hj hjn
  have hIB : ∀ f, IB f → Good n p H f ∨ Good n p (newAt p L H) f := by
    rintro f ⟨h1, ⟨h2, -⟩ | h2⟩
    · exact .inl (.inl ⟨h2, fun j hj hjn => by rw [h1 j hjn (by omega)]; exact hD2H j hj hjn⟩)
    · refine .inr (.inr ⟨l, by rw [h2, hMM]; exact hl1, hl2, hlp, hredo f (fun j hj h0 hj2 => by rw [h1 j hj h0, hslot j hj]) (fun j hj hjn => .inl (by rw [h1 j hjn (by omega)]; exact hD2H j hj hjn))⟩)
  have hSB : Shut IB 0 M := by
    intro f r hr ⟨h1, h2⟩
    refine ⟨fun j hj h0 => by rw [upd_ne _ _ _ _ _ h0]; exact h1 j hj h0, ?_⟩
    rw [upd_eq]
    rcases h2 with ⟨h2, h3⟩ | h2
    · by_cases h5 : r ≤ 511
      · left
        refine ⟨by rw [torn_last _ _ _ hMl h5]; exact h2, ?_⟩
        rw [List.length_append, List.length_take, List.length_drop]; omega
      · exact .inr (torn_whole _ _ _ hMl (by omega) (by omega))
    · rw [h2]; exact .inr (List.take_append_drop _ _)
  have hB0 : IB D2.last := ⟨fun _ _ _ => rfl, .inl ⟨by rw [hslot 0 (by omega), hbase 0 (.inl rfl)]; exact hF0.1, b2.len 0 (by omega)⟩⟩
  have hAB := a4.trans b4
  rcases (Io.Runs.write b2 (Dev.Inv.of b5 hB0) 0 (by omega) M hMl hSB).and (c := 1) (d := 1) fun _ D3 c1 c2 c3 => (Io.Runs.flush c1 c2).mono (Q' := fun _ D4 => D4.pend = [] ∧ ∀ j, j < n → D4.last j = if j = 0 then M else D2.last j) (Nat.le_refl _) (Nat.le_refl _) (fun _ h => h) fun _ D4 _ ⟨q1, q2⟩ => ⟨q1, fun j hj => by rw [q2 j hj, c3 j]⟩ with ⟨u3, D4, c1, c2, c3, c4, c5, c6⟩ | ⟨D4, c1, c2, c3, c4, c5⟩
  case inr =>
    refine .inr ⟨D4, ?_, c2, ?_⟩
    · unfold ioCommit
      rw [Io.and_ok a1, Io.and_ok b1, ← hMM, ← Io.and_assoc, Io.and_error c1]
    · have : 1 ≤ D.armed ∧ 2 * L.length + 1 < D.armed ∧ D.armed ≤ 2 * L.length + 3 := by rcases hAB with q | ⟨k, q1, q2, q3, q4⟩ <;> omega
      exact ⟨this.1, by omega, hIB _ c3, fun h => by omega, fun h => by omega⟩
  have hABC := hAB.trans c4
  -- the homes
  have hst4 : Stood n p (newAt p L H) l D4.last := by
    refine ⟨by rw [c6 0 (by omega), if_pos rfl, hMM]; exact hl1, hl2, hlp, hredo _ (fun j hj h0 hj2 => by rw [c6 j hj, if_neg h0, hslot j hj]) (fun j hj hjn => .inl (by rw [c6 j hjn, if_neg (by omega)]; exact hD2H j hj hjn))⟩
  rcases (homes_runs (I := Stood n p (newAt p L H) l) hn L D4 (fun x hx k b hk => Stood.home x.1 k ((hlL _).2 (List.mem_map_of_mem hx)) hk (hL x hx).1 b) c2 (Dev.Inv.of c5 hst4) hL).and (c := 1) (d := 1) fun _ D5 d1 d2 d3 => (Io.Runs.flush d1 d2).mono (Q' := fun _ D6 => D6.pend = [] ∧ ∀ j, j < n → D6.last j = setsAt (1 + 2 * p) L D4.last j) (Nat.le_refl _) (Nat.le_refl _) (fun _ h => h) fun _ D6 _ ⟨q1, q2⟩ => ⟨q1, fun j hj => by rw [q2 j hj, d3]⟩ with ⟨u4, D6, d1, d2, d3, d4, d5, d6⟩ | ⟨D6, d1, d2, d3, d4, d5⟩
  case inr =>
    refine .inr ⟨D6, ?_, d2, ?_⟩
    · unfold ioCommit
      rw [Io.and_ok a1, Io.and_ok b1, ← hMM, ← Io.and_assoc, Io.and_ok c1, ← Io.and_assoc, Io.and_error d1]
    · have : 1 ≤ D.armed ∧ 2 * L.length + 3 < D.armed ∧ D.armed ≤ 4 * L.length + 4 := by rcases hABC with q | ⟨k, q1, q2, q3, q4⟩ <;> omega
      exact ⟨this.1, by omega, .inr (.inr ⟨l, d3⟩), fun h => by omega, fun _ => .inr ⟨l, d3⟩⟩
  have hABD := hABC.trans d4
  -- the marker falls
  have h6low : ∀ j, j < 2 * p + 1 → D6.last j = D4.last j := fun j hj => by rw [d6 j (by omega)]; exact setsAt_not _ j L _ fun x hx => by omega
  have h6home : ∀ j, 2 * p + 1 ≤ j → j < n → D6.last j = newAt p L H j := by
    intro j hj hjn
    rw [d6 j hjn]
    unfold newAt
    rcases setsAt_place (1 + 2 * p) j L with ⟨x, k, hk, rfl, hx⟩ | e
    · exact setsAt_in _ _ x k hk L _ _ hx
    · rw [setsAt_not _ _ _ _ e, setsAt_not _ _ _ _ e, c6 j hjn, if_neg (by omega)]; exact hD2H j hj hjn
  have hst6 : Stood n p (newAt p L H) l D6.last := by
    refine ⟨by rw [h6low 0 (by omega), c6 0 (by omega), if_pos rfl, hMM]; exact hl1, hl2, hlp, fun j hj hjn => ?_⟩
    rw [← hst4.2.2.2 j hj hjn]
    unfold redoAt
    split
    · exact h6low _ (by omega)
    · rename_i hq
      rw [h6home j hj hjn, ← hst4.2.2.2 j hj hjn]; unfold redoAt; rw [if_neg hq]
  have hM6 : D6.last 0 = M := by rw [h6low 0 (by omega), c6 0 (by omega), if_pos rfl]
  have hfalls := falls_runs hn d2 d5 hst6 h6home
  rw [hM6] at hfalls
  rcases hfalls with ⟨u5, D8, e1, e2, e3, e4, e5, e6, e7⟩ | ⟨D8, e1, e2, e3, e4, e5⟩
  case inr =>
    refine .inr ⟨D8, ?_, e2, ?_⟩
    · unfold ioCommit
      rw [Io.and_ok a1, Io.and_ok b1, ← hMM, ← Io.and_assoc, Io.and_ok c1, ← Io.and_assoc, Io.and_ok d1, Io.and_error e1]
    · have : 1 ≤ D.armed ∧ 2 * L.length + 3 < D.armed ∧ D.armed ≤ 4 * L.length + 6 := by rcases hABD with q | ⟨k, q1, q2, q3, q4⟩ <;> omega
      exact ⟨this.1, by omega, .inr e3, fun h => by omega, fun _ => e3⟩
  have hABE := hABD.trans e4
  -- the log is blank again
  have hlast := (Io.Runs.write (I := Fallen n p (newAt p L H)) e2 (Dev.Inv.of e5 e6) 0 (by omega) sect0 (zrs_length 512) (Fallen.zero 0 (by omega))).and (c := 2 * L.length + 1) (d := 2 * L.length + 1) (f := fun _ => (ioBlank L).and fun _ => ioFlush) (Q' := fun _ D' => D'.pend = [] ∧ ∀ j, j < n → D'.last j = setsAt 1 (blanks L) (fun j => if j = 0 then sect0 else D8.last j) j)
    fun _ D9 f1 f2 f3 => (blank_runs hn (fun i b hi h0 => Fallen.log i hi h0 b) L D9 f1 f2 (fun x hx => (hL x hx).1)).and (c := 1) (d := 1) fun _ D10 g1 g2 g3 => (Io.Runs.flush g1 g2).mono (Nat.le_refl _) (Nat.le_refl _) (fun _ h => h) fun _ D11 _ ⟨q1, q2⟩ => ⟨q1, fun j hj => by
      rw [q2 j hj, g3]
      congr 1
      funext j
      exact f3 j⟩
  rcases hlast with ⟨u6, D', f1, f2, f3, f4, f5, f6⟩ | ⟨D', f1, f2, f3, f4, f5⟩
  · refine .inl ⟨D', ?_, f2, (hABE.trans f4).mono (by omega) (by omega), f5, fun j hj => ?_⟩
    · unfold ioCommit
      rw [Io.and_ok a1, Io.and_ok b1, ← hMM, ← Io.and_assoc, Io.and_ok c1, ← Io.and_assoc, Io.and_ok d1, Io.and_ok e1, f1]
    · rw [f6 j hj]
      unfold cleanAt
      by_cases hjl : j < 2 * p + 1
      · rw [if_pos hjl]
        rcases setsAt_place 1 j (blanks L) with ⟨x, k, hk, rfl, hx⟩ | e
        · have hb : ∀ (L : List (Nat × List UInt8)) (f : SF), x ∈ L.map (·.1) → (∀ y ∈ L, y.2 = zrs 1024) → setsAt 1 L f (1 + 2 * x + k) = sect0 := by
            intro L
            induction L with
            | nil => intro f h; simp at h
            | cons y r ih =>
              intro f h hz
              rw [setsAt_cons]
              by_cases hr : x ∈ r.map (·.1)
              · exact ih _ hr fun z hz' => hz z (by simp [hz'])
              · have hy : y.1 = x := by
                  rw [List.map_cons, List.mem_cons] at h
                  rcases h with h | h
                  · exact h.symm
                  · exact absurd h hr
                rw [setsAt_not _ _ _ _ (fun z hz' => by
                  have : z.1 ≠ x := fun e => hr (by rw [← e]; exact List.mem_map_of_mem hz')
                  omega)]
                unfold set2
                rw [hy, hz y (by simp)]
                have : k = 0 ∨ k = 1 := by omega
                rcases this with rfl | rfl
                · rw [if_pos (by omega)]; unfold zrs sect0 zrs; rw [List.take_replicate]; rfl
                · rw [if_neg (by omega), if_pos rfl]; unfold zrs sect0 zrs; rw [List.drop_replicate]
          refine hb _ _ hx fun y hy => ?_
          obtain ⟨z, -, rfl⟩ := List.mem_map.1 hy
          rfl
        · rw [setsAt_not _ _ _ _ e]
          by_cases h0 : j = 0
          · rw [if_pos h0]
          · have e2 : ∀ x ∈ L, j ≠ 1 + 2 * x.1 ∧ j ≠ 1 + 2 * x.1 + 1 := fun x hx => e (x.1, zrs 1024) (List.mem_map_of_mem (f := fun x : Nat × List UInt8 => (x.1, zrs 1024)) hx)
            rw [if_neg h0, e7 j hj h0, h6low j hjl, c6 j hj, if_neg h0, hslot j hj, setsAt_not _ _ _ _ e2, hc j hj]; unfold cleanAt; rw [if_pos hjl]
      · rw [if_neg hjl]
        rw [setsAt_not 1 j _ _ (fun x hx => by
          obtain ⟨z, hz, rfl⟩ := List.mem_map.1 hx
          have := (hL z hz).1
          show j ≠ 1 + 2 * z.1 ∧ j ≠ 1 + 2 * z.1 + 1
          omega), if_neg (by omega)]
        exact e6.2 j (by omega) hj
  · refine .inr ⟨D', ?_, f2, ?_⟩
    · unfold ioCommit
      rw [Io.and_ok a1, Io.and_ok b1, ← hMM, ← Io.and_assoc, Io.and_ok c1, ← Io.and_assoc, Io.and_ok d1, Io.and_ok e1, f1]
    · have : 1 ≤ D.armed ∧ 2 * L.length + 3 < D.armed ∧ D.armed ≤ 6 * L.length + 8 := by rcases hABE with q | ⟨k, q1, q2, q3, q4⟩ <;> omega
      exact ⟨this.1, this.2.2, .inr (.inl f3), fun h => by omega, fun _ => .inl f3⟩
end
end Go.Le

/- The law's room as plain data: a disk whose homes are these pages; what Commit, Open, Read make of it. No program in sight. -/
set_option linter.unusedVariables false
set_option linter.unusedSimpArgs false
namespace Go.Le
open Go Go.RowKit
set_option maxRecDepth 20000
/-- pages, laid over others -/
def setP (L : List (List UInt8)) (l : List (Nat × List UInt8)) : List (List UInt8) := l.foldl (fun L x => L.set x.1 x.2) L
theorem setP_cons (L : List (List UInt8)) (x : Nat × List UInt8) (r : List (Nat × List UInt8)) : setP L (x :: r) = setP (L.set x.1 x.2) r := rfl
theorem setP_snoc (L : List (List UInt8)) (l : List (Nat × List UInt8)) (x : Nat × List UInt8) : setP L (l ++ [x]) = (setP L l).set x.1 x.2 := by unfold setP; rw [List.foldl_append]; rfl
theorem setP_length (L : List (List UInt8)) : ∀ l : List (Nat × List UInt8), (setP L l).length = L.length := by
  intro l
  induction l generalizing L with
  | nil => rfl
  | cons x r ih => rw [setP_cons, ih, List.length_set]
theorem setP_not (i : Nat) : ∀ (l : List (Nat × List UInt8)) (L : List (List UInt8)), i ∉ l.map (·.1) → (setP L l)[i]? = L[i]?
  | [], L, _ => rfl
  | x :: r, L, h => by
    rw [List.map_cons, List.mem_cons, not_or] at h
    rw [setP_cons, setP_not i r _ h.2, List.getElem?_set_ne (fun e => h.1 e.symm)]
theorem setP_in (i : Nat) (pg : List UInt8) : ∀ (l : List (Nat × List UInt8)) (L : List (List UInt8)), (l.map (·.1)).Nodup → (i, pg) ∈ l → i < L.length → (setP L l)[i]? = some pg
  | [], L, _, h, _ => by simp at h
  | x :: r, L, hn, h, hi => by
    rw [List.map_cons, List.nodup_cons] at hn
    rw [setP_cons]
    rcases List.mem_cons.1 h with h | h
    · subst h
      rw [setP_not _ _ _ hn.1, List.getElem?_set_self hi]
    · exact setP_in i pg r _ hn.2 h (by rw [List.length_set]; exact hi)
theorem setP_perm {l l' : List (Nat × List UInt8)} (h : l'.Perm l) (hn : (l.map (·.1)).Nodup) (L : List (List UInt8)) : setP L l' = setP L l := by
  apply List.ext_getElem?
  intro i
  have hn' : (l'.map (·.1)).Nodup := (h.map _).nodup_iff.2 hn
  by_cases hi : i ∈ l.map (·.1)
  · obtain ⟨x, hx, rfl⟩ := List.mem_map.1 hi
    by_cases hl : x.1 < L.length
    · rw [setP_in x.1 x.2 l L hn hx hl, setP_in x.1 x.2 l' L hn' (h.mem_iff.2 hx) hl]
    · rw [List.getElem?_eq_none (by rw [setP_length]; omega), List.getElem?_eq_none (by rw [setP_length]; omega)]
  · rw [setP_not _ _ _ hi, setP_not _ _ _ (fun h' => hi ((h.map _).mem_iff.1 h'))]
/-- what the homes hold, and what is behind -/
def pgSec (p : Nat) (L : List (List UInt8)) : SF := fun j => if j < 4 * p + 1 then (if (j - (2 * p + 1)) % 2 = 0 then (L.getD ((j - (2 * p + 1)) / 2) []).take 512 else (L.getD ((j - (2 * p + 1)) / 2) []).drop 512) else sect0
theorem pgSec_set2 (p : Nat) (L : List (List UInt8)) (x : Nat × List UInt8) (hL : L.length = p) (hx : x.1 < p) (j : Nat) (hj : 2 * p + 1 ≤ j) : set2 (1 + 2 * p) (pgSec p L) x j = pgSec p (L.set x.1 x.2) j := by
  have hself : (L.set x.1 x.2).getD x.1 [] = x.2 := by unfold List.getD; rw [List.getElem?_set_self (by omega)]; rfl
  have hne : ∀ k, k ≠ x.1 → (L.set x.1 x.2).getD k [] = L.getD k [] := fun k hk => by unfold List.getD; rw [List.getElem?_set_ne (fun e => hk e.symm)]
  unfold set2 pgSec
  by_cases h0 : j = 1 + 2 * p + 2 * x.1
  · rw [if_pos h0, if_pos (by omega), if_pos (by omega), show (j - (2 * p + 1)) / 2 = x.1 by omega, hself]
  · rw [if_neg h0]
    by_cases h1 : j = 1 + 2 * p + 2 * x.1 + 1
    · rw [if_pos h1, if_pos (by omega), if_neg (by omega), show (j - (2 * p + 1)) / 2 = x.1 by omega, hself]
    · rw [if_neg h1, hne _ (by omega)]
theorem setsAt_congr (c b : Nat) : ∀ (l : List (Nat × List UInt8)) (f g : SF), (∀ j, b ≤ j → f j = g j) → ∀ j, b ≤ j → setsAt c l f j = setsAt c l g j
  | [], f, g, h => h
  | x :: r, f, g, h => setsAt_congr c b r _ _ fun j hj => by unfold set2; rw [h j hj]
theorem newAt_pg (p : Nat) : ∀ (l : List (Nat × List UInt8)) (L : List (List UInt8)), L.length = p → (∀ x ∈ l, x.1 < p) → ∀ j, 2 * p + 1 ≤ j → newAt p l (pgSec p L) j = pgSec p (setP L l) j
  | [], L, _, _ => fun j _ => rfl
  | x :: r, L, hL, hx => by
    intro j hj
    have h1 := newAt_pg p r (L.set x.1 x.2) (by rw [List.length_set]; exact hL) (fun y hy => hx y (by simp [hy])) j hj
    rw [setP_cons, ← h1]
    exact setsAt_congr _ (2 * p + 1) r _ _ (fun j hj => pgSec_set2 p L x hL (hx x (by simp)) j hj) j hj
theorem Good.congr {n p : Nat} {H H' f : SF} (h : ∀ j, 2 * p + 1 ≤ j → H j = H' j) (hg : Good n p H f) : Good n p H' f := by
  rcases hg with ⟨a, b⟩ | ⟨l, a, b, c, d⟩
  · exact .inl ⟨a, fun j hj hn => (b j hj hn).trans (h j hj)⟩
  · exact .inr ⟨l, a, b, c, fun j hj hn => (d j hj hn).trans (h j hj)⟩
theorem cleanAt_congr {p : Nat} {H H' : SF} (h : ∀ j, 2 * p + 1 ≤ j → H j = H' j) (j : Nat) : cleanAt p H j = cleanAt p H' j := by
  unfold cleanAt
  split
  · rfl
  · exact h j (by omega)
/-- pages: so many, each whole -/
structure Pages (p : Nat) (L : List (List UInt8)) : Prop where
  len : L.length = p
  each : ∀ x ∈ L, x.length = 1024
theorem Pages.set {p : Nat} {L : List (List UInt8)} {l : List (Nat × List UInt8)} (h : Pages p L) (hl : ∀ x ∈ l, x.1 < p ∧ x.2.length = 1024) : Pages p (setP L l) := by
  refine ⟨by rw [setP_length]; exact h.len, ?_⟩
  have key : ∀ (l : List (Nat × List UInt8)) (L : List (List UInt8)), (∀ x ∈ l, x.2.length = 1024) → (∀ x ∈ L, x.length = 1024) → ∀ x ∈ setP L l, x.length = 1024 := by
    intro l
    induction l with
    | nil => intro L _ h; exact h
    | cons y r ih =>
      intro L hl hL
      rw [setP_cons]
      refine ih _ (fun x hx => hl x (by simp [hx])) fun x hx => ?_
      rcases List.mem_or_eq_of_mem_set hx with hx | hx
      · exact hL x hx
      · rw [hx]; exact hl y (by simp)
  exact key l L (fun x hx => (hl x hx).2) h.each
theorem Pages.getD {p : Nat} {L : List (List UInt8)} (h : Pages p L) {x : Nat} (hx : x < p) : (L.getD x []).length = 1024 := by
  have hl : x < L.length := by rw [h.len]; exact hx
  unfold List.getD
  rw [List.getElem?_eq_getElem hl]
  exact h.each _ (List.getElem_mem hl)
/-- a clean disk with these pages -/
structure Rm (D : Dev) (n p : Nat) (L : List (List UInt8)) : Prop where
  live : Live D n
  pend : D.pend = []
  last : ∀ j, j < n → D.last j = cleanAt p (pgSec p L) j
  pages : Pages p L
theorem Rm.page {D : Dev} {n p : Nat} {L : List (List UInt8)} (h : Rm D n p L) (hn : 4 * p + 1 ≤ n) {x : Nat} (hx : x < p) : ioPage p x D = (.ok (L.getD x []), D) := by
  have h1 : homeOf p x < n := by unfold homeOf; omega
  have h2 : homeOf p x + 1 < n := by unfold homeOf; omega
  unfold ioPage
  rw [Io.and_ok (h.live.read _ h1), Io.and_ok (h.live.read _ h2), h.last _ h1, h.last _ h2]
  have e1 : cleanAt p (pgSec p L) (homeOf p x) = (L.getD x []).take 512 := by
    unfold cleanAt pgSec homeOf
    rw [if_neg (by omega), if_pos (by omega), if_pos (by omega), show (1 + 2 * p + 2 * x - (2 * p + 1)) / 2 = x by omega]
  have e2 : cleanAt p (pgSec p L) (homeOf p x + 1) = (L.getD x []).drop 512 := by
    unfold cleanAt pgSec homeOf
    rw [if_neg (by omega), if_pos (by omega), if_neg (by omega), show (1 + 2 * p + 2 * x + 1 - (2 * p + 1)) / 2 = x by omega]
  rw [e1, e2, List.take_append_drop]
  rfl
theorem Rm.img {D : Dev} {n p more : Nat} {L : List (List UInt8)} (h : Rm D n p L) (hn : n = 4 * p + 1 + more) : D.img = zrs (512 * (1 + 2 * p)) ++ L.flatten ++ zrs (512 * more) := by
  have hfl : L.flatten.length = 1024 * p := by
    have e : L.map List.length = List.replicate p 1024 := by
      rw [List.eq_replicate_iff]
      refine ⟨by simp [h.pages.len], fun b hb => ?_⟩
      obtain ⟨y, hy, rfl⟩ := List.mem_map.1 hb
      exact h.pages.each y hy
    rw [List.length_flatten, e, List.sum_replicate_nat]
    omega
  apply List.ext_getElem?
  intro i
  by_cases hi : i < n * 512
  · have e0 : D.img[i]? = (D.last (i / 512))[i % 512]? := by
      rw [← Live.secs h.pend]
      unfold secs
      rw [sec_at _ _ _ (Nat.mod_lt _ (by omega))]
      congr 1
      omega
    rw [e0, h.last _ (by omega)]
    unfold cleanAt
    by_cases h1 : i / 512 < 2 * p + 1
    · rw [if_pos h1, sect0_at _ (Nat.mod_lt _ (by omega)), List.append_assoc, List.getElem?_append_left (by rw [zrs_length]; omega), zrs_at _ _ (by omega)]
    · rw [if_neg h1]
      unfold pgSec
      by_cases h2 : i / 512 < 4 * p + 1
      · rw [if_pos h2, List.getElem?_append_left (by rw [List.length_append, zrs_length, hfl]; omega), List.getElem?_append_right (by rw [zrs_length]; omega), zrs_length, flat_at 1024 (by omega) L _ h.pages.each]
        have hx : (i - 512 * (1 + 2 * p)) / 1024 = (i / 512 - (2 * p + 1)) / 2 := by omega
        have hxp : (i / 512 - (2 * p + 1)) / 2 < p := by omega
        have hxl : (i / 512 - (2 * p + 1)) / 2 < L.length := by rw [h.pages.len]; exact hxp
        rw [hx]
        have eg : L.getD ((i / 512 - (2 * p + 1)) / 2) [] = L[(i / 512 - (2 * p + 1)) / 2] := by unfold List.getD; rw [List.getElem?_eq_getElem hxl]; rfl
        rw [eg, List.getElem?_eq_getElem hxl, Option.bind_some]
        by_cases h3 : (i / 512 - (2 * p + 1)) % 2 = 0
        · rw [if_pos h3, List.getElem?_take, if_pos (Nat.mod_lt _ (by omega))]
          congr 1
          omega
        · rw [if_neg h3, List.getElem?_drop]
          congr 1
          omega
      · rw [if_neg h2, sect0_at _ (Nat.mod_lt _ (by omega)), List.getElem?_append_right (by rw [List.length_append, zrs_length, hfl]; omega), List.length_append, zrs_length, hfl, zrs_at _ _ (by omega)]
  · rw [List.getElem?_eq_none (by rw [h.live.img]; omega), List.getElem?_eq_none]
    rw [List.length_append, List.length_append, zrs_length, zrs_length, hfl]
    omega
/-- a new disk -/
theorem Rm.new {D : Dev} {n p : Nat} (h : Calm D n) (hp : D.pend = []) (hi : D.img = zrs (n * 512)) : Rm D n p (List.replicate p (zrs 1024)) := by
  refine ⟨h.live, hp, fun j hj => ?_, by simp, fun x hx => by rw [(List.mem_replicate.1 hx).2]; exact zrs_length _⟩
  rw [← Live.secs hp, hi]
  have e : secs (zrs (n * 512)) j = sect0 := by
    unfold secs sec sect0 zrs
    rw [List.drop_replicate, List.take_replicate]
    congr 1
    omega
  rw [e]
  unfold cleanAt
  split
  · rfl
  · unfold pgSec
    split
    · have hx : (j - (2 * p + 1)) / 2 < p := by omega
      have eg : (List.replicate p (zrs 1024)).getD ((j - (2 * p + 1)) / 2) [] = zrs 1024 := by unfold List.getD; rw [List.getElem?_replicate, if_pos hx]; rfl
      rw [eg]
      split
      · unfold sect0 zrs; rw [List.take_replicate]; rfl
      · unfold sect0 zrs; rw [List.drop_replicate]
    · rfl
/-- what a fall has left: these pages, once it is opened -/
structure Rest (D : Dev) (n p : Nat) (L : List (List UInt8)) : Prop where
  good : Good n p (pgSec p L) D.last
  pages : Pages p L
/-- COMMIT in a room -/
theorem Rm.commit {D : Dev} {n p : Nat} {L : List (List UInt8)} (h : Rm D n p L) (hp : p ≤ 250) (hn : 4 * p + 1 ≤ n) {l l' : List (Nat × List UInt8)} (hl : ∀ x ∈ l, x.1 < p ∧ x.2.length = 1024) (hnd : (l.map (·.1)).Nodup) (hl0 : l ≠ []) (hperm : l'.Perm l) :
    (∃ D', ioCommit p l' D = (.ok (), D') ∧ Armed D D' (6 * l.length + 8) (6 * l.length + 8) ∧ Rm D' n p (setP L l)) ∨
    (∃ D', ioCommit p l' D = (.error 80, D') ∧ Fell D' n ∧ 1 ≤ D.armed ∧ D.armed ≤ 6 * l.length + 8 ∧ (Rest D' n p L ∨ Rest D' n p (setP L l)) ∧ (D.armed ≤ 2 * l.length + 1 → Rest D' n p L) ∧ (2 * l.length + 3 < D.armed → Rest D' n p (setP L l))) := by
  have hl' : ∀ x ∈ l', x.1 < p ∧ x.2.length = 1024 := fun x hx => hl x (hperm.mem_iff.1 hx)
  have hl0' : l' ≠ [] := fun e => hl0 (by rw [e] at hperm; exact hperm.symm.eq_nil)
  have hln : l'.length = l.length := hperm.length_eq
  have hpg := Pages.set h.pages hl
  have hcg : ∀ j, 2 * p + 1 ≤ j → newAt p l' (pgSec p L) j = pgSec p (setP L l) j := fun j hj => by rw [newAt_pg p l' L h.pages.len (fun x hx => (hl' x hx).1) j hj, setP_perm hperm hnd]
  rcases commit_runs hp hn h.live h.pend h.last hl' hl0' with ⟨D', h1, h2, h3, h4, h5⟩ | ⟨D', h1, h2, h3, h4, h5, h6, h7⟩
  · rw [hln] at h3
    exact .inl ⟨D', h1, h3, h2, h4, fun j hj => by rw [h5 j hj]; exact cleanAt_congr hcg j, hpg⟩
  · rw [hln] at h4 h6 h7
    refine .inr ⟨D', h1, h2, h3, h4, ?_, fun q => ⟨h6 q, h.pages⟩, fun q => ⟨Good.congr hcg (h7 q), hpg⟩⟩
    rcases h5 with h5 | h5
    · exact .inl ⟨h5, h.pages⟩
    · exact .inr ⟨Good.congr hcg h5, hpg⟩
theorem Rm.rest {D : Dev} {n p : Nat} {L : List (List UInt8)} (h : Rm D n p L) (hn : 4 * p + 1 ≤ n) : Rest D n p L :=
  ⟨.inl ⟨by rw [h.last 0 (by omega)]; unfold cleanAt; rw [if_pos (by omega)]; exact sect0_getD _, fun j hj hjn => by rw [h.last j hjn]; unfold cleanAt; rw [if_neg (by omega)]⟩, h.pages⟩
/-- OPEN in a room that has fallen, up again -/
theorem Rest.open {D : Dev} {n p : Nat} {L : List (List UInt8)} (h : Rest D n p L) (hl : Live D n) (hpd : D.pend = []) (hp : roomOf n = p) (hp0 : p ≠ 0) (hn : 4 * p + 1 ≤ n) :
    (∃ b D', ioOpen D = (.ok (p, b), D') ∧ Rm D' n p L ∧ (D.armed = 0 → D'.armed = 0)) ∨ (∃ D', ioOpen D = (.error 80, D') ∧ Fell D' n ∧ Rest D' n p L ∧ 1 ≤ D.armed) := by
  obtain ⟨c, hc⟩ := open_runs hp hp0 hn hl hpd h.good
  rcases hc with ⟨⟨q, b⟩, D', h1, h2, h3, h4, h5, h6, h7⟩ | ⟨D', h1, h2, h3, h4, h5⟩
  · obtain rfl : q = p := h5
    refine .inl ⟨b, D', h1, ⟨h2, h6, h7, h.pages⟩, fun h0 => ?_⟩
    rcases h4 with h4 | ⟨k, _, _, q3, _⟩
    · exact h4.2
    · omega
  · exact .inr ⟨D', h1, h2, ⟨h3, h.pages⟩, h4⟩
/-- up again -/
theorem Fell.up {D : Dev} {n : Nat} (h : Fell D n) : Live D.up n ∧ D.up.pend = [] ∧ D.up.last = D.last ∧ D.up.armed = 0 := ⟨⟨Dev.up_ok h.ok, h.img, rfl⟩, h.pend, rfl, rfl⟩
/-- armed -/
theorem Live.armd {D : Dev} {n : Nat} (h : Live D n) (st : Int) (l : Loss) (h0 : 0 ≤ st) (h1 : st ≤ 9223372036854775807) (hl : l.ok) : D.arm st l = ({ D with armed := st, loss := l }, 0) ∧ Live { D with armed := st, loss := l } n := by
  refine ⟨by unfold Dev.arm; rw [h.down, if_neg (by simp), if_neg (by omega)], ⟨⟨h.ok.img, h.ok.pend, ⟨h0, h1⟩, hl.torn, hl.off, hl.keep, h.ok.calls⟩, h.img, h.down⟩⟩
theorem Rm.armd {D : Dev} {n p : Nat} {L : List (List UInt8)} (h : Rm D n p L) (st : Int) (l : Loss) (h0 : 0 ≤ st) (h1 : st ≤ 9223372036854775807) (hl : l.ok) : Rm { D with armed := st, loss := l } n p L :=
  ⟨(h.live.armd st l h0 h1 hl).2, h.pend, h.last, h.pages⟩
end Go.Le
