/- SectorsArmed, the plain law: an armed device, and one that is told to crash by itself. -/
import Derived.Test.YtpdppacafkdgdaaImgP
set_option linter.unusedVariables false
set_option linter.unusedSimpArgs false
namespace Go.Le
open Go Go.RowKit
/-- two devices that have done the same; the first is armed at its changing call number st from now on (0: it has given up, and so has the other) -/
structure Armd (l : Loss) (st : Nat) (D C : Dev) : Prop where
  img : D.img = C.img
  pend : D.pend = C.pend
  down : D.down = C.down
  n : D.img.length = 2048
  fit : ∀ p ∈ D.pend, p.1 * 512 + 512 ≤ 2048 ∧ p.2.length = 512
  run : 0 < st → D.down = false ∧ D.armed = st ∧ C.armed = 0 ∧ D.loss = l
/-- is a step a changing call? -/
def changes (S : StepV) : Bool := decide (S.kind ≠ 1 ∧ S.kind ≠ 9 ∧ (S.kind = 4 ∨ S.i % 5 < 4))
/-- is it a step that is played? -/
def played (S : StepV) : Prop := S.kind ≠ 7 ∧ S.kind ≠ 8 ∧ S.kind ≠ 5 ∧ S.kind ≠ 6
section
variable {l : Loss} {st : Nat} {D C : Dev} {S : StepV}
theorem Armd.asked (h : Armd l st D C) (i : Int) : D.asked i = C.asked i := by unfold Dev.asked Dev.n; rw [h.down, h.img]
theorem Armd.read (h : Armd l st D C) (i : Int) : D.read i = C.read i := by unfold Dev.read Dev.last; rw [h.asked, h.img, h.pend]
theorem callM_write (hp : played S) (h1 : S.kind ≠ 1) (h9 : S.kind ≠ 9) (h4 : S.kind ≠ 4) (D : Dev) : callM D S = ((D.write (S.i % 5) (secFill S.x S.b)).1, (D.write (S.i % 5) (secFill S.x S.b)).2, []) := by
  unfold callM
  rw [if_neg h1, if_neg h4, if_neg hp.1, if_neg hp.2.1, if_neg h9, if_neg (by intro h; rcases h with h | h; exact hp.2.2.1 h; exact hp.2.2.2 h)]
theorem Armd.asked_ok (h : Armd l st D C) (h0 : 0 < st) (hi : S.i % 5 < 4) : D.asked (S.i % 5) = 0 := by
  unfold Dev.asked Dev.n
  rw [(h.run h0).1, h.n, if_neg (by simp), if_neg (by omega)]
theorem Armd.asked_no (h : Armd l st D C) (h0 : 0 < st) (hi : ¬ S.i % 5 < 4) : D.asked (S.i % 5) = 81 := by
  unfold Dev.asked Dev.n
  rw [(h.run h0).1, h.n, if_neg (by simp), if_pos (by omega)]
theorem write_in (D : Dev) (i : Int) (x : UInt8) (b : List UInt8) (h : D.asked i = 0) :
    D.write i (secFill x b) = if ({ D with pend := D.pend ++ [(i.toNat, secFill x b)] } : Dev).fires then ((({ D with pend := D.pend ++ [(i.toNat, secFill x b)] } : Dev).count.fall D.loss), 80) else (({ D with pend := D.pend ++ [(i.toNat, secFill x b)] } : Dev).count, 0) := by
  unfold Dev.write
  rw [if_neg (by simp [h]), if_neg (by simp [secFill_length])]
theorem Armd.up_run (h : Armd l st D C) (h0 : 0 < st) : C.down = false := by rw [← h.down]; exact (h.run h0).1
theorem Armd.fit_push (h : Armd l st D C) {i : Int} (h0 : 0 ≤ i) (hi : i < 4) : ∀ p ∈ D.pend ++ [(i.toNat, secFill S.x S.b)], p.1 * 512 + 512 ≤ 2048 ∧ p.2.length = 512 := by
  intro p hp
  rcases List.mem_append.1 hp with hp | hp
  · exact h.fit p hp
  · simp only [List.mem_singleton] at hp
    subst hp
    exact ⟨by show i.toNat * 512 + 512 ≤ 2048; omega, secFill_length _ _⟩
/-- a step that changes nothing -/
theorem Armd.still (h : Armd l st D C) (h0 : 0 < st) (hp : played S) (hc : changes S = false) : (callM D S).1 = D ∧ (callM C S).1 = C ∧ (callM D S).2 = (callM C S).2 := by
  have hn : ¬ (S.kind ≠ 1 ∧ S.kind ≠ 9 ∧ (S.kind = 4 ∨ S.i % 5 < 4)) := of_decide_eq_false hc
  by_cases h1 : S.kind = 1
  · unfold callM
    rw [if_pos h1, if_pos h1, h.read]
    exact ⟨rfl, rfl, rfl⟩
  · by_cases h9 : S.kind = 9
    · unfold callM
      simp only [h9, h.img]
      exact ⟨rfl, rfl, rfl⟩
    · have h4 : S.kind ≠ 4 := fun h => hn ⟨h1, h9, .inl h⟩
      have hi : ¬ S.i % 5 < 4 := fun h => hn ⟨h1, h9, .inr h⟩
      rw [callM_write hp h1 h9 h4, callM_write hp h1 h9 h4]
      have hD := h.asked_no h0 hi
      have hC := hD
      rw [h.asked] at hC
      unfold Dev.write
      rw [if_pos (by simp [hD]), if_pos (by simp [hC]), hD, hC]
      exact ⟨rfl, rfl, rfl⟩
/-- a changing step ahead of the last one -/
theorem Armd.next (h : Armd l (st + 1) D C) (h0 : 0 < st) (hp : played S) (hc : changes S = true) : (callM D S).2 = (callM C S).2 ∧ Armd l st (callM D S).1 (callM C S).1 := by
  obtain ⟨h1, h9, hk⟩ := of_decide_eq_true hc
  obtain ⟨r1, r2, r3, r4⟩ := h.run (by omega)
  have hcd := h.up_run (by omega)
  have f1 : D.fires = false := by unfold Dev.fires; rw [r2]; simp; omega
  have f2 : C.fires = false := by unfold Dev.fires; rw [r3]; rfl
  have a1 : D.count.armed = st := by simp only [Dev.count]; rw [r2, if_neg (by omega)]; omega
  have a2 : C.count.armed = 0 := by simp only [Dev.count]; rw [r3, if_pos rfl]
  by_cases h4 : S.kind = 4
  · unfold callM
    rw [if_neg h1, if_neg h1, if_pos h4, if_pos h4]
    unfold Dev.flush
    rw [r1, hcd, f1, f2]
    refine ⟨rfl, ?_⟩
    have hl : ∀ (L : List (Nat × List UInt8)) (img : List UInt8), flushed img L = flushed img L := fun _ _ => rfl
    refine ⟨by show flushed D.img D.pend = flushed C.img C.pend; rw [h.img, h.pend], rfl, by show D.count.down = C.count.down; exact h.down, ?_, by simp, fun _ => ⟨r1, a1, a2, r4⟩⟩
    show (flushed D.img D.pend).length = 2048
    exact (flushed_length D.pend D.img (by rw [h.n]; exact h.fit)).trans h.n
  · have hi : S.i % 5 < 4 := by rcases hk with h | h; exact absurd h h4; exact h
    have hi0 : 0 ≤ S.i % 5 := by omega
    rw [callM_write hp h1 h9 h4, callM_write hp h1 h9 h4]
    have hD := h.asked_ok (by omega) hi
    have hC := hD
    rw [h.asked] at hC
    rw [write_in D _ _ _ hD, write_in C _ _ _ hC]
    have f1' : ({ D with pend := D.pend ++ [((S.i % 5).toNat, secFill S.x S.b)] } : Dev).fires = false := f1
    have f2' : ({ C with pend := C.pend ++ [((S.i % 5).toNat, secFill S.x S.b)] } : Dev).fires = false := f2
    rw [f1', f2']
    exact ⟨rfl, h.img, by simp [Dev.count, h.pend], h.down, h.n, h.fit_push hi0 hi, fun _ => ⟨r1, a1, a2, r4⟩⟩
/-- the changing step that gives up: a Flush -/
theorem Armd.fires_flush (h : Armd l 1 D C) (h4 : S.kind = 4) : (callM D S).2.1 = 80 ∧ (C.crash l).2 = 0 ∧ Armd l 0 (callM D S).1 (C.crash l).1 := by
  obtain ⟨r1, r2, r3, r4⟩ := h.run (by omega)
  have hcd := h.up_run (by omega)
  have f1 : D.fires = true := by unfold Dev.fires; rw [r2]; rfl
  unfold callM
  rw [if_neg (by omega), if_pos h4]
  unfold Dev.flush Dev.crash
  rw [r1, hcd, f1]
  refine ⟨rfl, rfl, ?_⟩
  refine ⟨?_, rfl, rfl, ?_, by simp [Dev.fall], fun h => by omega⟩
  · show fallFrom D.loss 0 D.img D.pend = fallFrom l 0 C.img C.pend
    rw [r4, h.img, h.pend]
  · show (fallFrom D.loss 0 D.img D.pend).length = 2048
    exact (fallFrom_length _ _ _ _ (by rw [h.n]; exact h.fit)).trans h.n
/-- the changing step that gives up: a Write -/
theorem Armd.fires_write (h : Armd l 1 D C) (hp : played S) (hc : changes S = true) (h4 : S.kind ≠ 4) : (callM D S).2.1 = 80 ∧ ((callM C S).1.crash l).2 = 0 ∧ Armd l 0 (callM D S).1 ((callM C S).1.crash l).1 := by
  obtain ⟨h1, h9, hk⟩ := of_decide_eq_true hc
  obtain ⟨r1, r2, r3, r4⟩ := h.run (by omega)
  have hcd := h.up_run (by omega)
  have f1 : D.fires = true := by unfold Dev.fires; rw [r2]; rfl
  have f2 : C.fires = false := by unfold Dev.fires; rw [r3]; rfl
  have hi : S.i % 5 < 4 := by rcases hk with h | h; exact absurd h h4; exact h
  have hi0 : 0 ≤ S.i % 5 := by omega
  rw [callM_write hp h1 h9 h4, callM_write hp h1 h9 h4]
  have hD := h.asked_ok (by omega) hi
  have hC := hD
  rw [h.asked] at hC
  rw [write_in D _ _ _ hD, write_in C _ _ _ hC]
  have f1' : ({ D with pend := D.pend ++ [((S.i % 5).toNat, secFill S.x S.b)] } : Dev).fires = true := f1
  have f2' : ({ C with pend := C.pend ++ [((S.i % 5).toNat, secFill S.x S.b)] } : Dev).fires = false := f2
  rw [f1', f2']
  simp only [if_true, Bool.false_eq_true, if_false]
  unfold Dev.crash
  have hcd' : ({ C with pend := C.pend ++ [((S.i % 5).toNat, secFill S.x S.b)] } : Dev).count.down = false := hcd
  rw [hcd']
  refine ⟨trivial, rfl, ?_⟩
  refine ⟨?_, rfl, rfl, ?_, by simp [Dev.fall], fun h => by omega⟩
  · show fallFrom D.loss 0 D.img _ = fallFrom l 0 C.img _
    show fallFrom D.loss 0 D.img (D.pend ++ _) = fallFrom l 0 C.img (C.pend ++ _)
    rw [r4, h.img, h.pend]
  · show (fallFrom D.loss 0 D.img (D.pend ++ [((S.i % 5).toNat, secFill S.x S.b)])).length = 2048
    exact (fallFrom_length _ _ _ _ (by rw [h.n]; exact h.fit_push hi0 hi)).trans h.n
end
end Go.Le
