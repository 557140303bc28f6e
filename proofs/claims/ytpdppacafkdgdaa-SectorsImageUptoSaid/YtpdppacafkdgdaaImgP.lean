/- SectorsImage, SectorsArmed, the plain law: two devices that answer alike. -/
import Derived.Test.YtpdppacafkdgdaaCall2
set_option linter.unusedVariables false
set_option linter.unusedSimpArgs false
namespace Go.Le
open Go Go.RowKit
/-- two devices that answer alike -/
structure Alike (D C : Dev) : Prop where
  img : D.img = C.img
  pend : D.pend = C.pend
  down : D.down = C.down
  armed : D.armed = C.armed
  loss : D.armed ≠ 0 → D.loss = C.loss
theorem Alike.asked {D C : Dev} (h : Alike D C) (i : Int) : D.asked i = C.asked i := by
  unfold Dev.asked Dev.n; rw [h.down, h.img]
theorem Alike.fires {D C : Dev} (h : Alike D C) : D.fires = C.fires := by unfold Dev.fires; rw [h.armed]
theorem Alike.last {D C : Dev} (h : Alike D C) (i : Nat) : D.last i = C.last i := by unfold Dev.last; rw [h.img, h.pend]
theorem Alike.read {D C : Dev} (h : Alike D C) (i : Int) : D.read i = C.read i := by unfold Dev.read; rw [h.asked, h.last]
theorem Alike.fall {D C : Dev} (h : Alike D C) (l : Loss) : Alike (D.fall l) (C.fall l) := ⟨by simp [Dev.fall, h.img, h.pend], rfl, rfl, rfl, fun hn => absurd rfl hn⟩
theorem Alike.fall' {D C : Dev} (h : Alike D C) {l l' : Loss} (hl : l = l') : Alike (D.fall l) (C.fall l') := by subst hl; exact h.fall l
theorem Alike.up {D C : Dev} (h : Alike D C) : Alike D.up C.up := ⟨h.img, h.pend, rfl, rfl, fun hn => absurd rfl hn⟩
theorem Alike.count {D C : Dev} (h : Alike D C) : Alike D.count C.count := by
  refine ⟨h.img, h.pend, h.down, by simp [Dev.count, h.armed], fun hn => ?_⟩
  refine h.loss fun h0 => hn ?_
  simp [Dev.count, h0]
theorem Alike.crash {D C : Dev} (h : Alike D C) (l : Loss) : (D.crash l).2 = (C.crash l).2 ∧ Alike (D.crash l).1 (C.crash l).1 := by
  unfold Dev.crash
  rw [← h.down]
  split
  · exact ⟨rfl, h⟩
  · exact ⟨rfl, h.fall l⟩
theorem Alike.arm {D C : Dev} (h : Alike D C) (n : Int) (l : Loss) : (D.arm n l).2 = (C.arm n l).2 ∧ Alike (D.arm n l).1 (C.arm n l).1 := by
  unfold Dev.arm
  rw [← h.down]
  split
  · exact ⟨rfl, h⟩
  · split
    · exact ⟨rfl, h⟩
    · exact ⟨rfl, h.img, h.pend, by first | rfl | exact h.down, rfl, fun _ => rfl⟩
theorem Alike.push {D C : Dev} (h : Alike D C) (p : Nat × List UInt8) : Alike { D with pend := D.pend ++ [p] } { C with pend := C.pend ++ [p] } := ⟨h.img, by simp [h.pend], h.down, h.armed, h.loss⟩
theorem Alike.write {D C : Dev} (h : Alike D C) (i : Int) (b : List UInt8) : (D.write i b).2 = (C.write i b).2 ∧ Alike (D.write i b).1 (C.write i b).1 := by
  unfold Dev.write
  rw [← h.asked]
  split
  · exact ⟨rfl, h⟩
  · split
    · exact ⟨rfl, h⟩
    · have hp := h.push (i.toNat, b)
      have hf := hp.fires
      dsimp only
      rw [← hf]
      split
      · rename_i hfi
        have ha : ({ D with pend := D.pend ++ [(i.toNat, b)] } : Dev).armed ≠ 0 := by
          intro h0
          simp [Dev.fires] at hfi
          have : D.armed = 0 := h0
          omega
        have hl : D.loss = C.loss := hp.loss ha
        exact ⟨rfl, hp.count.fall' hl⟩
      · exact ⟨rfl, hp.count⟩
theorem Alike.flush {D C : Dev} (h : Alike D C) : D.flush.2 = C.flush.2 ∧ Alike D.flush.1 C.flush.1 := by
  unfold Dev.flush
  rw [← h.down, ← h.fires]
  split
  · exact ⟨rfl, h⟩
  · split
    · rename_i hfi
      have ha : D.armed ≠ 0 := by
        intro h0
        simp [Dev.fires] at hfi
        omega
      exact ⟨rfl, h.count.fall' (h.loss ha)⟩
    · have hc := h.count
      exact ⟨rfl, by show flushed D.img D.pend = flushed C.img C.pend; rw [h.img, h.pend], rfl, hc.down, hc.armed, hc.loss⟩
/-- a step makes them answer alike, and leaves them so -/
theorem Alike.call {D C : Dev} (h : Alike D C) (S : StepV) : (callM D S).2 = (callM C S).2 ∧ Alike (callM D S).1 (callM C S).1 := by
  unfold callM
  split
  · exact ⟨by rw [h.read], h⟩
  · split
    · exact ⟨by rw [h.flush.1], h.flush.2⟩
    · split
      · exact ⟨by rw [(h.crash S.l).1], (h.crash S.l).2⟩
      · split
        · exact ⟨rfl, h.up⟩
        · split
          · exact ⟨by rw [h.img], h⟩
          · split
            · exact ⟨by rw [(h.arm _ S.l).1], (h.arm _ S.l).2⟩
            · exact ⟨by rw [(h.write _ _).1], (h.write _ _).2⟩
/-- one write more at most -/
theorem callM_pend (D : Dev) (S : StepV) : (callM D S).1.pend.length ≤ D.pend.length + 1 := by
  have hw : ∀ (i : Int) (b : List UInt8), (D.write i b).1.pend.length ≤ D.pend.length + 1 := by
    intro i b
    unfold Dev.write
    split
    · simp
    · split
      · simp
      · dsimp only
        split
        · simp [Dev.fall]
        · simp [Dev.count]
  have hf : D.flush.1.pend.length ≤ D.pend.length + 1 := by
    unfold Dev.flush
    split
    · simp
    · split <;> simp [Dev.fall]
  have hc : (D.crash S.l).1.pend.length ≤ D.pend.length + 1 := by
    unfold Dev.crash
    split <;> simp [Dev.fall]
  have ha : ∀ n : Int, (D.arm n S.l).1.pend.length ≤ D.pend.length + 1 := by
    intro n
    unfold Dev.arm
    split
    · simp
    · split <;> simp
  unfold callM
  split
  · simp
  · split
    · exact hf
    · split
      · exact hc
      · split
        · simp [Dev.up]
        · split
          · simp
          · split
            · exact ha _
            · exact hw _ _
/-- behind Up and Flush a device and one loaded from its image are alike -/
theorem Alike.loaded (D : Dev) : D.up.flush.2 = 0 ∧ D.up.flush.1.pend = [] ∧ Alike D.up.flush.1 (Dev.fresh D.up.flush.1.img) := by
  have e : D.up.flush = ({ D.up.count with img := flushed D.img D.pend, pend := [] }, 0) := by
    unfold Dev.flush
    have h1 : D.up.down = false := rfl
    have h2 : D.up.fires = false := rfl
    rw [h1, h2]
    rfl
  rw [e]
  exact ⟨rfl, rfl, rfl, rfl, rfl, rfl, fun hn => absurd rfl hn⟩
end Go.Le
