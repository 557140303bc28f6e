/- How many writes wait behind the calls of package wal. No program in sight. -/
import Derived.Test.YtpaebopmppbjbaaGreatDoorWalM
set_option linter.unusedVariables false
set_option linter.unusedSimpArgs false
namespace Go.Le
open Go Go.RowKit
theorem write_pend (D : Dev) (i : Int) (b : List UInt8) : (D.write i b).1.pend.length ≤ D.pend.length + 1 := by
  unfold Dev.write
  split
  · simp
  · split
    · simp
    · dsimp only
      split
      · simp [Dev.fall]
      · simp [Dev.count]
theorem flush_pend (D : Dev) : D.flush.1.pend.length ≤ D.pend.length := by
  unfold Dev.flush
  split
  · simp
  · split <;> simp [Dev.fall]
/-- so many writes more wait at most -/
def Io.Grows {α : Type} (m : Io α) (c : Nat) : Prop := ∀ D, (m D).2.pend.length ≤ D.pend.length + c
section
variable {α β : Type}
theorem Io.Grows.ret (a : α) : (Io.ret a).Grows 0 := fun _ => Nat.le_refl _
theorem Io.Grows.fail (e : Int) : (Io.fail e : Io α).Grows 0 := fun _ => Nat.le_refl _
theorem Io.Grows.and {m : Io α} {f : α → Io β} {c d : Nat} (h : m.Grows c) (k : ∀ a, (f a).Grows d) : (m.and f).Grows (c + d) := by
  intro D
  have h1 := h D
  unfold Io.and
  match hm : m D with
  | (.ok a, D') =>
    rw [hm] at h1
    have h2 := k a D'
    simp only at h1 h2 ⊢
    omega
  | (.error e, D') =>
    rw [hm] at h1
    simp only at h1 ⊢
    omega
theorem Io.Grows.mono {m : Io α} {c d : Nat} (h : m.Grows c) (hd : c ≤ d) : m.Grows d := fun D => Nat.le_trans (h D) (by omega)
theorem Io.Grows.at {m : Io α} {c : Nat} (h : m.Grows c) {D D' : Dev} {r : Except Int α} (hm : m D = (r, D')) : D'.pend.length ≤ D.pend.length + c := by
  have := h D
  rw [hm] at this
  exact this
end
theorem Io.Grows.read (i : Nat) : (ioRead i).Grows 0 := fun D => by unfold ioRead; split <;> simp
theorem Io.Grows.write (i : Nat) (b : List UInt8) : (ioWrite i b).Grows 1 := fun D => write_pend D i b
theorem Io.Grows.flush : ioFlush.Grows 0 := fun D => flush_pend D
theorem Io.Grows.both (i : Nat) (pg : List UInt8) : (ioBoth i pg).Grows 2 := (Io.Grows.write _ _).and fun _ => Io.Grows.write _ _
theorem Io.Grows.of {α : Type} (r : Except Int α) : (ioOf r).Grows 0 := by cases r; exact Io.Grows.fail _; exact Io.Grows.ret _
theorem Io.Grows.copy (p n k : Nat) : (ioCopy p n k).Grows 1 := (Io.Grows.read _).and fun _ => Io.Grows.write _ _
theorem Io.Grows.redo (p : Nat) : ∀ l, (ioRedo p l).Grows (2 * l.length)
  | [] => Io.Grows.ret _
  | n :: r => ((Io.Grows.copy _ _ _).and fun _ => (Io.Grows.copy _ _ _).and fun _ => Io.Grows.redo p r).mono (by simp; omega)
theorem Io.Grows.falls (m : List UInt8) : (ioFalls m).Grows 1 := (Io.Grows.write _ _).and fun _ => Io.Grows.flush
theorem marked_length {m : List UInt8} {p : Nat} {l : List Nat} (h : marked m p = .ok l) : l.length ≤ 256 := by
  unfold marked at h
  split at h
  · cases h; simp
  · split at h
    · cases h
    · split at h
      · cases h
      · cases h
        unfold bitsOf
        exact Nat.le_trans (List.length_filter_le _ _) (by simp)
theorem Io.Grows.again (p : Nat) : (ioAgain p).Grows 513 := by
  refine ((Io.Grows.read 0).and (d := 513) fun m => ?_).mono (by omega)
  cases hm : marked m p with
  | error e => intro D; exact Nat.le_add_right _ _
  | ok l =>
    show ((Io.ret l).and _).Grows 513
    rw [Io.ret_and]
    split
    · exact (Io.Grows.ret _).mono (by omega)
    · exact ((Io.Grows.redo p l).and fun _ => Io.Grows.flush.and fun _ => (Io.Grows.falls m).and fun _ => Io.Grows.ret _).mono (by have := marked_length hm; omega)
theorem Io.Grows.wipe : ∀ (s : Bool) (l : List Nat), (ioWipe s l).Grows l.length
  | s, [] => Io.Grows.ret _
  | s, i :: r => ((Io.Grows.read i).and (d := (i :: r).length) fun b => by
      split
      · exact (Io.Grows.wipe s r).mono (by simp)
      · exact ((Io.Grows.write i sect0).and fun _ => Io.Grows.wipe true r).mono (by simp; omega)).mono (by omega)
theorem Io.Grows.wiped (l : List Nat) : (ioWiped l).Grows l.length := ((Io.Grows.wipe false l).and (d := 0) fun s => by split; exact Io.Grows.flush; exact Io.Grows.ret _).mono (by omega)
theorem Io.Grows.slots : ∀ (l : List (Nat × List UInt8)) (m : List UInt8), (ioSlots m l).Grows (2 * l.length)
  | [], m => Io.Grows.ret _
  | x :: r, m => ((Io.Grows.both _ _).and fun _ => Io.Grows.slots r _).mono (by simp; omega)
theorem Io.Grows.homes (p : Nat) : ∀ (l : List (Nat × List UInt8)), (ioHomes p l).Grows (2 * l.length)
  | [] => Io.Grows.ret _
  | x :: r => ((Io.Grows.both _ _).and fun _ => Io.Grows.homes p r).mono (by simp; omega)
theorem Io.Grows.blank : ∀ (l : List (Nat × List UInt8)), (ioBlank l).Grows (2 * l.length)
  | [] => Io.Grows.ret _
  | x :: r => ((Io.Grows.both _ _).and fun _ => Io.Grows.blank r).mono (by simp; omega)
theorem runOf_length (lo hi : Nat) : (runOf lo hi).length = hi - lo := by simp [runOf]
theorem room_le (s : Nat) : roomOf s ≤ 250 := by unfold roomOf; split <;> omega
end Go.Le
