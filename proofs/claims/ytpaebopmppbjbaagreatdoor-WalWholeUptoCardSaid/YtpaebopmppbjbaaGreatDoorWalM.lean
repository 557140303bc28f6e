/- Pages of a disk written together, or not at all: what the calls of package wal make of a disk, as plain data. No program in sight. -/
import Derived.Test.YtpaebopmppbjbaaGreatDoorSec1M
set_option linter.unusedVariables false
set_option linter.unusedSimpArgs false
namespace Go.Le
open Go Go.RowKit

/-- calls of a disk: an answer, or why they were given up; and the disk behind them -/
def Io (α : Type) : Type := Dev → Except Int α × Dev
namespace Io
def ret {α : Type} (a : α) : Io α := fun D => (.ok a, D)
def fail {α : Type} (e : Int) : Io α := fun D => (.error e, D)
def and {α β : Type} (m : Io α) (f : α → Io β) : Io β := fun D => match m D with | (.ok a, D') => f a D' | (.error e, D') => (.error e, D')
end Io
section
variable {α β γ : Type}
theorem Io.and_ok {m : Io α} {f : α → Io β} {D D' : Dev} {a : α} (h : m D = (.ok a, D')) : m.and f D = f a D' := by unfold Io.and; rw [h]
theorem Io.and_error {m : Io α} {f : α → Io β} {D D' : Dev} {e : Int} (h : m D = (.error e, D')) : m.and f D = (.error e, D') := by unfold Io.and; rw [h]
theorem Io.and_assoc (m : Io α) (f : α → Io β) (g : β → Io γ) : (m.and f).and g = m.and fun a => (f a).and g := by
  funext D
  unfold Io.and
  match m D with
  | (.ok a, D') => rfl
  | (.error e, D') => rfl
theorem Io.ret_and (a : α) (f : α → Io β) : (Io.ret a).and f = f a := rfl
end
def ioRead (i : Nat) : Io (List UInt8) := fun D => if D.asked i = 0 then (.ok (D.last i), D) else (.error (D.asked i), D)
def ioWrite (i : Nat) (b : List UInt8) : Io Unit := fun D => ((if (D.write i b).2 = 0 then .ok () else .error (D.write i b).2), (D.write i b).1)
def ioFlush : Io Unit := fun D => ((if D.flush.2 = 0 then .ok () else .error D.flush.2), D.flush.1)
/-- the two sectors of a page -/
def ioBoth (i : Nat) (pg : List UInt8) : Io Unit := (ioWrite i (pg.take 512)).and fun _ => ioWrite (i + 1) (pg.drop 512)

def roomOf (s : Nat) : Nat := if s < 5 then 0 else min ((s - 1) / 4) 250
def slotOf (n : Nat) : Nat := 1 + 2 * n
def homeOf (p n : Nat) : Nat := 1 + 2 * p + 2 * n
def allZero (b : List UInt8) : Bool := b.all (· == 0)
/-- the bit of page n in a marker -/
def pageBit (m : List UInt8) (n : Nat) : Bool := (m.getD (n / 8) 0).toNat / 2 ^ (n % 8) % 2 == 1
def bitsOf (m : List UInt8) : List Nat := (List.range 256).filter (pageBit m)
/-- the pages of a marker that stands -/
def marked (m : List UInt8) (p : Nat) : Except Int (List Nat) :=
  if m.getD 511 0 = 0 then .ok []
  else if m.getD 511 0 ≠ 1 ∨ allZero ((m.drop 32).take 479) = false then .error 90
  else if bitsOf m = [] ∨ p ≤ (bitsOf m).getLastD 0 then .error 90
  else .ok (bitsOf m)
def ioOf {α : Type} : Except Int α → Io α
  | .ok a => Io.ret a
  | .error e => Io.fail e
/-- sectors i from k on: from the slot of page n to its home -/
def ioCopy (p n k : Nat) : Io Unit := (ioRead (slotOf n + k)).and fun b => ioWrite (homeOf p n + k) b
def ioRedo (p : Nat) : List Nat → Io Unit
  | [] => Io.ret ()
  | n :: r => (ioCopy p n 0).and fun _ => (ioCopy p n 1).and fun _ => ioRedo p r
def ioFalls (m : List UInt8) : Io Unit := (ioWrite 0 (m.set 511 0)).and fun _ => ioFlush
def ioAgain (p : Nat) : Io Bool := (ioRead 0).and fun m => (ioOf (marked m p)).and fun l =>
  if l = [] then Io.ret false else (ioRedo p l).and fun _ => ioFlush.and fun _ => (ioFalls m).and fun _ => Io.ret true
def sect0 : List UInt8 := zrs 512
/-- each of these sectors that is not all zeros is, from then on; was there one? -/
def ioWipe : Bool → List Nat → Io Bool
  | s, [] => Io.ret s
  | s, i :: r => (ioRead i).and fun b => if allZero b then ioWipe s r else (ioWrite i sect0).and fun _ => ioWipe true r
def ioWiped (l : List Nat) : Io Unit := (ioWipe false l).and fun s => if s then ioFlush else Io.ret ()
/-- the numbers lo to hi - 1 -/
def runOf (lo hi : Nat) : List Nat := List.range' lo (hi - lo)
def ioBegun : Io Nat := fun D =>
  if D.down then (.error 80, D) else if roomOf D.n = 0 then (.error 92, D) else if D.pend = [] then (.ok (roomOf D.n), D) else (ioFlush.and fun _ => Io.ret (roomOf D.n)) D
def ioOpen : Io (Nat × Bool) := ioBegun.and fun p => (ioAgain p).and fun a => (ioWiped (runOf 0 (2 * p + 1))).and fun _ => Io.ret (p, a)
/-- how many sectors -/
def ioN : Io Nat := fun D => (.ok D.n, D)
def ioClear : Io Unit := ioBegun.and fun p => (ioRead 0).and fun m => (if m.getD 511 0 = 0 then Io.ret () else ioFalls m).and fun _ => ioN.and fun s => ioWiped (runOf 0 (2 * p + 1) ++ runOf (4 * p + 1) s)
def ioPage (p n : Nat) : Io (List UInt8) := (ioRead (homeOf p n)).and fun a => (ioRead (homeOf p n + 1)).and fun b => Io.ret (a ++ b)
/-- the marker of these pages -/
def setBit (m : List UInt8) (n : Nat) : List UInt8 := m.set (n / 8) (m.getD (n / 8) 0 ||| UInt8.ofNat (2 ^ (n % 8)))
def ioSlots : List UInt8 → List (Nat × List UInt8) → Io (List UInt8)
  | m, [] => Io.ret m
  | m, p :: r => (ioBoth (slotOf p.1) p.2).and fun _ => ioSlots (setBit m p.1) r
def ioHomes (p : Nat) : List (Nat × List UInt8) → Io Unit
  | [] => Io.ret ()
  | x :: r => (ioBoth (homeOf p x.1) x.2).and fun _ => ioHomes p r
def ioBlank : List (Nat × List UInt8) → Io Unit
  | [] => Io.ret ()
  | x :: r => (ioBoth (slotOf x.1) (zrs 1024)).and fun _ => ioBlank r
def ioCommit (p : Nat) (l : List (Nat × List UInt8)) : Io Unit := (ioSlots sect0 l).and fun m => ioFlush.and fun _ => (ioWrite 0 (m.set 511 1)).and fun _ => ioFlush.and fun _ => (ioHomes p l).and fun _ => ioFlush.and fun _ => (ioFalls (m.set 511 1)).and fun _ =>
  (ioWrite 0 sect0).and fun _ => (ioBlank l).and fun _ => ioFlush
end Go.Le
