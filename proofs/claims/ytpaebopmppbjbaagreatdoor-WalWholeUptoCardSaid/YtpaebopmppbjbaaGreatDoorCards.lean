/-
  DERIVED. GIVEN WITH THE SEED: THE CARDS: each row of YtpaebopmppbjbaaGreatDoorRows.lean that lists a variable, with what it lists TIED to the program's text (the seventh form; the later family's looks); each row that meets fmt, with fmt's text TOLD by the authors' own Lean function (tested against real Go, not proved from fmt's source: count such statements apart). THE CARD IS WHAT COUNTS. Prove the row's statement (the work); the ties are given (YtpaebopmppbjbaaGreatDoorTie.lean); close each card by the builder's one call (the guide's Derived/Test/ToyasCard.lean, 'card_holds'). Laid BY PROGRAM, IN A SANDBOX (cutbox-door.mjs). By AI agents, Wed Nov 11 2026. No macro, syntax, notation, axiom, sorry.
-/
import Derived.Test.YtpaebopmppbjbaaGreatDoorRows
import GoSem.ClaimSeven
namespace Go.Proofs.YtpaebopmppbjbaaGreatDoor
namespace Rows

/-- THE TIED CARD OF 'lethelaw09.WalIdle'. -/
def walIdleCard : Claim7 := { stood := { row := walIdleRow, standIns := [], harness := (true, "2b47ac4d6c59f9c3d2f96948637645daff5cb90a0c11a12aeb12d2e41078a625"), looks := true }, kinds := [], alts := [], laidByText := true, laidKinds := [.handle], laidTests := true, laidLooks := .later }
def WalIdleCardSaid : Prop := Claim7.holds Tryz.pinned (.plain (OpenSpec.ofChange walIdleSpec)) walIdleCard

/-- THE TIED CARD OF 'lethelaw09.WalWhole'. -/
def walWholeCard : Claim7 := { stood := { row := walWholeRow, standIns := [], harness := (true, "2b47ac4d6c59f9c3d2f96948637645daff5cb90a0c11a12aeb12d2e41078a625"), looks := true }, kinds := [], alts := [], laidByText := true, laidKinds := [.handle], laidTests := true, laidLooks := .later }
def WalWholeCardSaid : Prop := Claim7.holds Tryz.pinned (.plain (OpenSpec.ofChange walWholeSpec)) walWholeCard

/-- THE SECOND FORM's CARD OF 'lethelaw09.WalIdle'. -/
def walIdleUptoCard : Claim7 := { stood := { row := walIdleUptoRow, standIns := [], harness := (true, "2b47ac4d6c59f9c3d2f96948637645daff5cb90a0c11a12aeb12d2e41078a625"), looks := true }, kinds := [], alts := [], laidByText := true, laidKinds := [.handle], laidTests := true, laidLooks := .later }
def WalIdleUptoCardSaid : Prop := Claim7.holds Tryz.pinned (.plain (OpenSpec.upto walIdleSpec)) walIdleUptoCard

/-- THE SECOND FORM's CARD OF 'lethelaw09.WalWhole'. -/
def walWholeUptoCard : Claim7 := { stood := { row := walWholeUptoRow, standIns := [], harness := (true, "2b47ac4d6c59f9c3d2f96948637645daff5cb90a0c11a12aeb12d2e41078a625"), looks := true }, kinds := [], alts := [], laidByText := true, laidKinds := [.handle], laidTests := true, laidLooks := .later }
def WalWholeUptoCardSaid : Prop := Claim7.holds Tryz.pinned (.plain (OpenSpec.upto walWholeSpec)) walWholeUptoCard
end Rows
end Go.Proofs.YtpaebopmppbjbaaGreatDoor
