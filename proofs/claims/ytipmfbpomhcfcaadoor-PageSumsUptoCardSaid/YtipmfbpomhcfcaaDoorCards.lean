/-
  DERIVED. GIVEN WITH THE SEED: THE CARDS: each row of YtipmfbpomhcfcaaDoorRows.lean that lists a variable, with what it lists TIED to the program's text (the seventh form; the later family's looks); each row that meets fmt, with fmt's text TOLD by the authors' own Lean function (tested against real Go, not proved from fmt's source: count such statements apart). THE CARD IS WHAT COUNTS. Prove the row's statement (the work); the ties are given (YtipmfbpomhcfcaaDoorTie.lean); close each card by the builder's one call (the guide's Derived/Test/ToyasCard.lean, 'card_holds'). Laid BY PROGRAM, IN A SANDBOX (cutbox-door.mjs). By AI agents, Wed Nov 11 2026. No macro, syntax, notation, axiom, sorry.
-/
import Derived.Test.YtipmfbpomhcfcaaDoorRows
import GoSem.ClaimSeven
namespace Go.Proofs.YtipmfbpomhcfcaaDoor
namespace Rows

/-- THE TIED CARD OF 'lethelaw10.PageSums'. -/
def pageSumsCard : Claim7 := { stood := { row := pageSumsRow, standIns := [], harness := (true, "4c1b2b8bec7a928567ed1299d0b120d7650236eee5054917e7b7d0e3ac187bc6"), looks := false }, kinds := [], alts := [], laidByText := true, laidKinds := [.data], laidTests := true, laidLooks := .later }
def PageSumsCardSaid : Prop := Claim7.holds Tryd.pinned (.plain (OpenSpec.ofChange pageSumsSpec)) pageSumsCard

/-- THE TIED CARD OF 'lethelaw10.PageExact'. -/
def pageExactCard : Claim7 := { stood := { row := pageExactRow, standIns := [], harness := (true, "4c1b2b8bec7a928567ed1299d0b120d7650236eee5054917e7b7d0e3ac187bc6"), looks := false }, kinds := [], alts := [], laidByText := true, laidKinds := [.data], laidTests := true, laidLooks := .later }
def PageExactCardSaid : Prop := Claim7.holds Tryd.pinned (.plain (OpenSpec.ofChange pageExactSpec)) pageExactCard

/-- THE TIED CARD OF 'lethelaw10.PageBack'. -/
def pageBackCard : Claim7 := { stood := { row := pageBackRow, standIns := [], harness := (true, "4c1b2b8bec7a928567ed1299d0b120d7650236eee5054917e7b7d0e3ac187bc6"), looks := false }, kinds := [], alts := [], laidByText := true, laidKinds := [.data], laidTests := true, laidLooks := .later }
def PageBackCardSaid : Prop := Claim7.holds Tryd.pinned (.plain (OpenSpec.ofChange pageBackSpec)) pageBackCard

/-- THE TIED CARD OF 'lethelaw10.PageOneForm'. -/
def pageOneFormCard : Claim7 := { stood := { row := pageOneFormRow, standIns := [], harness := (true, "4c1b2b8bec7a928567ed1299d0b120d7650236eee5054917e7b7d0e3ac187bc6"), looks := false }, kinds := [], alts := [], laidByText := true, laidKinds := [.data], laidTests := true, laidLooks := .later }
def PageOneFormCardSaid : Prop := Claim7.holds Tryd.pinned (.plain (OpenSpec.ofChange pageOneFormSpec)) pageOneFormCard

/-- THE TIED CARD OF 'lethelaw10.PageSpoilt'. -/
def pageSpoiltCard : Claim7 := { stood := { row := pageSpoiltRow, standIns := [], harness := (true, "4c1b2b8bec7a928567ed1299d0b120d7650236eee5054917e7b7d0e3ac187bc6"), looks := false }, kinds := [], alts := [], laidByText := true, laidKinds := [.data], laidTests := true, laidLooks := .later }
def PageSpoiltCardSaid : Prop := Claim7.holds Tryd.pinned (.plain (OpenSpec.ofChange pageSpoiltSpec)) pageSpoiltCard

/-- THE SECOND FORM's CARD OF 'lethelaw10.PageSums'. -/
def pageSumsUptoCard : Claim7 := { stood := { row := pageSumsUptoRow, standIns := [], harness := (true, "4c1b2b8bec7a928567ed1299d0b120d7650236eee5054917e7b7d0e3ac187bc6"), looks := false }, kinds := [], alts := [], laidByText := true, laidKinds := [.data], laidTests := true, laidLooks := .later }
def PageSumsUptoCardSaid : Prop := Claim7.holds Tryd.pinned (.plain (OpenSpec.upto pageSumsSpec)) pageSumsUptoCard

/-- THE SECOND FORM's CARD OF 'lethelaw10.PageExact'. -/
def pageExactUptoCard : Claim7 := { stood := { row := pageExactUptoRow, standIns := [], harness := (true, "4c1b2b8bec7a928567ed1299d0b120d7650236eee5054917e7b7d0e3ac187bc6"), looks := false }, kinds := [], alts := [], laidByText := true, laidKinds := [.data], laidTests := true, laidLooks := .later }
def PageExactUptoCardSaid : Prop := Claim7.holds Tryd.pinned (.plain (OpenSpec.upto pageExactSpec)) pageExactUptoCard

/-- THE SECOND FORM's CARD OF 'lethelaw10.PageBack'. -/
def pageBackUptoCard : Claim7 := { stood := { row := pageBackUptoRow, standIns := [], harness := (true, "4c1b2b8bec7a928567ed1299d0b120d7650236eee5054917e7b7d0e3ac187bc6"), looks := false }, kinds := [], alts := [], laidByText := true, laidKinds := [.data], laidTests := true, laidLooks := .later }
def PageBackUptoCardSaid : Prop := Claim7.holds Tryd.pinned (.plain (OpenSpec.upto pageBackSpec)) pageBackUptoCard

/-- THE SECOND FORM's CARD OF 'lethelaw10.PageOneForm'. -/
def pageOneFormUptoCard : Claim7 := { stood := { row := pageOneFormUptoRow, standIns := [], harness := (true, "4c1b2b8bec7a928567ed1299d0b120d7650236eee5054917e7b7d0e3ac187bc6"), looks := false }, kinds := [], alts := [], laidByText := true, laidKinds := [.data], laidTests := true, laidLooks := .later }
def PageOneFormUptoCardSaid : Prop := Claim7.holds Tryd.pinned (.plain (OpenSpec.upto pageOneFormSpec)) pageOneFormUptoCard

/-- THE SECOND FORM's CARD OF 'lethelaw10.PageSpoilt'. -/
def pageSpoiltUptoCard : Claim7 := { stood := { row := pageSpoiltUptoRow, standIns := [], harness := (true, "4c1b2b8bec7a928567ed1299d0b120d7650236eee5054917e7b7d0e3ac187bc6"), looks := false }, kinds := [], alts := [], laidByText := true, laidKinds := [.data], laidTests := true, laidLooks := .later }
def PageSpoiltUptoCardSaid : Prop := Claim7.holds Tryd.pinned (.plain (OpenSpec.upto pageSpoiltSpec)) pageSpoiltUptoCard
end Rows
end Go.Proofs.YtipmfbpomhcfcaaDoor
