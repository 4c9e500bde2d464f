/-
  DERIVED. GIVEN WITH THE SEED: THE CARDS: each row of YteehgoaibblpfaaDoorRows.lean that lists a variable, with what it lists TIED to the program's text (the seventh form; the later family's looks); each row that meets fmt, with fmt's text TOLD by the authors' own Lean function (tested against real Go, not proved from fmt's source: count such statements apart). THE CARD IS WHAT COUNTS. Prove the row's statement (the work); the ties are given (YteehgoaibblpfaaDoorTie.lean); close each card by the builder's one call (the guide's Derived/Test/ToyasCard.lean, 'card_holds'). Laid BY PROGRAM, IN A SANDBOX (cutbox-door.mjs). By AI agents, Wed Nov 11 2026. No macro, syntax, notation, axiom, sorry.
-/
import Derived.Test.YteehgoaibblpfaaDoorRows
import GoSem.ClaimSeven
namespace Go.Proofs.YteehgoaibblpfaaDoor
namespace Rows

/-- THE TIED CARD OF 'pacelinekeep.SheetBack'. -/
def sheetBackCard : Claim7 := { stood := { row := sheetBackRow, standIns := [], harness := (true, "375f5e858299ca4ee1024876eaaf83f0af984177a0cf596fd5c035ab7f33b919"), looks := true }, kinds := [], alts := [], laidByText := true, laidKinds := [.data, .data, .data, .data, .sentinel, .sentinel, .pinned], laidTests := true, laidLooks := .later }
def SheetBackCardSaid : Prop := Claim7.holds Tryd.pinned (.plain (OpenSpec.ofChange sheetBackSpec)) sheetBackCard

/-- THE TIED CARD OF 'pacelinekeep.SheetFixed'. -/
def sheetFixedCard : Claim7 := { stood := { row := sheetFixedRow, standIns := [], harness := (true, "375f5e858299ca4ee1024876eaaf83f0af984177a0cf596fd5c035ab7f33b919"), looks := true }, kinds := [], alts := [], laidByText := true, laidKinds := [.data, .data, .data, .data, .sentinel, .sentinel, .pinned], laidTests := true, laidLooks := .later }
def SheetFixedCardSaid : Prop := Claim7.holds Tryd.pinned (.plain (OpenSpec.ofChange sheetFixedSpec)) sheetFixedCard

/-- THE TIED CARD OF 'pacelinekeep.PlayBack'. -/
def playBackCard : Claim7 := { stood := { row := playBackRow, standIns := [], harness := (true, "375f5e858299ca4ee1024876eaaf83f0af984177a0cf596fd5c035ab7f33b919"), looks := true }, kinds := [], alts := [], laidByText := true, laidKinds := [.data, .data, .data, .data, .sentinel, .sentinel, .data, .pinned], laidTests := true, laidLooks := .later }
def PlayBackCardSaid : Prop := Claim7.holds Tryd.pinned (.plain (OpenSpec.ofChange playBackSpec)) playBackCard

/-- THE TIED CARD OF 'pacelinekeep.PlayFixed'. -/
def playFixedCard : Claim7 := { stood := { row := playFixedRow, standIns := [], harness := (true, "375f5e858299ca4ee1024876eaaf83f0af984177a0cf596fd5c035ab7f33b919"), looks := true }, kinds := [], alts := [], laidByText := true, laidKinds := [.data, .data, .data, .data, .sentinel, .sentinel, .data, .pinned], laidTests := true, laidLooks := .later }
def PlayFixedCardSaid : Prop := Claim7.holds Tryd.pinned (.plain (OpenSpec.ofChange playFixedSpec)) playFixedCard

/-- THE SECOND FORM's CARD OF 'pacelinekeep.SheetBack'. -/
def sheetBackUptoCard : Claim7 := { stood := { row := sheetBackUptoRow, standIns := [], harness := (true, "375f5e858299ca4ee1024876eaaf83f0af984177a0cf596fd5c035ab7f33b919"), looks := true }, kinds := [], alts := [], laidByText := true, laidKinds := [.data, .data, .data, .data, .sentinel, .sentinel, .pinned], laidTests := true, laidLooks := .later }
def SheetBackUptoCardSaid : Prop := Claim7.holds Tryd.pinned (.plain (OpenSpec.upto sheetBackSpec)) sheetBackUptoCard

/-- THE SECOND FORM's CARD OF 'pacelinekeep.SheetFixed'. -/
def sheetFixedUptoCard : Claim7 := { stood := { row := sheetFixedUptoRow, standIns := [], harness := (true, "375f5e858299ca4ee1024876eaaf83f0af984177a0cf596fd5c035ab7f33b919"), looks := true }, kinds := [], alts := [], laidByText := true, laidKinds := [.data, .data, .data, .data, .sentinel, .sentinel, .pinned], laidTests := true, laidLooks := .later }
def SheetFixedUptoCardSaid : Prop := Claim7.holds Tryd.pinned (.plain (OpenSpec.upto sheetFixedSpec)) sheetFixedUptoCard

/-- THE SECOND FORM's CARD OF 'pacelinekeep.PlayBack'. -/
def playBackUptoCard : Claim7 := { stood := { row := playBackUptoRow, standIns := [], harness := (true, "375f5e858299ca4ee1024876eaaf83f0af984177a0cf596fd5c035ab7f33b919"), looks := true }, kinds := [], alts := [], laidByText := true, laidKinds := [.data, .data, .data, .data, .sentinel, .sentinel, .data, .pinned], laidTests := true, laidLooks := .later }
def PlayBackUptoCardSaid : Prop := Claim7.holds Tryd.pinned (.plain (OpenSpec.upto playBackSpec)) playBackUptoCard

/-- THE SECOND FORM's CARD OF 'pacelinekeep.PlayFixed'. -/
def playFixedUptoCard : Claim7 := { stood := { row := playFixedUptoRow, standIns := [], harness := (true, "375f5e858299ca4ee1024876eaaf83f0af984177a0cf596fd5c035ab7f33b919"), looks := true }, kinds := [], alts := [], laidByText := true, laidKinds := [.data, .data, .data, .data, .sentinel, .sentinel, .data, .pinned], laidTests := true, laidLooks := .later }
def PlayFixedUptoCardSaid : Prop := Claim7.holds Tryd.pinned (.plain (OpenSpec.upto playFixedSpec)) playFixedUptoCard
end Rows
end Go.Proofs.YteehgoaibblpfaaDoor
