/-
  DERIVED. GIVEN WITH THE SEED: THE CARDS: each row of YtkpflghhmnkjmaaDoorRows.lean that lists a variable, with what it lists TIED to the program's text (the seventh form; the later family's looks); each row that meets fmt, with fmt's text TOLD by the authors' own Lean function (tested against real Go, not proved from fmt's source: count such statements apart). THE CARD IS WHAT COUNTS. Prove the row's statement (the work); the ties are given (YtkpflghhmnkjmaaDoorTie.lean); close each card by the builder's one call (the guide's Derived/Test/ToyasCard.lean, 'card_holds'). Laid BY PROGRAM, IN A SANDBOX (cutbox-door.mjs). By AI agents, Wed Nov 11 2026. No macro, syntax, notation, axiom, sorry.
-/
import Derived.Test.YtkpflghhmnkjmaaDoorRows
import GoSem.ClaimSeven
namespace Go.Proofs.YtkpflghhmnkjmaaDoor
namespace Rows

/-- THE TIED CARD OF 'ferryhythelaw2.WindowRoom'. -/
def windowRoomCard : Claim7 := { stood := { row := windowRoomRow, standIns := [], harness := (true, "ac42c1a61b2c501a21012bdbf448481fe13ececec336ee966d9ba2d5dc3019a4"), looks := true }, kinds := [], alts := [], laidByText := true, laidKinds := [.handle], laidTests := true, laidLooks := .later }
def WindowRoomCardSaid : Prop := Claim7.holds Tryd.pinned (.plain (OpenSpec.ofChange windowRoomSpec)) windowRoomCard

/-- THE TIED CARD OF 'ferryhythelaw2.WindowPlays'. -/
def windowPlaysCard : Claim7 := { stood := { row := windowPlaysRow, standIns := [], harness := (true, "ac42c1a61b2c501a21012bdbf448481fe13ececec336ee966d9ba2d5dc3019a4"), looks := true }, kinds := [], alts := [], laidByText := true, laidKinds := [.handle], laidTests := true, laidLooks := .later }
def WindowPlaysCardSaid : Prop := Claim7.holds Tryd.pinned (.plain (OpenSpec.ofChange windowPlaysSpec)) windowPlaysCard

/-- THE SECOND FORM's CARD OF 'ferryhythelaw2.WindowRoom'. -/
def windowRoomUptoCard : Claim7 := { stood := { row := windowRoomUptoRow, standIns := [], harness := (true, "ac42c1a61b2c501a21012bdbf448481fe13ececec336ee966d9ba2d5dc3019a4"), looks := true }, kinds := [], alts := [], laidByText := true, laidKinds := [.handle], laidTests := true, laidLooks := .later }
def WindowRoomUptoCardSaid : Prop := Claim7.holds Tryd.pinned (.plain (OpenSpec.upto windowRoomSpec)) windowRoomUptoCard

/-- THE SECOND FORM's CARD OF 'ferryhythelaw2.WindowPlays'. -/
def windowPlaysUptoCard : Claim7 := { stood := { row := windowPlaysUptoRow, standIns := [], harness := (true, "ac42c1a61b2c501a21012bdbf448481fe13ececec336ee966d9ba2d5dc3019a4"), looks := true }, kinds := [], alts := [], laidByText := true, laidKinds := [.handle], laidTests := true, laidLooks := .later }
def WindowPlaysUptoCardSaid : Prop := Claim7.holds Tryd.pinned (.plain (OpenSpec.upto windowPlaysSpec)) windowPlaysUptoCard
end Rows
end Go.Proofs.YtkpflghhmnkjmaaDoor
