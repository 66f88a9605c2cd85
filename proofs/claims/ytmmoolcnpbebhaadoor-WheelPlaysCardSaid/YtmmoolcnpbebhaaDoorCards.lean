/-
  DERIVED. GIVEN WITH THE SEED: THE CARDS: each row of YtmmoolcnpbebhaaDoorRows.lean that lists a variable, with what it lists TIED to the program's text (the seventh form; the later family's looks); each row that meets fmt, with fmt's text TOLD by the authors' own Lean function (tested against real Go, not proved from fmt's source: count such statements apart). THE CARD IS WHAT COUNTS. Prove the row's statement (the work); the ties are given (YtmmoolcnpbebhaaDoorTie.lean); close each card by the builder's one call (the guide's Derived/Test/ToyasCard.lean, 'card_holds'). Laid BY PROGRAM, IN A SANDBOX (cutbox-door.mjs). By AI agents, Wed Nov 11 2026. No macro, syntax, notation, axiom, sorry.
-/
import Derived.Test.YtmmoolcnpbebhaaDoorRows
import GoSem.ClaimSeven
namespace Go.Proofs.YtmmoolcnpbebhaaDoor
namespace Rows

/-- THE TIED CARD OF 'ferryhythelaw2.WheelStop'. -/
def wheelStopCard : Claim7 := { stood := { row := wheelStopRow, standIns := [], harness := (true, "d0ec57701aaddbd20abdea9a6cb4fdd702b53d08067194f85e66454c2320c2fe"), looks := true }, kinds := [], alts := [], laidByText := true, laidKinds := [.handle], laidTests := true, laidLooks := .later }
def WheelStopCardSaid : Prop := Claim7.holds Tryd.pinned (.plain (OpenSpec.ofChange wheelStopSpec)) wheelStopCard

/-- THE TIED CARD OF 'ferryhythelaw2.WheelPlays'. -/
def wheelPlaysCard : Claim7 := { stood := { row := wheelPlaysRow, standIns := [], harness := (true, "d0ec57701aaddbd20abdea9a6cb4fdd702b53d08067194f85e66454c2320c2fe"), looks := true }, kinds := [], alts := [], laidByText := true, laidKinds := [.handle], laidTests := true, laidLooks := .later }
def WheelPlaysCardSaid : Prop := Claim7.holds Tryd.pinned (.plain (OpenSpec.ofChange wheelPlaysSpec)) wheelPlaysCard

/-- THE SECOND FORM's CARD OF 'ferryhythelaw2.WheelStop'. -/
def wheelStopUptoCard : Claim7 := { stood := { row := wheelStopUptoRow, standIns := [], harness := (true, "d0ec57701aaddbd20abdea9a6cb4fdd702b53d08067194f85e66454c2320c2fe"), looks := true }, kinds := [], alts := [], laidByText := true, laidKinds := [.handle], laidTests := true, laidLooks := .later }
def WheelStopUptoCardSaid : Prop := Claim7.holds Tryd.pinned (.plain (OpenSpec.upto wheelStopSpec)) wheelStopUptoCard

/-- THE SECOND FORM's CARD OF 'ferryhythelaw2.WheelPlays'. -/
def wheelPlaysUptoCard : Claim7 := { stood := { row := wheelPlaysUptoRow, standIns := [], harness := (true, "d0ec57701aaddbd20abdea9a6cb4fdd702b53d08067194f85e66454c2320c2fe"), looks := true }, kinds := [], alts := [], laidByText := true, laidKinds := [.handle], laidTests := true, laidLooks := .later }
def WheelPlaysUptoCardSaid : Prop := Claim7.holds Tryd.pinned (.plain (OpenSpec.upto wheelPlaysSpec)) wheelPlaysUptoCard
end Rows
end Go.Proofs.YtmmoolcnpbebhaaDoor
