/-
  DERIVED. GIVEN WITH THE SEED: THE CARDS: each row of YtikclgfldfpbdaaDoorRows.lean that lists a variable, with what it lists TIED to the program's text (the seventh form; the later family's looks); each row that meets fmt, with fmt's text TOLD by the authors' own Lean function (tested against real Go, not proved from fmt's source: count such statements apart). THE CARD IS WHAT COUNTS. Prove the row's statement (the work); the ties are given (YtikclgfldfpbdaaDoorTie.lean); close each card by the builder's one call (the guide's Derived/Test/ToyasCard.lean, 'card_holds'). Laid BY PROGRAM, IN A SANDBOX (cutbox-door.mjs). By AI agents, Wed Nov 11 2026. No macro, syntax, notation, axiom, sorry.
-/
import Derived.Test.YtikclgfldfpbdaaDoorRows
import GoSem.ClaimSeven
namespace Go.Proofs.YtikclgfldfpbdaaDoor
namespace Rows

/-- THE TIED CARD OF 'ferryhythelaw2.GcraPlays'. -/
def gcraPlaysCard : Claim7 := { stood := { row := gcraPlaysRow, standIns := [], harness := (true, "e3627ea0a1114ab8de0c737b08b8f28d327c5f0eebf6f7a50d76df809bc402d1"), looks := true }, kinds := [], alts := [], laidByText := true, laidKinds := [.handle], laidTests := true, laidLooks := .later }
def GcraPlaysCardSaid : Prop := Claim7.holds Tryd.pinned (.plain (OpenSpec.ofChange gcraPlaysSpec)) gcraPlaysCard

/-- THE TIED CARD OF 'ferryhythelaw2.AimdSays'. -/
def aimdSaysCard : Claim7 := { stood := { row := aimdSaysRow, standIns := [], harness := (true, "e3627ea0a1114ab8de0c737b08b8f28d327c5f0eebf6f7a50d76df809bc402d1"), looks := true }, kinds := [], alts := [], laidByText := true, laidKinds := [.handle], laidTests := true, laidLooks := .later }
def AimdSaysCardSaid : Prop := Claim7.holds Tryd.pinned (.plain (OpenSpec.ofChange aimdSaysSpec)) aimdSaysCard

/-- THE SECOND FORM's CARD OF 'ferryhythelaw2.GcraPlays'. -/
def gcraPlaysUptoCard : Claim7 := { stood := { row := gcraPlaysUptoRow, standIns := [], harness := (true, "e3627ea0a1114ab8de0c737b08b8f28d327c5f0eebf6f7a50d76df809bc402d1"), looks := true }, kinds := [], alts := [], laidByText := true, laidKinds := [.handle], laidTests := true, laidLooks := .later }
def GcraPlaysUptoCardSaid : Prop := Claim7.holds Tryd.pinned (.plain (OpenSpec.upto gcraPlaysSpec)) gcraPlaysUptoCard

/-- THE SECOND FORM's CARD OF 'ferryhythelaw2.AimdSays'. -/
def aimdSaysUptoCard : Claim7 := { stood := { row := aimdSaysUptoRow, standIns := [], harness := (true, "e3627ea0a1114ab8de0c737b08b8f28d327c5f0eebf6f7a50d76df809bc402d1"), looks := true }, kinds := [], alts := [], laidByText := true, laidKinds := [.handle], laidTests := true, laidLooks := .later }
def AimdSaysUptoCardSaid : Prop := Claim7.holds Tryd.pinned (.plain (OpenSpec.upto aimdSaysSpec)) aimdSaysUptoCard
end Rows
end Go.Proofs.YtikclgfldfpbdaaDoor
