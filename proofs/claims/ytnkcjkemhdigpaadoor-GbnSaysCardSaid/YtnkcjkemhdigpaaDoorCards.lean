/-
  DERIVED. GIVEN WITH THE SEED: THE CARDS: each row of YtnkcjkemhdigpaaDoorRows.lean that lists a variable, with what it lists TIED to the program's text (the seventh form; the later family's looks); each row that meets fmt, with fmt's text TOLD by the authors' own Lean function (tested against real Go, not proved from fmt's source: count such statements apart). THE CARD IS WHAT COUNTS. Prove the row's statement (the work); the ties are given (YtnkcjkemhdigpaaDoorTie.lean); close each card by the builder's one call (the guide's Derived/Test/ToyasCard.lean, 'card_holds'). Laid BY PROGRAM, IN A SANDBOX (cutbox-door.mjs). By AI agents, Wed Nov 11 2026. No macro, syntax, notation, axiom, sorry.
-/
import Derived.Test.YtnkcjkemhdigpaaDoorRows
import GoSem.ClaimSeven
namespace Go.Proofs.YtnkcjkemhdigpaaDoor
namespace Rows

/-- THE TIED CARD OF 'ferryhythelaw2.AbpSays'. -/
def abpSaysCard : Claim7 := { stood := { row := abpSaysRow, standIns := [], harness := (true, "f354357b447bd8f4eb86b40290022900ea7b2ca7a891b997e13c9dd4f0f80906"), looks := true }, kinds := [], alts := [], laidByText := true, laidKinds := [.handle], laidTests := true, laidLooks := .later }
def AbpSaysCardSaid : Prop := Claim7.holds Tryd.pinned (.plain (OpenSpec.ofChange abpSaysSpec)) abpSaysCard

/-- THE TIED CARD OF 'ferryhythelaw2.GbnSays'. -/
def gbnSaysCard : Claim7 := { stood := { row := gbnSaysRow, standIns := [], harness := (true, "f354357b447bd8f4eb86b40290022900ea7b2ca7a891b997e13c9dd4f0f80906"), looks := true }, kinds := [], alts := [], laidByText := true, laidKinds := [.handle], laidTests := true, laidLooks := .later }
def GbnSaysCardSaid : Prop := Claim7.holds Tryd.pinned (.plain (OpenSpec.ofChange gbnSaysSpec)) gbnSaysCard

/-- THE SECOND FORM's CARD OF 'ferryhythelaw2.AbpSays'. -/
def abpSaysUptoCard : Claim7 := { stood := { row := abpSaysUptoRow, standIns := [], harness := (true, "f354357b447bd8f4eb86b40290022900ea7b2ca7a891b997e13c9dd4f0f80906"), looks := true }, kinds := [], alts := [], laidByText := true, laidKinds := [.handle], laidTests := true, laidLooks := .later }
def AbpSaysUptoCardSaid : Prop := Claim7.holds Tryd.pinned (.plain (OpenSpec.upto abpSaysSpec)) abpSaysUptoCard

/-- THE SECOND FORM's CARD OF 'ferryhythelaw2.GbnSays'. -/
def gbnSaysUptoCard : Claim7 := { stood := { row := gbnSaysUptoRow, standIns := [], harness := (true, "f354357b447bd8f4eb86b40290022900ea7b2ca7a891b997e13c9dd4f0f80906"), looks := true }, kinds := [], alts := [], laidByText := true, laidKinds := [.handle], laidTests := true, laidLooks := .later }
def GbnSaysUptoCardSaid : Prop := Claim7.holds Tryd.pinned (.plain (OpenSpec.upto gbnSaysSpec)) gbnSaysUptoCard
end Rows
end Go.Proofs.YtnkcjkemhdigpaaDoor
