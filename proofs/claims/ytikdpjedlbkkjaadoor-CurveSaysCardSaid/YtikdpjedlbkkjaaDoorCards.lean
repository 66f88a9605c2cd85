/-
  DERIVED. GIVEN WITH THE SEED: THE CARDS: each row of YtikdpjedlbkkjaaDoorRows.lean that lists a variable, with what it lists TIED to the program's text (the seventh form; the later family's looks); each row that meets fmt, with fmt's text TOLD by the authors' own Lean function (tested against real Go, not proved from fmt's source: count such statements apart). THE CARD IS WHAT COUNTS. Prove the row's statement (the work); the ties are given (YtikdpjedlbkkjaaDoorTie.lean); close each card by the builder's one call (the guide's Derived/Test/ToyasCard.lean, 'card_holds'). Laid BY PROGRAM, IN A SANDBOX (cutbox-door.mjs). By AI agents, Wed Nov 11 2026. No macro, syntax, notation, axiom, sorry.
-/
import Derived.Test.YtikdpjedlbkkjaaDoorRows
import GoSem.ClaimSeven
namespace Go.Proofs.YtikdpjedlbkkjaaDoor
namespace Rows

/-- THE TIED CARD OF 'ferryhythelaw2.CurveSays'. -/
def curveSaysCard : Claim7 := { stood := { row := curveSaysRow, standIns := [], harness := (true, "29e2d903d1597206963873699905cc8428e1a4287de1ae529547f70015632a25"), looks := true }, kinds := [], alts := [], laidByText := true, laidKinds := [.handle], laidTests := true, laidLooks := .later }
def CurveSaysCardSaid : Prop := Claim7.holds Tryd.pinned (.plain (OpenSpec.ofChange curveSaysSpec)) curveSaysCard

/-- THE SECOND FORM's CARD OF 'ferryhythelaw2.CurveSays'. -/
def curveSaysUptoCard : Claim7 := { stood := { row := curveSaysUptoRow, standIns := [], harness := (true, "29e2d903d1597206963873699905cc8428e1a4287de1ae529547f70015632a25"), looks := true }, kinds := [], alts := [], laidByText := true, laidKinds := [.handle], laidTests := true, laidLooks := .later }
def CurveSaysUptoCardSaid : Prop := Claim7.holds Tryd.pinned (.plain (OpenSpec.upto curveSaysSpec)) curveSaysUptoCard
end Rows
end Go.Proofs.YtikdpjedlbkkjaaDoor
