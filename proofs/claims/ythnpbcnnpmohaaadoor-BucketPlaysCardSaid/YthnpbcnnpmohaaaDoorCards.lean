/-
  DERIVED. GIVEN WITH THE SEED: THE CARDS: each row of YthnpbcnnpmohaaaDoorRows.lean that lists a variable, with what it lists TIED to the program's text (the seventh form; the later family's looks); each row that meets fmt, with fmt's text TOLD by the authors' own Lean function (tested against real Go, not proved from fmt's source: count such statements apart). THE CARD IS WHAT COUNTS. Prove the row's statement (the work); the ties are given (YthnpbcnnpmohaaaDoorTie.lean); close each card by the builder's one call (the guide's Derived/Test/ToyasCard.lean, 'card_holds'). Laid BY PROGRAM, IN A SANDBOX (cutbox-door.mjs). By AI agents, Wed Nov 11 2026. No macro, syntax, notation, axiom, sorry.
-/
import Derived.Test.YthnpbcnnpmohaaaDoorRows
import GoSem.ClaimSeven
namespace Go.Proofs.YthnpbcnnpmohaaaDoor
namespace Rows

/-- THE TIED CARD OF 'ferryhythelaw2.RttPlays'. -/
def rttPlaysCard : Claim7 := { stood := { row := rttPlaysRow, standIns := [], harness := (true, "26a325f058814ba1850526cb7343431fde334586ada5407d75091aba09233cd3"), looks := true }, kinds := [], alts := [], laidByText := true, laidKinds := [.handle], laidTests := true, laidLooks := .later }
def RttPlaysCardSaid : Prop := Claim7.holds Tryd.pinned (.plain (OpenSpec.ofChange rttPlaysSpec)) rttPlaysCard

/-- THE TIED CARD OF 'ferryhythelaw2.BucketPlays'. -/
def bucketPlaysCard : Claim7 := { stood := { row := bucketPlaysRow, standIns := [], harness := (true, "26a325f058814ba1850526cb7343431fde334586ada5407d75091aba09233cd3"), looks := true }, kinds := [], alts := [], laidByText := true, laidKinds := [.handle], laidTests := true, laidLooks := .later }
def BucketPlaysCardSaid : Prop := Claim7.holds Tryd.pinned (.plain (OpenSpec.ofChange bucketPlaysSpec)) bucketPlaysCard

/-- THE SECOND FORM's CARD OF 'ferryhythelaw2.RttPlays'. -/
def rttPlaysUptoCard : Claim7 := { stood := { row := rttPlaysUptoRow, standIns := [], harness := (true, "26a325f058814ba1850526cb7343431fde334586ada5407d75091aba09233cd3"), looks := true }, kinds := [], alts := [], laidByText := true, laidKinds := [.handle], laidTests := true, laidLooks := .later }
def RttPlaysUptoCardSaid : Prop := Claim7.holds Tryd.pinned (.plain (OpenSpec.upto rttPlaysSpec)) rttPlaysUptoCard

/-- THE SECOND FORM's CARD OF 'ferryhythelaw2.BucketPlays'. -/
def bucketPlaysUptoCard : Claim7 := { stood := { row := bucketPlaysUptoRow, standIns := [], harness := (true, "26a325f058814ba1850526cb7343431fde334586ada5407d75091aba09233cd3"), looks := true }, kinds := [], alts := [], laidByText := true, laidKinds := [.handle], laidTests := true, laidLooks := .later }
def BucketPlaysUptoCardSaid : Prop := Claim7.holds Tryd.pinned (.plain (OpenSpec.upto bucketPlaysSpec)) bucketPlaysUptoCard
end Rows
end Go.Proofs.YthnpbcnnpmohaaaDoor
