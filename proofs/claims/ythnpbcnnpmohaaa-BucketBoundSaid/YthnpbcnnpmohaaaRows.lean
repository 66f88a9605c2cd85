/-
  No cell of these rows narrows 'for every input' (looked for: loops, veiled, ifaces, maps, wideKeys, modest, calm, conditions, laid).
  DERIVED. THE GIVEN ROWS OF THIS SEAT. 9 by the template 'for every input the law returns true; each argument reads behind the call as it read before'; 0 by the template 'total and deterministic' (their statements: YthnpbcnnpmohaaaTotals.lean).
  GIVEN WITH THE SEED: the statements are not yours to turn. If you find one false, say at which input.
  Laid BY PROGRAM, IN A SANDBOX (cutbox-rows.mjs): the forced cells as the released guide's own fill.sh prints them over the translation 9f9797bdc3ec1462… (all of the seat's roots in one cut). By AI agents, Wed Nov 11 2026. No macro, syntax, notation, axiom, sorry.
-/
import Derived.Test.YthnpbcnnpmohaaaChecked
import GoSem.Claim
import GoSem.ClaimJoined
import GoSem.ClaimMapViews
import Derived.JoinedTies
import Derived.KernelRfl
namespace Go.Proofs.Ythnpbcnnpmohaaa
/- THE CELL 'sum', in the pinned program and in every row, IS THE sha256 OF THE DUMP (.gsa) THAT YthnpbcnnpmohaaaProg.lean LOADS. Nothing in Lean hashes anything: it is a label: what it is worth is what the hold of that sum in a sandbox is worth. -/
noncomputable def Try.pinned : Pinned := { name := "ythnpbcnnpmohaaa", sum := "9f9797bdc3ec146218b77280f410c9fa551c22aa79020df853aa8810627f12b0", checked := Try.checked }
namespace Rows
def none {H : Type} : Left H := { results := [], args := [] }

/-- 'ferryhythelaw2.RttBetween': WHATEVER THE INPUT: true; the input reads as it did. -/
def rttBetweenSpec : ChangeSpec := { name := "rttBetween", fn := fun _ => fun
  | [d] => { results := [.lit (.bool true)], args := [d] }
  | _ => none }
def rttBetweenRow : OpenClaim := { program := "ythnpbcnnpmohaaa", sum := "9f9797bdc3ec146218b77280f410c9fa551c22aa79020df853aa8810627f12b0", func := "ferryhythe/ferryhythelaw2.RttBetween", spec := "rttBetween", apart := false }
def RttBetweenSaid : Prop := rttBetweenRow.holds Try.pinned (OpenSpec.ofChange rttBetweenSpec)

/-- ITS FALSE NEIGHBOUR: 'it returns false'. Refute it at one input. -/
def rttBetweenWrong : ChangeSpec := { name := "rttBetween", fn := fun _ => fun
  | [d] => { results := [.lit (.bool false)], args := [d] }
  | _ => none }
def RttBetweenWrongFalsely : Prop := rttBetweenRow.holds Try.pinned (OpenSpec.ofChange rttBetweenWrong)

/-- 'ferryhythelaw2.RttPull': WHATEVER THE INPUT: true; the input reads as it did. -/
def rttPullSpec : ChangeSpec := { name := "rttPull", fn := fun _ => fun
  | [d1, d2] => { results := [.lit (.bool true)], args := [d1, d2] }
  | _ => none }
def rttPullRow : OpenClaim := { program := "ythnpbcnnpmohaaa", sum := "9f9797bdc3ec146218b77280f410c9fa551c22aa79020df853aa8810627f12b0", func := "ferryhythe/ferryhythelaw2.RttPull", spec := "rttPull", apart := false }
def RttPullSaid : Prop := rttPullRow.holds Try.pinned (OpenSpec.ofChange rttPullSpec)

/-- ITS FALSE NEIGHBOUR: 'it returns false'. Refute it at one input. -/
def rttPullWrong : ChangeSpec := { name := "rttPull", fn := fun _ => fun
  | [d1, d2] => { results := [.lit (.bool false)], args := [d1, d2] }
  | _ => none }
def RttPullWrongFalsely : Prop := rttPullRow.holds Try.pinned (OpenSpec.ofChange rttPullWrong)

/-- 'ferryhythelaw2.RttSteady': WHATEVER THE INPUT: true; the input reads as it did. -/
def rttSteadySpec : ChangeSpec := { name := "rttSteady", fn := fun _ => fun
  | [d1, d2] => { results := [.lit (.bool true)], args := [d1, d2] }
  | _ => none }
def rttSteadyRow : OpenClaim := { program := "ythnpbcnnpmohaaa", sum := "9f9797bdc3ec146218b77280f410c9fa551c22aa79020df853aa8810627f12b0", func := "ferryhythe/ferryhythelaw2.RttSteady", spec := "rttSteady", apart := false }
def RttSteadySaid : Prop := rttSteadyRow.holds Try.pinned (OpenSpec.ofChange rttSteadySpec)

/-- ITS FALSE NEIGHBOUR: 'it returns false'. Refute it at one input. -/
def rttSteadyWrong : ChangeSpec := { name := "rttSteady", fn := fun _ => fun
  | [d1, d2] => { results := [.lit (.bool false)], args := [d1, d2] }
  | _ => none }
def RttSteadyWrongFalsely : Prop := rttSteadyRow.holds Try.pinned (OpenSpec.ofChange rttSteadyWrong)

/-- 'ferryhythelaw2.RttLate': WHATEVER THE INPUT: true; the input reads as it did. -/
def rttLateSpec : ChangeSpec := { name := "rttLate", fn := fun _ => fun
  | [d1, d2] => { results := [.lit (.bool true)], args := [d1, d2] }
  | _ => none }
def rttLateRow : OpenClaim := { program := "ythnpbcnnpmohaaa", sum := "9f9797bdc3ec146218b77280f410c9fa551c22aa79020df853aa8810627f12b0", func := "ferryhythe/ferryhythelaw2.RttLate", spec := "rttLate", apart := false }
def RttLateSaid : Prop := rttLateRow.holds Try.pinned (OpenSpec.ofChange rttLateSpec)

/-- ITS FALSE NEIGHBOUR: 'it returns false'. Refute it at one input. -/
def rttLateWrong : ChangeSpec := { name := "rttLate", fn := fun _ => fun
  | [d1, d2] => { results := [.lit (.bool false)], args := [d1, d2] }
  | _ => none }
def RttLateWrongFalsely : Prop := rttLateRow.holds Try.pinned (OpenSpec.ofChange rttLateWrong)

/-- 'ferryhythelaw2.BucketBound': WHATEVER THE INPUT: true; the input reads as it did. -/
def bucketBoundSpec : ChangeSpec := { name := "bucketBound", fn := fun _ => fun
  | [d1, d2, d3] => { results := [.lit (.bool true)], args := [d1, d2, d3] }
  | _ => none }
def bucketBoundRow : OpenClaim := { program := "ythnpbcnnpmohaaa", sum := "9f9797bdc3ec146218b77280f410c9fa551c22aa79020df853aa8810627f12b0", func := "ferryhythe/ferryhythelaw2.BucketBound", spec := "bucketBound", apart := false }
def BucketBoundSaid : Prop := bucketBoundRow.holds Try.pinned (OpenSpec.ofChange bucketBoundSpec)

/-- ITS FALSE NEIGHBOUR: 'it returns false'. Refute it at one input. -/
def bucketBoundWrong : ChangeSpec := { name := "bucketBound", fn := fun _ => fun
  | [d1, d2, d3] => { results := [.lit (.bool false)], args := [d1, d2, d3] }
  | _ => none }
def BucketBoundWrongFalsely : Prop := bucketBoundRow.holds Try.pinned (OpenSpec.ofChange bucketBoundWrong)

/-- 'ferryhythelaw2.BucketFull': WHATEVER THE INPUT: true; the input reads as it did. -/
def bucketFullSpec : ChangeSpec := { name := "bucketFull", fn := fun _ => fun
  | [d1, d2, d3] => { results := [.lit (.bool true)], args := [d1, d2, d3] }
  | _ => none }
def bucketFullRow : OpenClaim := { program := "ythnpbcnnpmohaaa", sum := "9f9797bdc3ec146218b77280f410c9fa551c22aa79020df853aa8810627f12b0", func := "ferryhythe/ferryhythelaw2.BucketFull", spec := "bucketFull", apart := false }
def BucketFullSaid : Prop := bucketFullRow.holds Try.pinned (OpenSpec.ofChange bucketFullSpec)

/-- ITS FALSE NEIGHBOUR: 'it returns false'. Refute it at one input. -/
def bucketFullWrong : ChangeSpec := { name := "bucketFull", fn := fun _ => fun
  | [d1, d2, d3] => { results := [.lit (.bool false)], args := [d1, d2, d3] }
  | _ => none }
def BucketFullWrongFalsely : Prop := bucketFullRow.holds Try.pinned (OpenSpec.ofChange bucketFullWrong)

/-- 'ferryhythelaw2.RenoSlow': WHATEVER THE INPUT: true; the input reads as it did. -/
def renoSlowSpec : ChangeSpec := { name := "renoSlow", fn := fun _ => fun
  | [d1, d2] => { results := [.lit (.bool true)], args := [d1, d2] }
  | _ => none }
def renoSlowRow : OpenClaim := { program := "ythnpbcnnpmohaaa", sum := "9f9797bdc3ec146218b77280f410c9fa551c22aa79020df853aa8810627f12b0", func := "ferryhythe/ferryhythelaw2.RenoSlow", spec := "renoSlow", apart := false }
def RenoSlowSaid : Prop := renoSlowRow.holds Try.pinned (OpenSpec.ofChange renoSlowSpec)

/-- ITS FALSE NEIGHBOUR: 'it returns false'. Refute it at one input. -/
def renoSlowWrong : ChangeSpec := { name := "renoSlow", fn := fun _ => fun
  | [d1, d2] => { results := [.lit (.bool false)], args := [d1, d2] }
  | _ => none }
def RenoSlowWrongFalsely : Prop := renoSlowRow.holds Try.pinned (OpenSpec.ofChange renoSlowWrong)

/-- 'ferryhythelaw2.RenoLost': WHATEVER THE INPUT: true; the input reads as it did. -/
def renoLostSpec : ChangeSpec := { name := "renoLost", fn := fun _ => fun
  | [d1, d2, d3] => { results := [.lit (.bool true)], args := [d1, d2, d3] }
  | _ => none }
def renoLostRow : OpenClaim := { program := "ythnpbcnnpmohaaa", sum := "9f9797bdc3ec146218b77280f410c9fa551c22aa79020df853aa8810627f12b0", func := "ferryhythe/ferryhythelaw2.RenoLost", spec := "renoLost", apart := false }
def RenoLostSaid : Prop := renoLostRow.holds Try.pinned (OpenSpec.ofChange renoLostSpec)

/-- ITS FALSE NEIGHBOUR: 'it returns false'. Refute it at one input. -/
def renoLostWrong : ChangeSpec := { name := "renoLost", fn := fun _ => fun
  | [d1, d2, d3] => { results := [.lit (.bool false)], args := [d1, d2, d3] }
  | _ => none }
def RenoLostWrongFalsely : Prop := renoLostRow.holds Try.pinned (OpenSpec.ofChange renoLostWrong)

/-- 'ferryhythelaw2.RenoPlays': WHATEVER THE INPUT: true; the input reads as it did. -/
def renoPlaysSpec : ChangeSpec := { name := "renoPlays", fn := fun _ => fun
  | [d] => { results := [.lit (.bool true)], args := [d] }
  | _ => none }
def renoPlaysRow : OpenClaim := { program := "ythnpbcnnpmohaaa", sum := "9f9797bdc3ec146218b77280f410c9fa551c22aa79020df853aa8810627f12b0", func := "ferryhythe/ferryhythelaw2.RenoPlays", spec := "renoPlays", apart := false }
def RenoPlaysSaid : Prop := renoPlaysRow.holds Try.pinned (OpenSpec.ofChange renoPlaysSpec)

/-- ITS FALSE NEIGHBOUR: 'it returns false'. Refute it at one input. -/
def renoPlaysWrong : ChangeSpec := { name := "renoPlays", fn := fun _ => fun
  | [d] => { results := [.lit (.bool false)], args := [d] }
  | _ => none }
def RenoPlaysWrongFalsely : Prop := renoPlaysRow.holds Try.pinned (OpenSpec.ofChange renoPlaysWrong)

/- THE SECOND FORM. 'bulk': how many values and letters a reading holds, each counted each time it is reached (what is shared counts as often as it is met; a slice's spare places count too). A statement '..UptoSaid' is the law's where the arguments, and the package variables that the reading takes, are together of bulk at most 1048576: NARROWER than '..Said'. Prove '..Said' where nothing that the law and all that it calls make is longer than what came in: it says more and counts as full. Else prove '..UptoSaid'. A law counts once. -/
mutual
def uptoBulk {H : Type} : DataW H → Nat
  | .lit (.string bytes) => bytes.length + 1
  | .lit _ => 1
  | .nil => 1
  | .ptr d => uptoBulk d + 1
  | .slice elems spare => uptoBulkAll elems + uptoBulkAll spare + 1
  | .agg parts => uptoBulkAll parts + 1
  | .iface _ d => uptoBulk d + 1
  | .map entries => uptoBulkEntries entries + 1
  | .held _ => 1
def uptoBulkAll {H : Type} : List (DataW H) → Nat
  | [] => 0
  | d :: r => uptoBulk d + uptoBulkAll r
def uptoBulkEntries {H : Type} : List (Lit × DataW H) → Nat
  | [] => 0
  | x :: r => uptoBulkEntry x + uptoBulkEntries r
def uptoBulkEntry {H : Type} : Lit × DataW H → Nat
  | (.string bytes, d) => bytes.length + uptoBulk d + 1
  | (_, d) => uptoBulk d + 1
 end
def uptoSmall : (H : Type) → List (DataW H) → Bool := fun _ ds => decide (uptoBulkAll ds ≤ 1048576)
def OpenSpec.upto (s : _root_.Go.ChangeSpec) : _root_.Go.OpenSpec := { _root_.Go.OpenSpec.ofChange s with cond := some uptoSmall }

/-- 'ferryhythelaw2.RttBetween', WHERE WHAT IT READS IS OF BULK AT MOST 1048576: true; the input reads as it did. -/
def rttBetweenUptoRow : OpenClaim := { program := "ythnpbcnnpmohaaa", sum := "9f9797bdc3ec146218b77280f410c9fa551c22aa79020df853aa8810627f12b0", func := "ferryhythe/ferryhythelaw2.RttBetween", spec := "rttBetween", apart := false, narrowed := true }
def RttBetweenUptoSaid : Prop := rttBetweenUptoRow.holds Try.pinned (OpenSpec.upto rttBetweenSpec)

/-- 'ferryhythelaw2.RttPull', WHERE WHAT IT READS IS OF BULK AT MOST 1048576: true; the input reads as it did. -/
def rttPullUptoRow : OpenClaim := { program := "ythnpbcnnpmohaaa", sum := "9f9797bdc3ec146218b77280f410c9fa551c22aa79020df853aa8810627f12b0", func := "ferryhythe/ferryhythelaw2.RttPull", spec := "rttPull", apart := false, narrowed := true }
def RttPullUptoSaid : Prop := rttPullUptoRow.holds Try.pinned (OpenSpec.upto rttPullSpec)

/-- 'ferryhythelaw2.RttSteady', WHERE WHAT IT READS IS OF BULK AT MOST 1048576: true; the input reads as it did. -/
def rttSteadyUptoRow : OpenClaim := { program := "ythnpbcnnpmohaaa", sum := "9f9797bdc3ec146218b77280f410c9fa551c22aa79020df853aa8810627f12b0", func := "ferryhythe/ferryhythelaw2.RttSteady", spec := "rttSteady", apart := false, narrowed := true }
def RttSteadyUptoSaid : Prop := rttSteadyUptoRow.holds Try.pinned (OpenSpec.upto rttSteadySpec)

/-- 'ferryhythelaw2.RttLate', WHERE WHAT IT READS IS OF BULK AT MOST 1048576: true; the input reads as it did. -/
def rttLateUptoRow : OpenClaim := { program := "ythnpbcnnpmohaaa", sum := "9f9797bdc3ec146218b77280f410c9fa551c22aa79020df853aa8810627f12b0", func := "ferryhythe/ferryhythelaw2.RttLate", spec := "rttLate", apart := false, narrowed := true }
def RttLateUptoSaid : Prop := rttLateUptoRow.holds Try.pinned (OpenSpec.upto rttLateSpec)

/-- 'ferryhythelaw2.BucketBound', WHERE WHAT IT READS IS OF BULK AT MOST 1048576: true; the input reads as it did. -/
def bucketBoundUptoRow : OpenClaim := { program := "ythnpbcnnpmohaaa", sum := "9f9797bdc3ec146218b77280f410c9fa551c22aa79020df853aa8810627f12b0", func := "ferryhythe/ferryhythelaw2.BucketBound", spec := "bucketBound", apart := false, narrowed := true }
def BucketBoundUptoSaid : Prop := bucketBoundUptoRow.holds Try.pinned (OpenSpec.upto bucketBoundSpec)

/-- 'ferryhythelaw2.BucketFull', WHERE WHAT IT READS IS OF BULK AT MOST 1048576: true; the input reads as it did. -/
def bucketFullUptoRow : OpenClaim := { program := "ythnpbcnnpmohaaa", sum := "9f9797bdc3ec146218b77280f410c9fa551c22aa79020df853aa8810627f12b0", func := "ferryhythe/ferryhythelaw2.BucketFull", spec := "bucketFull", apart := false, narrowed := true }
def BucketFullUptoSaid : Prop := bucketFullUptoRow.holds Try.pinned (OpenSpec.upto bucketFullSpec)

/-- 'ferryhythelaw2.RenoSlow', WHERE WHAT IT READS IS OF BULK AT MOST 1048576: true; the input reads as it did. -/
def renoSlowUptoRow : OpenClaim := { program := "ythnpbcnnpmohaaa", sum := "9f9797bdc3ec146218b77280f410c9fa551c22aa79020df853aa8810627f12b0", func := "ferryhythe/ferryhythelaw2.RenoSlow", spec := "renoSlow", apart := false, narrowed := true }
def RenoSlowUptoSaid : Prop := renoSlowUptoRow.holds Try.pinned (OpenSpec.upto renoSlowSpec)

/-- 'ferryhythelaw2.RenoLost', WHERE WHAT IT READS IS OF BULK AT MOST 1048576: true; the input reads as it did. -/
def renoLostUptoRow : OpenClaim := { program := "ythnpbcnnpmohaaa", sum := "9f9797bdc3ec146218b77280f410c9fa551c22aa79020df853aa8810627f12b0", func := "ferryhythe/ferryhythelaw2.RenoLost", spec := "renoLost", apart := false, narrowed := true }
def RenoLostUptoSaid : Prop := renoLostUptoRow.holds Try.pinned (OpenSpec.upto renoLostSpec)

/-- 'ferryhythelaw2.RenoPlays', WHERE WHAT IT READS IS OF BULK AT MOST 1048576: true; the input reads as it did. -/
def renoPlaysUptoRow : OpenClaim := { program := "ythnpbcnnpmohaaa", sum := "9f9797bdc3ec146218b77280f410c9fa551c22aa79020df853aa8810627f12b0", func := "ferryhythe/ferryhythelaw2.RenoPlays", spec := "renoPlays", apart := false, narrowed := true }
def RenoPlaysUptoSaid : Prop := renoPlaysUptoRow.holds Try.pinned (OpenSpec.upto renoPlaysSpec)

end Rows
end Go.Proofs.Ythnpbcnnpmohaaa
