/-
  No cell of these rows narrows 'for every input' (looked for: loops, veiled, ifaces, maps, wideKeys, modest, calm, conditions, laid).
  DERIVED. THE GIVEN ROWS OF THIS SEAT. 7 by the template 'for every input the law returns true; each argument reads behind the call as it read before'; 0 by the template 'total and deterministic' (their statements: YtikclgfldfpbdaaTotals.lean).
  GIVEN WITH THE SEED: the statements are not yours to turn. If you find one false, say at which input.
  Laid BY PROGRAM, IN A SANDBOX (cutbox-rows.mjs): the forced cells as the released guide's own fill.sh prints them over the translation f77b3ba39aad0ff8… (all of the seat's roots in one cut). By AI agents, Wed Nov 11 2026. No macro, syntax, notation, axiom, sorry.
-/
import Derived.Test.YtikclgfldfpbdaaChecked
import GoSem.Claim
import GoSem.ClaimJoined
import GoSem.ClaimMapViews
import Derived.JoinedTies
import Derived.KernelRfl
namespace Go.Proofs.Ytikclgfldfpbdaa
/- THE CELL 'sum', in the pinned program and in every row, IS THE sha256 OF THE DUMP (.gsa) THAT YtikclgfldfpbdaaProg.lean LOADS. Nothing in Lean hashes anything: it is a label: what it is worth is what the hold of that sum in a sandbox is worth. -/
noncomputable def Try.pinned : Pinned := { name := "ytikclgfldfpbdaa", sum := "f77b3ba39aad0ff8a1b2be0e4bc7dae43827606137d48e97e4cfcb0a7c865544", checked := Try.checked }
namespace Rows
def none {H : Type} : Left H := { results := [], args := [] }

/-- 'ferryhythelaw2.GcraLeak': WHATEVER THE INPUT: true; the input reads as it did. -/
def gcraLeakSpec : ChangeSpec := { name := "gcraLeak", fn := fun _ => fun
  | [d1, d2, d3] => { results := [.lit (.bool true)], args := [d1, d2, d3] }
  | _ => none }
def gcraLeakRow : OpenClaim := { program := "ytikclgfldfpbdaa", sum := "f77b3ba39aad0ff8a1b2be0e4bc7dae43827606137d48e97e4cfcb0a7c865544", func := "ferryhythe/ferryhythelaw2.GcraLeak", spec := "gcraLeak", apart := false }
def GcraLeakSaid : Prop := gcraLeakRow.holds Try.pinned (OpenSpec.ofChange gcraLeakSpec)

/-- ITS FALSE NEIGHBOUR: 'it returns false'. Refute it at one input. -/
def gcraLeakWrong : ChangeSpec := { name := "gcraLeak", fn := fun _ => fun
  | [d1, d2, d3] => { results := [.lit (.bool false)], args := [d1, d2, d3] }
  | _ => none }
def GcraLeakWrongFalsely : Prop := gcraLeakRow.holds Try.pinned (OpenSpec.ofChange gcraLeakWrong)

/-- 'ferryhythelaw2.GcraRate': WHATEVER THE INPUT: true; the input reads as it did. -/
def gcraRateSpec : ChangeSpec := { name := "gcraRate", fn := fun _ => fun
  | [d1, d2, d3] => { results := [.lit (.bool true)], args := [d1, d2, d3] }
  | _ => none }
def gcraRateRow : OpenClaim := { program := "ytikclgfldfpbdaa", sum := "f77b3ba39aad0ff8a1b2be0e4bc7dae43827606137d48e97e4cfcb0a7c865544", func := "ferryhythe/ferryhythelaw2.GcraRate", spec := "gcraRate", apart := false }
def GcraRateSaid : Prop := gcraRateRow.holds Try.pinned (OpenSpec.ofChange gcraRateSpec)

/-- ITS FALSE NEIGHBOUR: 'it returns false'. Refute it at one input. -/
def gcraRateWrong : ChangeSpec := { name := "gcraRate", fn := fun _ => fun
  | [d1, d2, d3] => { results := [.lit (.bool false)], args := [d1, d2, d3] }
  | _ => none }
def GcraRateWrongFalsely : Prop := gcraRateRow.holds Try.pinned (OpenSpec.ofChange gcraRateWrong)

/-- 'ferryhythelaw2.GcraShift': WHATEVER THE INPUT: true; the input reads as it did. -/
def gcraShiftSpec : ChangeSpec := { name := "gcraShift", fn := fun _ => fun
  | [d1, d2, d3, d4] => { results := [.lit (.bool true)], args := [d1, d2, d3, d4] }
  | _ => none }
def gcraShiftRow : OpenClaim := { program := "ytikclgfldfpbdaa", sum := "f77b3ba39aad0ff8a1b2be0e4bc7dae43827606137d48e97e4cfcb0a7c865544", func := "ferryhythe/ferryhythelaw2.GcraShift", spec := "gcraShift", apart := false }
def GcraShiftSaid : Prop := gcraShiftRow.holds Try.pinned (OpenSpec.ofChange gcraShiftSpec)

/-- ITS FALSE NEIGHBOUR: 'it returns false'. Refute it at one input. -/
def gcraShiftWrong : ChangeSpec := { name := "gcraShift", fn := fun _ => fun
  | [d1, d2, d3, d4] => { results := [.lit (.bool false)], args := [d1, d2, d3, d4] }
  | _ => none }
def GcraShiftWrongFalsely : Prop := gcraShiftRow.holds Try.pinned (OpenSpec.ofChange gcraShiftWrong)

/-- 'ferryhythetop.TopGates': WHATEVER THE INPUT: true; the input reads as it did. -/
def topGatesSpec : ChangeSpec := { name := "topGates", fn := fun _ => fun
  | [d1, d2] => { results := [.lit (.bool true)], args := [d1, d2] }
  | _ => none }
def topGatesRow : OpenClaim := { program := "ytikclgfldfpbdaa", sum := "f77b3ba39aad0ff8a1b2be0e4bc7dae43827606137d48e97e4cfcb0a7c865544", func := "ferryhythe/ferryhythetop.TopGates", spec := "topGates", apart := false }
def TopGatesSaid : Prop := topGatesRow.holds Try.pinned (OpenSpec.ofChange topGatesSpec)

/-- ITS FALSE NEIGHBOUR: 'it returns false'. Refute it at one input. -/
def topGatesWrong : ChangeSpec := { name := "topGates", fn := fun _ => fun
  | [d1, d2] => { results := [.lit (.bool false)], args := [d1, d2] }
  | _ => none }
def TopGatesWrongFalsely : Prop := topGatesRow.holds Try.pinned (OpenSpec.ofChange topGatesWrong)

/-- 'ferryhythelaw2.AimdRoom': WHATEVER THE INPUT: true; the input reads as it did. -/
def aimdRoomSpec : ChangeSpec := { name := "aimdRoom", fn := fun _ => fun
  | [d1, d2, d3] => { results := [.lit (.bool true)], args := [d1, d2, d3] }
  | _ => none }
def aimdRoomRow : OpenClaim := { program := "ytikclgfldfpbdaa", sum := "f77b3ba39aad0ff8a1b2be0e4bc7dae43827606137d48e97e4cfcb0a7c865544", func := "ferryhythe/ferryhythelaw2.AimdRoom", spec := "aimdRoom", unfollowed := true, recurses := true, apart := false }
def AimdRoomSaid : Prop := aimdRoomRow.holds Try.pinned (OpenSpec.ofChange aimdRoomSpec)

/-- ITS FALSE NEIGHBOUR: 'it returns false'. Refute it at one input. -/
def aimdRoomWrong : ChangeSpec := { name := "aimdRoom", fn := fun _ => fun
  | [d1, d2, d3] => { results := [.lit (.bool false)], args := [d1, d2, d3] }
  | _ => none }
def AimdRoomWrongFalsely : Prop := aimdRoomRow.holds Try.pinned (OpenSpec.ofChange aimdRoomWrong)

/-- 'ferryhythelaw2.AimdSame': WHATEVER THE INPUT: true; the input reads as it did. -/
def aimdSameSpec : ChangeSpec := { name := "aimdSame", fn := fun _ => fun
  | [d1, d2, d3, d4, d5] => { results := [.lit (.bool true)], args := [d1, d2, d3, d4, d5] }
  | _ => none }
def aimdSameRow : OpenClaim := { program := "ytikclgfldfpbdaa", sum := "f77b3ba39aad0ff8a1b2be0e4bc7dae43827606137d48e97e4cfcb0a7c865544", func := "ferryhythe/ferryhythelaw2.AimdSame", spec := "aimdSame", unfollowed := true, recurses := true, apart := false }
def AimdSameSaid : Prop := aimdSameRow.holds Try.pinned (OpenSpec.ofChange aimdSameSpec)

/-- ITS FALSE NEIGHBOUR: 'it returns false'. Refute it at one input. -/
def aimdSameWrong : ChangeSpec := { name := "aimdSame", fn := fun _ => fun
  | [d1, d2, d3, d4, d5] => { results := [.lit (.bool false)], args := [d1, d2, d3, d4, d5] }
  | _ => none }
def AimdSameWrongFalsely : Prop := aimdSameRow.holds Try.pinned (OpenSpec.ofChange aimdSameWrong)

/-- 'ferryhythelaw2.AimdFair': WHATEVER THE INPUT: true; the input reads as it did. -/
def aimdFairSpec : ChangeSpec := { name := "aimdFair", fn := fun _ => fun
  | [d1, d2, d3] => { results := [.lit (.bool true)], args := [d1, d2, d3] }
  | _ => none }
def aimdFairRow : OpenClaim := { program := "ytikclgfldfpbdaa", sum := "f77b3ba39aad0ff8a1b2be0e4bc7dae43827606137d48e97e4cfcb0a7c865544", func := "ferryhythe/ferryhythelaw2.AimdFair", spec := "aimdFair", unfollowed := true, recurses := true, apart := false }
def AimdFairSaid : Prop := aimdFairRow.holds Try.pinned (OpenSpec.ofChange aimdFairSpec)

/-- ITS FALSE NEIGHBOUR: 'it returns false'. Refute it at one input. -/
def aimdFairWrong : ChangeSpec := { name := "aimdFair", fn := fun _ => fun
  | [d1, d2, d3] => { results := [.lit (.bool false)], args := [d1, d2, d3] }
  | _ => none }
def AimdFairWrongFalsely : Prop := aimdFairRow.holds Try.pinned (OpenSpec.ofChange aimdFairWrong)

/- THE SECOND FORM. 'bulk': how many values and letters a reading holds, each counted each time it is reached (what is shared counts as often as it is met; a slice's spare places count too). A statement '..UptoSaid' is the law's where the arguments, and the package variables that the reading takes, are together of bulk at most 1048576: NARROWER than '..Said'. Prove '..Said' where nothing that the law and all that it calls make is longer than what came in: it says more and counts as full. Else prove '..UptoSaid'. A law counts once. -/
mutual
def uptoBulk {H : Type} : DataW H → Nat
  | .lit (.string bytes) => bytes.length + 1
  | .lit _ => 1
  | .nil => 1
  | .ptr d => uptoBulk d + 1
  | .slice elems spare => uptoBulkAll elems + uptoBulkAll spare + 1
  | .agg parts => uptoBulkAll parts + 1
  | .iface _ d => uptoBulk d + 1
  | .map entries => uptoBulkEntries entries + 1
  | .held _ => 1
def uptoBulkAll {H : Type} : List (DataW H) → Nat
  | [] => 0
  | d :: r => uptoBulk d + uptoBulkAll r
def uptoBulkEntries {H : Type} : List (Lit × DataW H) → Nat
  | [] => 0
  | x :: r => uptoBulkEntry x + uptoBulkEntries r
def uptoBulkEntry {H : Type} : Lit × DataW H → Nat
  | (.string bytes, d) => bytes.length + uptoBulk d + 1
  | (_, d) => uptoBulk d + 1
 end
def uptoSmall : (H : Type) → List (DataW H) → Bool := fun _ ds => decide (uptoBulkAll ds ≤ 1048576)
def OpenSpec.upto (s : _root_.Go.ChangeSpec) : _root_.Go.OpenSpec := { _root_.Go.OpenSpec.ofChange s with cond := some uptoSmall }

/-- 'ferryhythelaw2.GcraLeak', WHERE WHAT IT READS IS OF BULK AT MOST 1048576: true; the input reads as it did. -/
def gcraLeakUptoRow : OpenClaim := { program := "ytikclgfldfpbdaa", sum := "f77b3ba39aad0ff8a1b2be0e4bc7dae43827606137d48e97e4cfcb0a7c865544", func := "ferryhythe/ferryhythelaw2.GcraLeak", spec := "gcraLeak", apart := false, narrowed := true }
def GcraLeakUptoSaid : Prop := gcraLeakUptoRow.holds Try.pinned (OpenSpec.upto gcraLeakSpec)

/-- 'ferryhythelaw2.GcraRate', WHERE WHAT IT READS IS OF BULK AT MOST 1048576: true; the input reads as it did. -/
def gcraRateUptoRow : OpenClaim := { program := "ytikclgfldfpbdaa", sum := "f77b3ba39aad0ff8a1b2be0e4bc7dae43827606137d48e97e4cfcb0a7c865544", func := "ferryhythe/ferryhythelaw2.GcraRate", spec := "gcraRate", apart := false, narrowed := true }
def GcraRateUptoSaid : Prop := gcraRateUptoRow.holds Try.pinned (OpenSpec.upto gcraRateSpec)

/-- 'ferryhythelaw2.GcraShift', WHERE WHAT IT READS IS OF BULK AT MOST 1048576: true; the input reads as it did. -/
def gcraShiftUptoRow : OpenClaim := { program := "ytikclgfldfpbdaa", sum := "f77b3ba39aad0ff8a1b2be0e4bc7dae43827606137d48e97e4cfcb0a7c865544", func := "ferryhythe/ferryhythelaw2.GcraShift", spec := "gcraShift", apart := false, narrowed := true }
def GcraShiftUptoSaid : Prop := gcraShiftUptoRow.holds Try.pinned (OpenSpec.upto gcraShiftSpec)

/-- 'ferryhythetop.TopGates', WHERE WHAT IT READS IS OF BULK AT MOST 1048576: true; the input reads as it did. -/
def topGatesUptoRow : OpenClaim := { program := "ytikclgfldfpbdaa", sum := "f77b3ba39aad0ff8a1b2be0e4bc7dae43827606137d48e97e4cfcb0a7c865544", func := "ferryhythe/ferryhythetop.TopGates", spec := "topGates", apart := false, narrowed := true }
def TopGatesUptoSaid : Prop := topGatesUptoRow.holds Try.pinned (OpenSpec.upto topGatesSpec)

/-- 'ferryhythelaw2.AimdRoom', WHERE WHAT IT READS IS OF BULK AT MOST 1048576: true; the input reads as it did. -/
def aimdRoomUptoRow : OpenClaim := { program := "ytikclgfldfpbdaa", sum := "f77b3ba39aad0ff8a1b2be0e4bc7dae43827606137d48e97e4cfcb0a7c865544", func := "ferryhythe/ferryhythelaw2.AimdRoom", spec := "aimdRoom", unfollowed := true, recurses := true, apart := false, narrowed := true }
def AimdRoomUptoSaid : Prop := aimdRoomUptoRow.holds Try.pinned (OpenSpec.upto aimdRoomSpec)

/-- 'ferryhythelaw2.AimdSame', WHERE WHAT IT READS IS OF BULK AT MOST 1048576: true; the input reads as it did. -/
def aimdSameUptoRow : OpenClaim := { program := "ytikclgfldfpbdaa", sum := "f77b3ba39aad0ff8a1b2be0e4bc7dae43827606137d48e97e4cfcb0a7c865544", func := "ferryhythe/ferryhythelaw2.AimdSame", spec := "aimdSame", unfollowed := true, recurses := true, apart := false, narrowed := true }
def AimdSameUptoSaid : Prop := aimdSameUptoRow.holds Try.pinned (OpenSpec.upto aimdSameSpec)

/-- 'ferryhythelaw2.AimdFair', WHERE WHAT IT READS IS OF BULK AT MOST 1048576: true; the input reads as it did. -/
def aimdFairUptoRow : OpenClaim := { program := "ytikclgfldfpbdaa", sum := "f77b3ba39aad0ff8a1b2be0e4bc7dae43827606137d48e97e4cfcb0a7c865544", func := "ferryhythe/ferryhythelaw2.AimdFair", spec := "aimdFair", unfollowed := true, recurses := true, apart := false, narrowed := true }
def AimdFairUptoSaid : Prop := aimdFairUptoRow.holds Try.pinned (OpenSpec.upto aimdFairSpec)

end Rows
end Go.Proofs.Ytikclgfldfpbdaa
