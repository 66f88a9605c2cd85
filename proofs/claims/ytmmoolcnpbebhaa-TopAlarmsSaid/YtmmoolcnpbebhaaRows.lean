/-
  No cell of these rows narrows 'for every input' (looked for: loops, veiled, ifaces, maps, wideKeys, modest, calm, conditions, laid).
  DERIVED. THE GIVEN ROWS OF THIS SEAT. 2 by the template 'for every input the law returns true; each argument reads behind the call as it read before'; 0 by the template 'total and deterministic' (their statements: YtmmoolcnpbebhaaTotals.lean).
  GIVEN WITH THE SEED: the statements are not yours to turn. If you find one false, say at which input.
  Laid BY PROGRAM, IN A SANDBOX (cutbox-rows.mjs): the forced cells as the released guide's own fill.sh prints them over the translation 7cf91d834cbc8328… (all of the seat's roots in one cut). By AI agents, Wed Nov 11 2026. No macro, syntax, notation, axiom, sorry.
-/
import Derived.Test.YtmmoolcnpbebhaaChecked
import GoSem.Claim
import GoSem.ClaimJoined
import GoSem.ClaimMapViews
import Derived.JoinedTies
import Derived.KernelRfl
namespace Go.Proofs.Ytmmoolcnpbebhaa
/- THE CELL 'sum', in the pinned program and in every row, IS THE sha256 OF THE DUMP (.gsa) THAT YtmmoolcnpbebhaaProg.lean LOADS. Nothing in Lean hashes anything: it is a label: what it is worth is what the hold of that sum in a sandbox is worth. -/
noncomputable def Try.pinned : Pinned := { name := "ytmmoolcnpbebhaa", sum := "7cf91d834cbc83287cdd71b3f6ed19598990905efec40c20d2388f24a435dc85", checked := Try.checked }
namespace Rows
def none {H : Type} : Left H := { results := [], args := [] }

/-- 'ferryhythelaw2.WheelDue': WHATEVER THE INPUT: true; the input reads as it did. -/
def wheelDueSpec : ChangeSpec := { name := "wheelDue", fn := fun _ => fun
  | [d1, d2, d3] => { results := [.lit (.bool true)], args := [d1, d2, d3] }
  | _ => none }
def wheelDueRow : OpenClaim := { program := "ytmmoolcnpbebhaa", sum := "7cf91d834cbc83287cdd71b3f6ed19598990905efec40c20d2388f24a435dc85", func := "ferryhythe/ferryhythelaw2.WheelDue", spec := "wheelDue", recurses := true, apart := false }
def WheelDueSaid : Prop := wheelDueRow.holds Try.pinned (OpenSpec.ofChange wheelDueSpec)

/-- ITS FALSE NEIGHBOUR: 'it returns false'. Refute it at one input. -/
def wheelDueWrong : ChangeSpec := { name := "wheelDue", fn := fun _ => fun
  | [d1, d2, d3] => { results := [.lit (.bool false)], args := [d1, d2, d3] }
  | _ => none }
def WheelDueWrongFalsely : Prop := wheelDueRow.holds Try.pinned (OpenSpec.ofChange wheelDueWrong)

/-- 'ferryhythetop.TopAlarms': WHATEVER THE INPUT: true; the input reads as it did. -/
def topAlarmsSpec : ChangeSpec := { name := "topAlarms", fn := fun _ => fun
  | [d1, d2] => { results := [.lit (.bool true)], args := [d1, d2] }
  | _ => none }
def topAlarmsRow : OpenClaim := { program := "ytmmoolcnpbebhaa", sum := "7cf91d834cbc83287cdd71b3f6ed19598990905efec40c20d2388f24a435dc85", func := "ferryhythe/ferryhythetop.TopAlarms", spec := "topAlarms", recurses := true, apart := false }
def TopAlarmsSaid : Prop := topAlarmsRow.holds Try.pinned (OpenSpec.ofChange topAlarmsSpec)

/-- ITS FALSE NEIGHBOUR: 'it returns false'. Refute it at one input. -/
def topAlarmsWrong : ChangeSpec := { name := "topAlarms", fn := fun _ => fun
  | [d1, d2] => { results := [.lit (.bool false)], args := [d1, d2] }
  | _ => none }
def TopAlarmsWrongFalsely : Prop := topAlarmsRow.holds Try.pinned (OpenSpec.ofChange topAlarmsWrong)

/- THE SECOND FORM. 'bulk': how many values and letters a reading holds, each counted each time it is reached (what is shared counts as often as it is met; a slice's spare places count too). A statement '..UptoSaid' is the law's where the arguments, and the package variables that the reading takes, are together of bulk at most 1048576: NARROWER than '..Said'. Prove '..Said' where nothing that the law and all that it calls make is longer than what came in: it says more and counts as full. Else prove '..UptoSaid'. A law counts once. -/
mutual
def uptoBulk {H : Type} : DataW H → Nat
  | .lit (.string bytes) => bytes.length + 1
  | .lit _ => 1
  | .nil => 1
  | .ptr d => uptoBulk d + 1
  | .slice elems spare => uptoBulkAll elems + uptoBulkAll spare + 1
  | .agg parts => uptoBulkAll parts + 1
  | .iface _ d => uptoBulk d + 1
  | .map entries => uptoBulkEntries entries + 1
  | .held _ => 1
def uptoBulkAll {H : Type} : List (DataW H) → Nat
  | [] => 0
  | d :: r => uptoBulk d + uptoBulkAll r
def uptoBulkEntries {H : Type} : List (Lit × DataW H) → Nat
  | [] => 0
  | x :: r => uptoBulkEntry x + uptoBulkEntries r
def uptoBulkEntry {H : Type} : Lit × DataW H → Nat
  | (.string bytes, d) => bytes.length + uptoBulk d + 1
  | (_, d) => uptoBulk d + 1
 end
def uptoSmall : (H : Type) → List (DataW H) → Bool := fun _ ds => decide (uptoBulkAll ds ≤ 1048576)
def OpenSpec.upto (s : _root_.Go.ChangeSpec) : _root_.Go.OpenSpec := { _root_.Go.OpenSpec.ofChange s with cond := some uptoSmall }

/-- 'ferryhythelaw2.WheelDue', WHERE WHAT IT READS IS OF BULK AT MOST 1048576: true; the input reads as it did. -/
def wheelDueUptoRow : OpenClaim := { program := "ytmmoolcnpbebhaa", sum := "7cf91d834cbc83287cdd71b3f6ed19598990905efec40c20d2388f24a435dc85", func := "ferryhythe/ferryhythelaw2.WheelDue", spec := "wheelDue", recurses := true, apart := false, narrowed := true }
def WheelDueUptoSaid : Prop := wheelDueUptoRow.holds Try.pinned (OpenSpec.upto wheelDueSpec)

/-- 'ferryhythetop.TopAlarms', WHERE WHAT IT READS IS OF BULK AT MOST 1048576: true; the input reads as it did. -/
def topAlarmsUptoRow : OpenClaim := { program := "ytmmoolcnpbebhaa", sum := "7cf91d834cbc83287cdd71b3f6ed19598990905efec40c20d2388f24a435dc85", func := "ferryhythe/ferryhythetop.TopAlarms", spec := "topAlarms", recurses := true, apart := false, narrowed := true }
def TopAlarmsUptoSaid : Prop := topAlarmsUptoRow.holds Try.pinned (OpenSpec.upto topAlarmsSpec)

end Rows
end Go.Proofs.Ytmmoolcnpbebhaa
