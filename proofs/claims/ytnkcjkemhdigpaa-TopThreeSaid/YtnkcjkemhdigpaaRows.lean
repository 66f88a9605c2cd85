/-
  No cell of these rows narrows 'for every input' (looked for: loops, veiled, ifaces, maps, wideKeys, modest, calm, conditions, laid).
  DERIVED. THE GIVEN ROWS OF THIS SEAT. 8 by the template 'for every input the law returns true; each argument reads behind the call as it read before'; 0 by the template 'total and deterministic' (their statements: YtnkcjkemhdigpaaTotals.lean).
  GIVEN WITH THE SEED: the statements are not yours to turn. If you find one false, say at which input.
  Laid BY PROGRAM, IN A SANDBOX (cutbox-rows.mjs): the forced cells as the released guide's own fill.sh prints them over the translation ff9992e02a9ee887… (all of the seat's roots in one cut). By AI agents, Wed Nov 11 2026. No macro, syntax, notation, axiom, sorry.
-/
import Derived.Test.YtnkcjkemhdigpaaChecked
import GoSem.Claim
import GoSem.ClaimJoined
import GoSem.ClaimMapViews
import Derived.JoinedTies
import Derived.KernelRfl
namespace Go.Proofs.Ytnkcjkemhdigpaa
/- THE CELL 'sum', in the pinned program and in every row, IS THE sha256 OF THE DUMP (.gsa) THAT YtnkcjkemhdigpaaProg.lean LOADS. Nothing in Lean hashes anything: it is a label: what it is worth is what the hold of that sum in a sandbox is worth. -/
noncomputable def Try.pinned : Pinned := { name := "ytnkcjkemhdigpaa", sum := "ff9992e02a9ee887681c54961542122344c6baddfcfd736c783074b8e0a17a67", checked := Try.checked }
namespace Rows
def none {H : Type} : Left H := { results := [], args := [] }

/-- 'ferryhythelaw2.AbpExact': WHATEVER THE INPUT: true; the input reads as it did. -/
def abpExactSpec : ChangeSpec := { name := "abpExact", fn := fun _ => fun
  | [d1, d2] => { results := [.lit (.bool true)], args := [d1, d2] }
  | _ => none }
def abpExactRow : OpenClaim := { program := "ytnkcjkemhdigpaa", sum := "ff9992e02a9ee887681c54961542122344c6baddfcfd736c783074b8e0a17a67", func := "ferryhythe/ferryhythelaw2.AbpExact", spec := "abpExact", apart := false }
def AbpExactSaid : Prop := abpExactRow.holds Try.pinned (OpenSpec.ofChange abpExactSpec)

/-- ITS FALSE NEIGHBOUR: 'it returns false'. Refute it at one input. -/
def abpExactWrong : ChangeSpec := { name := "abpExact", fn := fun _ => fun
  | [d1, d2] => { results := [.lit (.bool false)], args := [d1, d2] }
  | _ => none }
def AbpExactWrongFalsely : Prop := abpExactRow.holds Try.pinned (OpenSpec.ofChange abpExactWrong)

/-- 'ferryhythelaw2.AbpEnds': WHATEVER THE INPUT: true; the input reads as it did. -/
def abpEndsSpec : ChangeSpec := { name := "abpEnds", fn := fun _ => fun
  | [d1, d2] => { results := [.lit (.bool true)], args := [d1, d2] }
  | _ => none }
def abpEndsRow : OpenClaim := { program := "ytnkcjkemhdigpaa", sum := "ff9992e02a9ee887681c54961542122344c6baddfcfd736c783074b8e0a17a67", func := "ferryhythe/ferryhythelaw2.AbpEnds", spec := "abpEnds", apart := false }
def AbpEndsSaid : Prop := abpEndsRow.holds Try.pinned (OpenSpec.ofChange abpEndsSpec)

/-- ITS FALSE NEIGHBOUR: 'it returns false'. Refute it at one input. -/
def abpEndsWrong : ChangeSpec := { name := "abpEnds", fn := fun _ => fun
  | [d1, d2] => { results := [.lit (.bool false)], args := [d1, d2] }
  | _ => none }
def AbpEndsWrongFalsely : Prop := abpEndsRow.holds Try.pinned (OpenSpec.ofChange abpEndsWrong)

/-- 'ferryhythelaw2.GbnExact': WHATEVER THE INPUT: true; the input reads as it did. -/
def gbnExactSpec : ChangeSpec := { name := "gbnExact", fn := fun _ => fun
  | [d1, d2, d3, d4] => { results := [.lit (.bool true)], args := [d1, d2, d3, d4] }
  | _ => none }
def gbnExactRow : OpenClaim := { program := "ytnkcjkemhdigpaa", sum := "ff9992e02a9ee887681c54961542122344c6baddfcfd736c783074b8e0a17a67", func := "ferryhythe/ferryhythelaw2.GbnExact", spec := "gbnExact", apart := false }
def GbnExactSaid : Prop := gbnExactRow.holds Try.pinned (OpenSpec.ofChange gbnExactSpec)

/-- ITS FALSE NEIGHBOUR: 'it returns false'. Refute it at one input. -/
def gbnExactWrong : ChangeSpec := { name := "gbnExact", fn := fun _ => fun
  | [d1, d2, d3, d4] => { results := [.lit (.bool false)], args := [d1, d2, d3, d4] }
  | _ => none }
def GbnExactWrongFalsely : Prop := gbnExactRow.holds Try.pinned (OpenSpec.ofChange gbnExactWrong)

/-- 'ferryhythelaw2.GbnFast': WHATEVER THE INPUT: true; the input reads as it did. -/
def gbnFastSpec : ChangeSpec := { name := "gbnFast", fn := fun _ => fun
  | [d1, d2, d3, d4] => { results := [.lit (.bool true)], args := [d1, d2, d3, d4] }
  | _ => none }
def gbnFastRow : OpenClaim := { program := "ytnkcjkemhdigpaa", sum := "ff9992e02a9ee887681c54961542122344c6baddfcfd736c783074b8e0a17a67", func := "ferryhythe/ferryhythelaw2.GbnFast", spec := "gbnFast", apart := false }
def GbnFastSaid : Prop := gbnFastRow.holds Try.pinned (OpenSpec.ofChange gbnFastSpec)

/-- ITS FALSE NEIGHBOUR: 'it returns false'. Refute it at one input. -/
def gbnFastWrong : ChangeSpec := { name := "gbnFast", fn := fun _ => fun
  | [d1, d2, d3, d4] => { results := [.lit (.bool false)], args := [d1, d2, d3, d4] }
  | _ => none }
def GbnFastWrongFalsely : Prop := gbnFastRow.holds Try.pinned (OpenSpec.ofChange gbnFastWrong)

/-- 'ferryhythelaw2.GbnOne': WHATEVER THE INPUT: true; the input reads as it did. -/
def gbnOneSpec : ChangeSpec := { name := "gbnOne", fn := fun _ => fun
  | [d1, d2] => { results := [.lit (.bool true)], args := [d1, d2] }
  | _ => none }
def gbnOneRow : OpenClaim := { program := "ytnkcjkemhdigpaa", sum := "ff9992e02a9ee887681c54961542122344c6baddfcfd736c783074b8e0a17a67", func := "ferryhythe/ferryhythelaw2.GbnOne", spec := "gbnOne", apart := false }
def GbnOneSaid : Prop := gbnOneRow.holds Try.pinned (OpenSpec.ofChange gbnOneSpec)

/-- ITS FALSE NEIGHBOUR: 'it returns false'. Refute it at one input. -/
def gbnOneWrong : ChangeSpec := { name := "gbnOne", fn := fun _ => fun
  | [d1, d2] => { results := [.lit (.bool false)], args := [d1, d2] }
  | _ => none }
def GbnOneWrongFalsely : Prop := gbnOneRow.holds Try.pinned (OpenSpec.ofChange gbnOneWrong)

/-- 'ferryhythelaw2.SrepExact': WHATEVER THE INPUT: true; the input reads as it did. -/
def srepExactSpec : ChangeSpec := { name := "srepExact", fn := fun _ => fun
  | [d1, d2, d3, d4] => { results := [.lit (.bool true)], args := [d1, d2, d3, d4] }
  | _ => none }
def srepExactRow : OpenClaim := { program := "ytnkcjkemhdigpaa", sum := "ff9992e02a9ee887681c54961542122344c6baddfcfd736c783074b8e0a17a67", func := "ferryhythe/ferryhythelaw2.SrepExact", spec := "srepExact", apart := false }
def SrepExactSaid : Prop := srepExactRow.holds Try.pinned (OpenSpec.ofChange srepExactSpec)

/-- ITS FALSE NEIGHBOUR: 'it returns false'. Refute it at one input. -/
def srepExactWrong : ChangeSpec := { name := "srepExact", fn := fun _ => fun
  | [d1, d2, d3, d4] => { results := [.lit (.bool false)], args := [d1, d2, d3, d4] }
  | _ => none }
def SrepExactWrongFalsely : Prop := srepExactRow.holds Try.pinned (OpenSpec.ofChange srepExactWrong)

/-- 'ferryhythelaw2.SrepEnds': WHATEVER THE INPUT: true; the input reads as it did. -/
def srepEndsSpec : ChangeSpec := { name := "srepEnds", fn := fun _ => fun
  | [d1, d2, d3, d4] => { results := [.lit (.bool true)], args := [d1, d2, d3, d4] }
  | _ => none }
def srepEndsRow : OpenClaim := { program := "ytnkcjkemhdigpaa", sum := "ff9992e02a9ee887681c54961542122344c6baddfcfd736c783074b8e0a17a67", func := "ferryhythe/ferryhythelaw2.SrepEnds", spec := "srepEnds", apart := false }
def SrepEndsSaid : Prop := srepEndsRow.holds Try.pinned (OpenSpec.ofChange srepEndsSpec)

/-- ITS FALSE NEIGHBOUR: 'it returns false'. Refute it at one input. -/
def srepEndsWrong : ChangeSpec := { name := "srepEnds", fn := fun _ => fun
  | [d1, d2, d3, d4] => { results := [.lit (.bool false)], args := [d1, d2, d3, d4] }
  | _ => none }
def SrepEndsWrongFalsely : Prop := srepEndsRow.holds Try.pinned (OpenSpec.ofChange srepEndsWrong)

/-- 'ferryhythetop.TopThree': WHATEVER THE INPUT: true; the input reads as it did. -/
def topThreeSpec : ChangeSpec := { name := "topThree", fn := fun _ => fun
  | [d1, d2, d3] => { results := [.lit (.bool true)], args := [d1, d2, d3] }
  | _ => none }
def topThreeRow : OpenClaim := { program := "ytnkcjkemhdigpaa", sum := "ff9992e02a9ee887681c54961542122344c6baddfcfd736c783074b8e0a17a67", func := "ferryhythe/ferryhythetop.TopThree", spec := "topThree", apart := false }
def TopThreeSaid : Prop := topThreeRow.holds Try.pinned (OpenSpec.ofChange topThreeSpec)

/-- ITS FALSE NEIGHBOUR: 'it returns false'. Refute it at one input. -/
def topThreeWrong : ChangeSpec := { name := "topThree", fn := fun _ => fun
  | [d1, d2, d3] => { results := [.lit (.bool false)], args := [d1, d2, d3] }
  | _ => none }
def TopThreeWrongFalsely : Prop := topThreeRow.holds Try.pinned (OpenSpec.ofChange topThreeWrong)

/- THE SECOND FORM. 'bulk': how many values and letters a reading holds, each counted each time it is reached (what is shared counts as often as it is met; a slice's spare places count too). A statement '..UptoSaid' is the law's where the arguments, and the package variables that the reading takes, are together of bulk at most 1048576: NARROWER than '..Said'. Prove '..Said' where nothing that the law and all that it calls make is longer than what came in: it says more and counts as full. Else prove '..UptoSaid'. A law counts once. -/
mutual
def uptoBulk {H : Type} : DataW H → Nat
  | .lit (.string bytes) => bytes.length + 1
  | .lit _ => 1
  | .nil => 1
  | .ptr d => uptoBulk d + 1
  | .slice elems spare => uptoBulkAll elems + uptoBulkAll spare + 1
  | .agg parts => uptoBulkAll parts + 1
  | .iface _ d => uptoBulk d + 1
  | .map entries => uptoBulkEntries entries + 1
  | .held _ => 1
def uptoBulkAll {H : Type} : List (DataW H) → Nat
  | [] => 0
  | d :: r => uptoBulk d + uptoBulkAll r
def uptoBulkEntries {H : Type} : List (Lit × DataW H) → Nat
  | [] => 0
  | x :: r => uptoBulkEntry x + uptoBulkEntries r
def uptoBulkEntry {H : Type} : Lit × DataW H → Nat
  | (.string bytes, d) => bytes.length + uptoBulk d + 1
  | (_, d) => uptoBulk d + 1
 end
def uptoSmall : (H : Type) → List (DataW H) → Bool := fun _ ds => decide (uptoBulkAll ds ≤ 1048576)
def OpenSpec.upto (s : _root_.Go.ChangeSpec) : _root_.Go.OpenSpec := { _root_.Go.OpenSpec.ofChange s with cond := some uptoSmall }

/-- 'ferryhythelaw2.AbpExact', WHERE WHAT IT READS IS OF BULK AT MOST 1048576: true; the input reads as it did. -/
def abpExactUptoRow : OpenClaim := { program := "ytnkcjkemhdigpaa", sum := "ff9992e02a9ee887681c54961542122344c6baddfcfd736c783074b8e0a17a67", func := "ferryhythe/ferryhythelaw2.AbpExact", spec := "abpExact", apart := false, narrowed := true }
def AbpExactUptoSaid : Prop := abpExactUptoRow.holds Try.pinned (OpenSpec.upto abpExactSpec)

/-- 'ferryhythelaw2.AbpEnds', WHERE WHAT IT READS IS OF BULK AT MOST 1048576: true; the input reads as it did. -/
def abpEndsUptoRow : OpenClaim := { program := "ytnkcjkemhdigpaa", sum := "ff9992e02a9ee887681c54961542122344c6baddfcfd736c783074b8e0a17a67", func := "ferryhythe/ferryhythelaw2.AbpEnds", spec := "abpEnds", apart := false, narrowed := true }
def AbpEndsUptoSaid : Prop := abpEndsUptoRow.holds Try.pinned (OpenSpec.upto abpEndsSpec)

/-- 'ferryhythelaw2.GbnExact', WHERE WHAT IT READS IS OF BULK AT MOST 1048576: true; the input reads as it did. -/
def gbnExactUptoRow : OpenClaim := { program := "ytnkcjkemhdigpaa", sum := "ff9992e02a9ee887681c54961542122344c6baddfcfd736c783074b8e0a17a67", func := "ferryhythe/ferryhythelaw2.GbnExact", spec := "gbnExact", apart := false, narrowed := true }
def GbnExactUptoSaid : Prop := gbnExactUptoRow.holds Try.pinned (OpenSpec.upto gbnExactSpec)

/-- 'ferryhythelaw2.GbnFast', WHERE WHAT IT READS IS OF BULK AT MOST 1048576: true; the input reads as it did. -/
def gbnFastUptoRow : OpenClaim := { program := "ytnkcjkemhdigpaa", sum := "ff9992e02a9ee887681c54961542122344c6baddfcfd736c783074b8e0a17a67", func := "ferryhythe/ferryhythelaw2.GbnFast", spec := "gbnFast", apart := false, narrowed := true }
def GbnFastUptoSaid : Prop := gbnFastUptoRow.holds Try.pinned (OpenSpec.upto gbnFastSpec)

/-- 'ferryhythelaw2.GbnOne', WHERE WHAT IT READS IS OF BULK AT MOST 1048576: true; the input reads as it did. -/
def gbnOneUptoRow : OpenClaim := { program := "ytnkcjkemhdigpaa", sum := "ff9992e02a9ee887681c54961542122344c6baddfcfd736c783074b8e0a17a67", func := "ferryhythe/ferryhythelaw2.GbnOne", spec := "gbnOne", apart := false, narrowed := true }
def GbnOneUptoSaid : Prop := gbnOneUptoRow.holds Try.pinned (OpenSpec.upto gbnOneSpec)

/-- 'ferryhythelaw2.SrepExact', WHERE WHAT IT READS IS OF BULK AT MOST 1048576: true; the input reads as it did. -/
def srepExactUptoRow : OpenClaim := { program := "ytnkcjkemhdigpaa", sum := "ff9992e02a9ee887681c54961542122344c6baddfcfd736c783074b8e0a17a67", func := "ferryhythe/ferryhythelaw2.SrepExact", spec := "srepExact", apart := false, narrowed := true }
def SrepExactUptoSaid : Prop := srepExactUptoRow.holds Try.pinned (OpenSpec.upto srepExactSpec)

/-- 'ferryhythelaw2.SrepEnds', WHERE WHAT IT READS IS OF BULK AT MOST 1048576: true; the input reads as it did. -/
def srepEndsUptoRow : OpenClaim := { program := "ytnkcjkemhdigpaa", sum := "ff9992e02a9ee887681c54961542122344c6baddfcfd736c783074b8e0a17a67", func := "ferryhythe/ferryhythelaw2.SrepEnds", spec := "srepEnds", apart := false, narrowed := true }
def SrepEndsUptoSaid : Prop := srepEndsUptoRow.holds Try.pinned (OpenSpec.upto srepEndsSpec)

/-- 'ferryhythetop.TopThree', WHERE WHAT IT READS IS OF BULK AT MOST 1048576: true; the input reads as it did. -/
def topThreeUptoRow : OpenClaim := { program := "ytnkcjkemhdigpaa", sum := "ff9992e02a9ee887681c54961542122344c6baddfcfd736c783074b8e0a17a67", func := "ferryhythe/ferryhythetop.TopThree", spec := "topThree", apart := false, narrowed := true }
def TopThreeUptoSaid : Prop := topThreeUptoRow.holds Try.pinned (OpenSpec.upto topThreeSpec)

end Rows
end Go.Proofs.Ytnkcjkemhdigpaa
