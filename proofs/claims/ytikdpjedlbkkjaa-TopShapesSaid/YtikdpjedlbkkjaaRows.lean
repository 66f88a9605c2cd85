/-
  No cell of these rows narrows 'for every input' (looked for: loops, veiled, ifaces, maps, wideKeys, modest, calm, conditions, laid).
  DERIVED. THE GIVEN ROWS OF THIS SEAT. 5 by the template 'for every input the law returns true; each argument reads behind the call as it read before'; 0 by the template 'total and deterministic' (their statements: YtikdpjedlbkkjaaTotals.lean).
  GIVEN WITH THE SEED: the statements are not yours to turn. If you find one false, say at which input.
  Laid BY PROGRAM, IN A SANDBOX (cutbox-rows.mjs): the forced cells as the released guide's own fill.sh prints them over the translation 9e5cb4668ec31c4f… (all of the seat's roots in one cut). By AI agents, Wed Nov 11 2026. No macro, syntax, notation, axiom, sorry.
-/
import Derived.Test.YtikdpjedlbkkjaaChecked
import GoSem.Claim
import GoSem.ClaimJoined
import GoSem.ClaimMapViews
import Derived.JoinedTies
import Derived.KernelRfl
namespace Go.Proofs.Ytikdpjedlbkkjaa
/- THE CELL 'sum', in the pinned program and in every row, IS THE sha256 OF THE DUMP (.gsa) THAT YtikdpjedlbkkjaaProg.lean LOADS. Nothing in Lean hashes anything: it is a label: what it is worth is what the hold of that sum in a sandbox is worth. -/
noncomputable def Try.pinned : Pinned := { name := "ytikdpjedlbkkjaa", sum := "9e5cb4668ec31c4f7bf1ec1682577b513d45b0e256a10d9f9526949a859a86e3", checked := Try.checked }
namespace Rows
def none {H : Type} : Left H := { results := [], args := [] }

/-- 'ferryhythelaw2.CurveFold': WHATEVER THE INPUT: true; the input reads as it did. -/
def curveFoldSpec : ChangeSpec := { name := "curveFold", fn := fun _ => fun
  | [d1, d2, d3] => { results := [.lit (.bool true)], args := [d1, d2, d3] }
  | _ => none }
def curveFoldRow : OpenClaim := { program := "ytikdpjedlbkkjaa", sum := "9e5cb4668ec31c4f7bf1ec1682577b513d45b0e256a10d9f9526949a859a86e3", func := "ferryhythe/ferryhythelaw2.CurveFold", spec := "curveFold", unfollowed := true, recurses := true, apart := false }
def CurveFoldSaid : Prop := curveFoldRow.holds Try.pinned (OpenSpec.ofChange curveFoldSpec)

/-- ITS FALSE NEIGHBOUR: 'it returns false'. Refute it at one input. -/
def curveFoldWrong : ChangeSpec := { name := "curveFold", fn := fun _ => fun
  | [d1, d2, d3] => { results := [.lit (.bool false)], args := [d1, d2, d3] }
  | _ => none }
def CurveFoldWrongFalsely : Prop := curveFoldRow.holds Try.pinned (OpenSpec.ofChange curveFoldWrong)

/-- 'ferryhythelaw2.CurveMore': WHATEVER THE INPUT: true; the input reads as it did. -/
def curveMoreSpec : ChangeSpec := { name := "curveMore", fn := fun _ => fun
  | [d1, d2, d3] => { results := [.lit (.bool true)], args := [d1, d2, d3] }
  | _ => none }
def curveMoreRow : OpenClaim := { program := "ytikdpjedlbkkjaa", sum := "9e5cb4668ec31c4f7bf1ec1682577b513d45b0e256a10d9f9526949a859a86e3", func := "ferryhythe/ferryhythelaw2.CurveMore", spec := "curveMore", unfollowed := true, recurses := true, apart := false }
def CurveMoreSaid : Prop := curveMoreRow.holds Try.pinned (OpenSpec.ofChange curveMoreSpec)

/-- ITS FALSE NEIGHBOUR: 'it returns false'. Refute it at one input. -/
def curveMoreWrong : ChangeSpec := { name := "curveMore", fn := fun _ => fun
  | [d1, d2, d3] => { results := [.lit (.bool false)], args := [d1, d2, d3] }
  | _ => none }
def CurveMoreWrongFalsely : Prop := curveMoreRow.holds Try.pinned (OpenSpec.ofChange curveMoreWrong)

/-- 'ferryhythelaw2.CurveServed': WHATEVER THE INPUT: true; the input reads as it did. -/
def curveServedSpec : ChangeSpec := { name := "curveServed", fn := fun _ => fun
  | [d1, d2, d3] => { results := [.lit (.bool true)], args := [d1, d2, d3] }
  | _ => none }
def curveServedRow : OpenClaim := { program := "ytikdpjedlbkkjaa", sum := "9e5cb4668ec31c4f7bf1ec1682577b513d45b0e256a10d9f9526949a859a86e3", func := "ferryhythe/ferryhythelaw2.CurveServed", spec := "curveServed", unfollowed := true, recurses := true, apart := false }
def CurveServedSaid : Prop := curveServedRow.holds Try.pinned (OpenSpec.ofChange curveServedSpec)

/-- ITS FALSE NEIGHBOUR: 'it returns false'. Refute it at one input. -/
def curveServedWrong : ChangeSpec := { name := "curveServed", fn := fun _ => fun
  | [d1, d2, d3] => { results := [.lit (.bool false)], args := [d1, d2, d3] }
  | _ => none }
def CurveServedWrongFalsely : Prop := curveServedRow.holds Try.pinned (OpenSpec.ofChange curveServedWrong)

/-- 'ferryhythelaw2.CurveDelay': WHATEVER THE INPUT: true; the input reads as it did. -/
def curveDelaySpec : ChangeSpec := { name := "curveDelay", fn := fun _ => fun
  | [d1, d2, d3] => { results := [.lit (.bool true)], args := [d1, d2, d3] }
  | _ => none }
def curveDelayRow : OpenClaim := { program := "ytikdpjedlbkkjaa", sum := "9e5cb4668ec31c4f7bf1ec1682577b513d45b0e256a10d9f9526949a859a86e3", func := "ferryhythe/ferryhythelaw2.CurveDelay", spec := "curveDelay", unfollowed := true, recurses := true, apart := false }
def CurveDelaySaid : Prop := curveDelayRow.holds Try.pinned (OpenSpec.ofChange curveDelaySpec)

/-- ITS FALSE NEIGHBOUR: 'it returns false'. Refute it at one input. -/
def curveDelayWrong : ChangeSpec := { name := "curveDelay", fn := fun _ => fun
  | [d1, d2, d3] => { results := [.lit (.bool false)], args := [d1, d2, d3] }
  | _ => none }
def CurveDelayWrongFalsely : Prop := curveDelayRow.holds Try.pinned (OpenSpec.ofChange curveDelayWrong)

/-- 'ferryhythetop.TopShapes': WHATEVER THE INPUT: true; the input reads as it did. -/
def topShapesSpec : ChangeSpec := { name := "topShapes", fn := fun _ => fun
  | [d1, d2, d3] => { results := [.lit (.bool true)], args := [d1, d2, d3] }
  | _ => none }
def topShapesRow : OpenClaim := { program := "ytikdpjedlbkkjaa", sum := "9e5cb4668ec31c4f7bf1ec1682577b513d45b0e256a10d9f9526949a859a86e3", func := "ferryhythe/ferryhythetop.TopShapes", spec := "topShapes", apart := false }
def TopShapesSaid : Prop := topShapesRow.holds Try.pinned (OpenSpec.ofChange topShapesSpec)

/-- ITS FALSE NEIGHBOUR: 'it returns false'. Refute it at one input. -/
def topShapesWrong : ChangeSpec := { name := "topShapes", fn := fun _ => fun
  | [d1, d2, d3] => { results := [.lit (.bool false)], args := [d1, d2, d3] }
  | _ => none }
def TopShapesWrongFalsely : Prop := topShapesRow.holds Try.pinned (OpenSpec.ofChange topShapesWrong)

/- THE SECOND FORM. 'bulk': how many values and letters a reading holds, each counted each time it is reached (what is shared counts as often as it is met; a slice's spare places count too). A statement '..UptoSaid' is the law's where the arguments, and the package variables that the reading takes, are together of bulk at most 1048576: NARROWER than '..Said'. Prove '..Said' where nothing that the law and all that it calls make is longer than what came in: it says more and counts as full. Else prove '..UptoSaid'. A law counts once. -/
mutual
def uptoBulk {H : Type} : DataW H → Nat
  | .lit (.string bytes) => bytes.length + 1
  | .lit _ => 1
  | .nil => 1
  | .ptr d => uptoBulk d + 1
  | .slice elems spare => uptoBulkAll elems + uptoBulkAll spare + 1
  | .agg parts => uptoBulkAll parts + 1
  | .iface _ d => uptoBulk d + 1
  | .map entries => uptoBulkEntries entries + 1
  | .held _ => 1
def uptoBulkAll {H : Type} : List (DataW H) → Nat
  | [] => 0
  | d :: r => uptoBulk d + uptoBulkAll r
def uptoBulkEntries {H : Type} : List (Lit × DataW H) → Nat
  | [] => 0
  | x :: r => uptoBulkEntry x + uptoBulkEntries r
def uptoBulkEntry {H : Type} : Lit × DataW H → Nat
  | (.string bytes, d) => bytes.length + uptoBulk d + 1
  | (_, d) => uptoBulk d + 1
 end
def uptoSmall : (H : Type) → List (DataW H) → Bool := fun _ ds => decide (uptoBulkAll ds ≤ 1048576)
def OpenSpec.upto (s : _root_.Go.ChangeSpec) : _root_.Go.OpenSpec := { _root_.Go.OpenSpec.ofChange s with cond := some uptoSmall }

/-- 'ferryhythelaw2.CurveFold', WHERE WHAT IT READS IS OF BULK AT MOST 1048576: true; the input reads as it did. -/
def curveFoldUptoRow : OpenClaim := { program := "ytikdpjedlbkkjaa", sum := "9e5cb4668ec31c4f7bf1ec1682577b513d45b0e256a10d9f9526949a859a86e3", func := "ferryhythe/ferryhythelaw2.CurveFold", spec := "curveFold", unfollowed := true, recurses := true, apart := false, narrowed := true }
def CurveFoldUptoSaid : Prop := curveFoldUptoRow.holds Try.pinned (OpenSpec.upto curveFoldSpec)

/-- 'ferryhythelaw2.CurveMore', WHERE WHAT IT READS IS OF BULK AT MOST 1048576: true; the input reads as it did. -/
def curveMoreUptoRow : OpenClaim := { program := "ytikdpjedlbkkjaa", sum := "9e5cb4668ec31c4f7bf1ec1682577b513d45b0e256a10d9f9526949a859a86e3", func := "ferryhythe/ferryhythelaw2.CurveMore", spec := "curveMore", unfollowed := true, recurses := true, apart := false, narrowed := true }
def CurveMoreUptoSaid : Prop := curveMoreUptoRow.holds Try.pinned (OpenSpec.upto curveMoreSpec)

/-- 'ferryhythelaw2.CurveServed', WHERE WHAT IT READS IS OF BULK AT MOST 1048576: true; the input reads as it did. -/
def curveServedUptoRow : OpenClaim := { program := "ytikdpjedlbkkjaa", sum := "9e5cb4668ec31c4f7bf1ec1682577b513d45b0e256a10d9f9526949a859a86e3", func := "ferryhythe/ferryhythelaw2.CurveServed", spec := "curveServed", unfollowed := true, recurses := true, apart := false, narrowed := true }
def CurveServedUptoSaid : Prop := curveServedUptoRow.holds Try.pinned (OpenSpec.upto curveServedSpec)

/-- 'ferryhythelaw2.CurveDelay', WHERE WHAT IT READS IS OF BULK AT MOST 1048576: true; the input reads as it did. -/
def curveDelayUptoRow : OpenClaim := { program := "ytikdpjedlbkkjaa", sum := "9e5cb4668ec31c4f7bf1ec1682577b513d45b0e256a10d9f9526949a859a86e3", func := "ferryhythe/ferryhythelaw2.CurveDelay", spec := "curveDelay", unfollowed := true, recurses := true, apart := false, narrowed := true }
def CurveDelayUptoSaid : Prop := curveDelayUptoRow.holds Try.pinned (OpenSpec.upto curveDelaySpec)

/-- 'ferryhythetop.TopShapes', WHERE WHAT IT READS IS OF BULK AT MOST 1048576: true; the input reads as it did. -/
def topShapesUptoRow : OpenClaim := { program := "ytikdpjedlbkkjaa", sum := "9e5cb4668ec31c4f7bf1ec1682577b513d45b0e256a10d9f9526949a859a86e3", func := "ferryhythe/ferryhythetop.TopShapes", spec := "topShapes", apart := false, narrowed := true }
def TopShapesUptoSaid : Prop := topShapesUptoRow.holds Try.pinned (OpenSpec.upto topShapesSpec)

end Rows
end Go.Proofs.Ytikdpjedlbkkjaa
