/- The closed fact on buckets. -/
import Derived.Test.YthnpbcnnpmohaaaBuck
namespace Go.Proofs.Ythnpbcnnpmohaaa
open Go.RowKit
set_option linter.unusedSimpArgs false
set_option linter.unusedVariables false

theorem bfact_any (w : World) : Calls Try.prog 20 #[] w fun e w' => e = .returned (.bool true) ∧ Below w.heap.size w w' := by
  go_enter Try.func20, Try.ntmps20
  go_wp2_with fail
  refine (bnew_yes _ _ _ (by omega) (by omega) (by omega) (by omega)).mono ?_
  rintro e w1 ⟨rfl, ho, hg⟩
  have H := Lib.hid ho; clear ho
  have G := Lib.hid hg; clear hg
  go_wp2_with fail
  refine (btake_yes _ _ _ _ _ _ _ _ H.out ⟨by omega, by omega, by omega, by omega, by omega, by omega, by omega, by omega⟩ (by omega) (by omega) (by omega) (by omega) (by omega) (by decide)).mono ?_
  rintro e w2 ⟨rfl, ho, hg⟩
  have H2 : Hid (Buck w2 w.heap.size 2 5 0 0) := ho
  have G2 := Lib.hid hg; clear hg ho
  go_wp2_with fail
  refine (btake_short _ _ _ _ _ _ _ _ H2.out ⟨by omega, by omega, by omega, by omega, by omega, by omega, by omega, by omega⟩ (by omega) (by omega) (by omega) (by omega) (by omega) (by decide)).mono ?_
  rintro e w3 ⟨rfl, ho, hg⟩
  have H3 : Hid (Buck w3 w.heap.size 2 5 2 1) := ho
  have G3 := Lib.hid hg; clear hg ho
  go_wp2_with fail
  refine (btake_yes _ _ _ _ _ _ _ _ H3.out ⟨by omega, by omega, by omega, by omega, by omega, by omega, by omega, by omega⟩ (by omega) (by omega) (by omega) (by omega) (by omega) (by decide)).mono ?_
  rintro e w4 ⟨rfl, ho, hg⟩
  have G4 := Lib.hid hg; clear hg ho
  go_wp2
  go_ret
  exact ⟨by simp, (((below_new G.out).trans (below_grown G2.out (Nat.le_refl _) H.out.lt)).trans (below_grown G3.out (Nat.le_refl _) H2.out.lt)).trans (below_grown G4.out (Nat.le_refl _) H3.out.lt)⟩
end Go.Proofs.Ythnpbcnnpmohaaa
