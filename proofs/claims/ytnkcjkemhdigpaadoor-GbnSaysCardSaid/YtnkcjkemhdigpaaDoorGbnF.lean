/- The closed fact on going back. -/
import Derived.Test.YtnkcjkemhdigpaaDoorGbnRun
import Derived.Test.YtnkcjkemhdigpaaDoorAbpF
namespace Go.Proofs.YtnkcjkemhdigpaaDoor
open Go.RowKit
set_option linter.unusedSimpArgs false
set_option linter.unusedVariables false

theorem ahead_ok {zs : List Int} {lf : Nat} {win rnd : Int} (h : aheadE zs lf win rnd = 0) : sentE zs lf = 0 ∧ zs.length ≤ 20 ∧ lf ≤ 200 ∧ 1 ≤ win ∧ win ≤ 8 ∧ 2 ≤ rnd ∧ rnd ≤ 16 := by
  unfold aheadE at h
  by_cases h1 : sentE zs lf = 0
  · rw [if_neg (by simpa using h1)] at h
    by_cases h2 : (1 ≤ win ∧ win ≤ 8) ∧ (2 ≤ rnd ∧ rnd ≤ 16)
    · refine ⟨h1, ?_⟩
      rcases sent_cases zs lf with ⟨h', e⟩ | ⟨h3, h4, _, e⟩ | ⟨h3, h4, _, e⟩ <;> omega
    · rw [if_neg h2] at h; omega
  · rw [if_pos h1] at h; exact absurd h h1
theorem ahead_mk {zs : List Int} {lf : Nat} {win rnd : Int} (h : sentE zs lf = 0) (h1 : 1 ≤ win) (h2 : win ≤ 8) (h3 : 2 ≤ rnd) (h4 : rnd ≤ 16) : aheadE zs lf win rnd = 0 := by
  unfold aheadE; rw [if_neg (by simpa using h), if_pos ⟨⟨h1, h2⟩, h3, h4⟩]

end Go.Proofs.YtnkcjkemhdigpaaDoor
