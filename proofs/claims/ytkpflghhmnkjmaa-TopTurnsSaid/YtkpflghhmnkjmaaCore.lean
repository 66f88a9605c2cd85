/- The bounds tests: core.Within and the statements' in. -/
import Derived.Test.YtkpflghhmnkjmaaChecked
import Derived.Test.YtkpflghhmnkjmaaBase
namespace Go.Proofs.Ytkpflghhmnkjmaa
open Go.RowKit
set_option linter.unusedSimpArgs false
set_option linter.unusedVariables false

theorem within_in (n lo hi : Int) (w : World) (h1 : lo ≤ n) (h2 : n ≤ hi) : Calls Try.prog 20 #[.int .i64 n, .int .i64 lo, .int .i64 hi] w fun e w' => e = .returned (.bool true) ∧ w = w' := by
  go_enter Try.func20, Try.ntmps20
  go_wp2
  go_ret
  exact ⟨by simp [h1, h2], rfl⟩
theorem within_out (n lo hi : Int) (w : World) (h : n < lo ∨ hi < n) : Calls Try.prog 20 #[.int .i64 n, .int .i64 lo, .int .i64 hi] w fun e w' => e = .returned (.bool false) ∧ w = w' := by
  by_cases h1 : lo ≤ n
  · have h2 : hi < n := by omega
    clear h
    go_enter Try.func20, Try.ntmps20
    go_wp2
    go_ret
    exact ⟨by simp; omega, rfl⟩
  · clear h
    go_enter Try.func20, Try.ntmps20
    go_wp2
    go_ret
    exact ⟨by simp; try omega, rfl⟩

abbrev errV (n : Int) : Value := .iface 42 (.int .i64 n)
end Go.Proofs.Ytkpflghhmnkjmaa
