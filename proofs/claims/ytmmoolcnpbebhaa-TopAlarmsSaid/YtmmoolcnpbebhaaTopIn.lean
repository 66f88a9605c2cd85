/- The top statements' in. -/
import Derived.Test.YtmmoolcnpbebhaaCore
namespace Go.Proofs.Ytmmoolcnpbebhaa
open Go.RowKit
set_option linter.unusedSimpArgs false

theorem tin_in (n lo hi : Int) (w : World) (h1 : lo ≤ n) (h2 : n ≤ hi) : Calls Try.prog 15 #[.int .i64 n, .int .i64 lo, .int .i64 hi] w fun e w' => e = .returned (.bool true) ∧ w = w' := by
  go_enter Try.func15, Try.ntmps15
  go_wp2
  go_ret
  exact ⟨by simp [h1, h2], rfl⟩
theorem tin_out (n lo hi : Int) (w : World) (h : n < lo ∨ hi < n) : Calls Try.prog 15 #[.int .i64 n, .int .i64 lo, .int .i64 hi] w fun e w' => e = .returned (.bool false) ∧ w = w' := by
  by_cases h1 : lo ≤ n
  · have h2 : hi < n := by omega
    clear h
    go_enter Try.func15, Try.ntmps15
    go_wp2
    go_ret
    exact ⟨by simp; omega, rfl⟩
  · clear h
    go_enter Try.func15, Try.ntmps15
    go_wp2
    go_ret
    exact ⟨by simp; try omega, rfl⟩
end Go.Proofs.Ytmmoolcnpbebhaa
