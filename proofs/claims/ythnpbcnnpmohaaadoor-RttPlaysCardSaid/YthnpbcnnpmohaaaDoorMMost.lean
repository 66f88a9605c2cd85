/- The reference's most. -/
import Derived.Test.YthnpbcnnpmohaaaDoorCore
namespace Go.Proofs.YthnpbcnnpmohaaaDoor
open Go.RowKit

theorem most_any (x y : Int) (w : World) : Calls Tryd.prog 20 #[.int .i64 x, .int .i64 y] w fun e w' => e = .returned (.int .i64 (max x y)) ∧ w = w' := by
  by_cases h : y < x
  all_goals
    go_enter Tryd.func20, Tryd.ntmps20
    go_wp2
    go_ret
    exact ⟨ret_int (by omega), rfl⟩
end Go.Proofs.YthnpbcnnpmohaaaDoor
