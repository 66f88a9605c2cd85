/- The reference's least. -/
import Derived.Test.YthnpbcnnpmohaaaDoorCore
namespace Go.Proofs.YthnpbcnnpmohaaaDoor
open Go.RowKit

theorem least_any (x y : Int) (w : World) : Calls Tryd.prog 19 #[.int .i64 x, .int .i64 y] w fun e w' => e = .returned (.int .i64 (min x y)) ∧ w = w' := by
  by_cases h : x < y
  all_goals
    go_enter Tryd.func19, Tryd.ntmps19
    go_wp2
    go_ret
    exact ⟨ret_int (by omega), rfl⟩
end Go.Proofs.YthnpbcnnpmohaaaDoor
