/- The reference's most. -/
import Derived.Test.YtikdpjedlbkkjaaDoorCore
namespace Go.Proofs.YtikdpjedlbkkjaaDoor
open Go.RowKit

theorem most_any (x y : Int) (w : World) : Calls Tryd.prog 22 #[.int .i64 x, .int .i64 y] w fun e w' => e = .returned (.int .i64 (max x y)) ∧ w = w' := by
  by_cases h : y < x
  all_goals
    go_enter Tryd.func22, Tryd.ntmps22
    go_wp2
    go_ret
    exact ⟨ret_int (by omega), rfl⟩
end Go.Proofs.YtikdpjedlbkkjaaDoor
