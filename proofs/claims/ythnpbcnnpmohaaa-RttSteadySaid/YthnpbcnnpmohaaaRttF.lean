/- The closed fact on timers, and the bounds test of the statements. -/
import Derived.Test.YthnpbcnnpmohaaaRtt
namespace Go.Proofs.Ythnpbcnnpmohaaa
open Go.RowKit
set_option linter.unusedSimpArgs false
set_option linter.unusedVariables false

theorem in_in (n lo hi : Int) (w : World) (h1 : lo ≤ n) (h2 : n ≤ hi) : Calls Try.prog 15 #[.int .i64 n, .int .i64 lo, .int .i64 hi] w fun e w' => e = .returned (.bool true) ∧ w = w' := by
  go_enter Try.func15, Try.ntmps15
  go_wp2
  go_ret
  exact ⟨by simp [h1, h2], rfl⟩
theorem in_out (n lo hi : Int) (w : World) (h : n < lo ∨ hi < n) : Calls Try.prog 15 #[.int .i64 n, .int .i64 lo, .int .i64 hi] w fun e w' => e = .returned (.bool false) ∧ w = w' := by
  by_cases h1 : lo ≤ n
  · have h2 : hi < n := by omega
    clear h
    go_enter Try.func15, Try.ntmps15
    go_wp2
    go_ret
    exact ⟨by simp; omega, rfl⟩
  · clear h
    go_enter Try.func15, Try.ntmps15
    go_wp2
    go_ret
    exact ⟨by simp; try omega, rfl⟩

theorem fact_any (w : World) : Calls Try.prog 12 #[] w fun e w' => e = .returned (.bool true) ∧ Below w.heap.size w w' := by
  go_enter Try.func12, Try.ntmps12
  go_wp2_with fail
  refine (new_yes _ _ (by omega) (by omega)).mono ?_
  rintro e w1 ⟨rfl, ho, hg⟩
  have H := Lib.hid ho; clear ho
  have G := Lib.hid hg; clear hg
  go_wp2_with fail
  refine (take_first _ _ _ _ _ _ H.out (by omega) (by omega) (by omega)).mono ?_
  rintro e w2 ⟨rfl, ho, hg⟩
  have H2 := Lib.hid ho; clear ho
  have G2 := Lib.hid hg; clear hg
  go_wp2_with fail
  refine (guess_any _ _ _ _ _ H2.out).mono ?_
  rintro e w3 ⟨rfl, hw⟩
  obtain ⟨nd, rfl⟩ := hw
  go_wp2_with fail
  refine (wait_any _ _ _ _ _ (Tim.drewN H2.out _)).mono ?_
  rintro e w4 ⟨rfl, rfl⟩
  go_wp2_with fail
  go_ret
  exact ⟨by simp; omega, (below_new G.out).trans (below_grown (grown_drewN G2.out _) (Nat.le_refl _) H.out.lt)⟩

end Go.Proofs.Ythnpbcnnpmohaaa
