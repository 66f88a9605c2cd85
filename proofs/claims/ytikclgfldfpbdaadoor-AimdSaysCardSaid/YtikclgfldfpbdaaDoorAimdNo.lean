/- aimd.Run where it refuses. -/
import Derived.Test.YtikclgfldfpbdaaDoorAimdRun
namespace Go.Proofs.YtikclgfldfpbdaaDoor
open Go.RowKit
set_option linter.unusedSimpArgs false
set_option linter.unusedVariables false

theorem airun_no (a : Option Addr) (len cap : Nat) (room steps : Int) (zs : List Int) (B : Nat) (w : World) (hI : Ints w B a len zs) (he : aiE zs room ≠ 0) :
    Calls Tryd.prog 16 #[.slice a len cap, .int .i64 room, .int .i64 steps] w fun e w' => e = .returned (.tuple #[.slice none 0 0, .int .i64 0, errV (aiE zs room)]) ∧ w = w' := by
  have C := Lib.hid (aicheck_any a len cap room zs B w hI)
  have e1 : aiErr (aiE zs room) = errV (aiE zs room) := if_neg he
  rw [e1] at C
  clear he e1 hI
  generalize aiE zs room = n at *
  go_enter Tryd.func16, Tryd.ntmps16
  go_wp2_with fail
  refine C.out.mono ?_
  rintro e w' ⟨rfl, rfl⟩
  go_wp2
  go_ret3
  exact ⟨rfl, rfl⟩
theorem airun_long (a : Option Addr) (len cap : Nat) (room steps : Int) (zs : List Int) (B : Nat) (w : World) (hI : Ints w B a len zs) (he : aiE zs room = 0) (hs : steps < 0 ∨ 1000 < steps) :
    Calls Tryd.prog 16 #[.slice a len cap, .int .i64 room, .int .i64 steps] w fun e w' => e = .returned (.tuple #[.slice none 0 0, .int .i64 0, errV 1]) ∧ w = w' := by
  have C := Lib.hid (aicheck_any a len cap room zs B w hI)
  rw [he] at C
  have HS := Lib.hid hs
  clear he hI hs
  go_enter Tryd.func16, Tryd.ntmps16
  go_wp2_with fail
  refine C.out.mono ?_
  rintro e w' ⟨he, rfl⟩
  have he2 : e = .returned .nilIface := he
  subst he2
  go_wp2_with fail
  refine (within_out _ _ _ _ HS.out).mono ?_
  rintro e w' ⟨rfl, rfl⟩
  go_wp2
  go_ret3
  exact ⟨rfl, rfl⟩
end Go.Proofs.YtikclgfldfpbdaaDoor
