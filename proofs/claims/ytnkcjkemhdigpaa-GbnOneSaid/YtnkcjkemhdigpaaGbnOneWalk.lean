/- GbnOne returns true for every input: the walk. -/
import Derived.Test.YtnkcjkemhdigpaaGbnF
import Derived.Test.YtnkcjkemhdigpaaGbnPlain2
namespace Go.Proofs.Ytnkcjkemhdigpaa.gbnOne
open Go.RowKit
set_option linter.unusedSimpArgs false
set_option linter.unusedVariables false

set_option maxHeartbeats 8000000 in
set_option maxRecDepth 100000 in
theorem walk (a : Option Addr) (len cap : Nat) (zs : List Int) (af : Option Addr) (lf cf : Nat) (fs : List (Bool × Bool)) (w : World) (hI : Ints w w.heap.size a len zs) (hF : Pairs w w.heap.size af lf fs) :
    Calls Try.prog 7 #[.slice a len cap, .slice af lf cf] w fun e w' => e = .returned (.bool true) ∧ Below w.heap.size w w' := by
  have hroom := hI.room
  have hlz := Lib.hid hI.size
  have HI := Lib.hid hI; clear hI
  have HF := Lib.hid hF; clear hF
  go_enter Try.func7, Try.ntmps7
  go_wp2_with fail
  refine (gfact_any _).mono ?_
  rintro e w1 ⟨rfl, hb1⟩
  have B1 := Lib.hid hb1; clear hb1
  have I1 := Lib.hid (HI.out.later B1.out)
  have F1 := Lib.hid ((HF.out.below B1.out).mono B1.out.size)
  by_cases he : sentE zs lf = 0
  · have hl : zs.length ≤ 20 ∧ lf ≤ 200 := by
      rcases sent_cases zs lf with ⟨h', e⟩ | ⟨h3, h4, _, e⟩ | ⟨h3, h4, _, e⟩ <;> omega
    obtain ⟨o1, o2⟩ := hl
    have hl20 : len ≤ 20 := by rw [← hlz.out]; exact o1
    have C := Lib.hid (fun w' h1 h2 => grun_yes a len cap 1 2 af lf cf zs fs w' h1 h2 (ahead_mk he (by decide) (by decide) (by decide) (by decide)) (by decide) (by decide) (by decide) (by decide) hl20 o2)
    have D := Lib.hid (fun w' h1 h2 => arun_yes a len cap af lf cf zs fs w' h1 h2 he)
    have hone := one_run zs fs
    rw [hone.1, hone.2] at C
    clear hone he
    generalize abpRun zs fs = p at *
    obtain ⟨got, known⟩ := p
    simp only at C D
    go_wp2_with fail
    refine (C.out _ I1.out F1.out).mono ?_
    clear C
    rintro e w2 ⟨ga, gc, rfl, hgi, hB⟩
    have G := Lib.hid hgi; clear hgi
    have BB := Lib.hid hB
    have B2 : Hid (Below w.heap.size w w2) := B1.out.trans (hB.mono B1.out.size)
    clear hB
    have I2 := Lib.hid (I1.out.later BB.out)
    have F2 := Lib.hid ((F1.out.below BB.out).mono BB.out.size)
    go_wp2_with fail
    refine (D.out _ I2.out F2.out).mono ?_
    clear D
    rintro e w3 ⟨gb, gd, rfl, hgi, hB⟩
    have G3 := Lib.hid hgi; clear hgi
    have G2 := Lib.hid (G.out.later hB)
    have B3 : Hid (Below w.heap.size w w3) := B2.out.trans (hB.mono B2.out.size)
    clear hB
    generalize got.length = n at *
    go_wp2_with fail
    go_quiet ((go_at_call 13; exact Calls.quiet_of (same_yes _ _ n _ _ got _ _ _ (G2.out.later (below_drewN (Below.refl _ _) _)) (G3.out.later (below_drewN (Below.refl _ _) _)))))
    go_wp2
    go_ret
    exact ⟨by simp, below_drewN B3.out _⟩
  · have he2 : aheadE zs lf 1 2 = sentE zs lf := by unfold aheadE; rw [if_pos he]
    have C := Lib.hid (fun w' h => grun_no a len cap 1 2 af lf cf zs w1.heap.size w' h (by rw [he2]; exact he))
    have D := Lib.hid (fun w' h => arun_no a len cap af lf cf zs w1.heap.size w' h he)
    clear he he2
    generalize aheadE zs lf 1 2 = n at *
    generalize sentE zs lf = n2 at *
    go_wp2_with fail
    refine (C.out _ I1.out).mono ?_
    rintro e w2 ⟨rfl, rfl⟩
    go_wp2_with fail
    refine (D.out _ I1.out).mono ?_
    rintro e w2 ⟨rfl, rfl⟩
    go_wp2_with fail
    go_quiet ((go_at_call 13; exact Calls.quiet_of (same_yes _ _ 0 _ _ [] _ _ _ (ints_nil _ 0) (ints_nil _ 0))))
    go_wp2
    go_ret
    exact ⟨by simp, below_drewN B1.out _⟩
end Go.Proofs.Ytnkcjkemhdigpaa.gbnOne
