/- AbpExact returns true for every input: the walk. -/
import Derived.Test.YtnkcjkemhdigpaaAbpF
namespace Go.Proofs.Ytnkcjkemhdigpaa.abpExact
open Go.RowKit
set_option linter.unusedSimpArgs false
set_option linter.unusedVariables false

set_option maxHeartbeats 4000000 in
set_option maxRecDepth 100000 in
theorem walk (a : Option Addr) (len cap : Nat) (zs : List Int) (af : Option Addr) (lf cf : Nat) (fs : List (Bool × Bool)) (w : World) (hI : Ints w w.heap.size a len zs) (hcap : len ≤ cap) (hF : Pairs w w.heap.size af lf fs) :
    Calls Try.prog 3 #[.slice a len cap, .slice af lf cf] w fun e w' => e = .returned (.bool true) ∧ Below w.heap.size w w' := by
  have hroom := hI.room
  have hlz := Lib.hid hI.size
  have HI := Lib.hid hI; clear hI
  have HF := Lib.hid hF; clear hF
  go_enter Try.func3, Try.ntmps3
  go_wp2_with fail
  refine (afact_any _).mono ?_
  rintro e w1 ⟨rfl, hb1⟩
  have B1 := Lib.hid hb1; clear hb1
  have I1 := Lib.hid (HI.out.later B1.out)
  have F1 := Lib.hid ((HF.out.below B1.out).mono B1.out.size)
  by_cases he : sentE zs lf = 0
  · have hinv := abp_inv zs fs
    have C := Lib.hid (fun w' h1 h2 => arun_yes a len cap af lf cf zs fs w' h1 h2 he)
    clear he
    generalize abpRun zs fs = p at *
    obtain ⟨got, known⟩ := p
    obtain ⟨q1, q2, q3⟩ := hinv
    simp only at q1 q2 q3
    have Q1 := Lib.hid q1; clear q1
    rw [hlz.out] at q2
    have Q3 := Lib.hid q3; clear q3
    go_wp2_with fail
    refine (C.out _ I1.out F1.out).mono ?_
    clear C
    rintro e w2 ⟨ga, gc, rfl, hgi, hB⟩
    have G := Lib.hid hgi; clear hgi
    have BB := Lib.hid hB
    have B2 : Hid (Below w.heap.size w w2) := B1.out.trans (hB.mono B1.out.size)
    clear hB
    generalize hn : got.length = n at *
    clear hn
    go_wp2_with fail
    have G2 : Hid (Ints w2 w2.heap.size ga n (zs.take n)) := by have := G.out; rw [Q1.out] at this; exact this
    refine (same_yes _ _ n _ _ (zs.take n) _ _ _ G2.out ((I1.out.below BB.out).take q2)).mono ?_
    rintro e w3 ⟨rfl, m, rfl⟩
    rcases Q3.out with h | h
    · subst h
      go_wp2
      go_ret
      exact ⟨by simp, below_drewN B2.out _⟩
    · subst h
      go_wp2
      go_ret
      exact ⟨by simp, below_drewN B2.out _⟩
  · have C := Lib.hid (fun w' h => arun_no a len cap af lf cf zs w1.heap.size w' h he)
    clear he
    generalize sentE zs lf = n at *
    go_wp2_with fail
    refine (C.out _ I1.out).mono ?_
    rintro e w2 ⟨rfl, rfl⟩
    go_wp2
    go_ret
    exact ⟨rfl, B1.out⟩
end Go.Proofs.Ytnkcjkemhdigpaa.abpExact
