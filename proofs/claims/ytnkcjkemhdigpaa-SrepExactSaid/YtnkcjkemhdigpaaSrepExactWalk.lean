/- SrepExact returns true for every input: the walk. -/
import Derived.Test.YtnkcjkemhdigpaaSrepF
namespace Go.Proofs.Ytnkcjkemhdigpaa.srepExact
open Go.RowKit
set_option linter.unusedSimpArgs false
set_option linter.unusedVariables false

set_option maxHeartbeats 8000000 in
set_option maxRecDepth 100000 in
theorem walk (a : Option Addr) (len cap : Nat) (zs : List Int) (win rnd : Int) (af : Option Addr) (lf cf : Nat) (fs : List (Bool × Bool)) (w : World) (hI : Ints w w.heap.size a len zs) (hcap : len ≤ cap) (hw : -9223372036854775808 ≤ win ∧ win ≤ 9223372036854775807) (hr : -9223372036854775808 ≤ rnd ∧ rnd ≤ 9223372036854775807) (hF : Pairs w w.heap.size af lf fs) :
    Calls Try.prog 8 #[.slice a len cap, .int .i64 win, .int .i64 rnd, .slice af lf cf] w fun e w' => e = .returned (.bool true) ∧ Below w.heap.size w w' := by
  have hroom := hI.room
  have hlz := Lib.hid hI.size
  have HI := Lib.hid hI; clear hI
  have HF := Lib.hid hF; clear hF
  go_enter Try.func8, Try.ntmps8
  go_wp2_with fail
  refine (sfact_any _).mono ?_
  rintro e w1 ⟨rfl, hb1⟩
  have B1 := Lib.hid hb1; clear hb1
  have I1 := Lib.hid (HI.out.later B1.out)
  have F1 := Lib.hid ((HF.out.below B1.out).mono B1.out.size)
  by_cases he : aheadE zs lf win rnd = 0
  · obtain ⟨_, o1, o2, o3, o4, o5, o6⟩ := ahead_ok he
    obtain ⟨W, rfl⟩ := Int.eq_ofNat_of_zero_le (show 0 ≤ win by omega)
    obtain ⟨R, rfl⟩ := Int.eq_ofNat_of_zero_le (show 0 ≤ rnd by omega)
    have hl20 : len ≤ 20 := by rw [← hlz.out]; exact o1
    have C := Lib.hid (fun w' h1 h2 => srun_yes a len cap W R af lf cf zs fs w' h1 h2 he (by omega) (by omega) (by omega) (by omega) hl20 o2)
    have hkn : (Sr.run zs W R fs).known ≤ len := by have := (Sr.run_ok zs W R fs).kn; rw [hlz.out] at this; exact this
    have HX : Hid (2 * W ≤ R → (Sr.run zs W R fs).got = zs.take (Sr.run zs W R fs).got.length ∧ (Sr.run zs W R fs).got.length ≤ zs.length ∧ (Sr.run zs W R fs).known ≤ (Sr.run zs W R fs).got.length) := fun h => Sr.exact_law zs (by omega) h fs
    clear he
    generalize Sr.run zs W R fs = s at *
    go_wp2_with fail
    refine (C.out _ I1.out F1.out).mono ?_
    clear C
    rintro e w2 ⟨ga, gc, rfl, hgi, hB⟩
    have G := Lib.hid hgi; clear hgi
    have BB := Lib.hid hB
    have B2 : Hid (Below w.heap.size w w2) := B1.out.trans (hB.mono B1.out.size)
    clear hB
    by_cases hwr : 2 * W ≤ R
    · obtain ⟨q1, q2, q4⟩ := HX.out hwr
      rw [hlz.out] at q2
      generalize hn : s.got.length = n at *
      have G2 : Hid (Ints w2 w2.heap.size ga n (zs.take n)) := by have := G.out; rw [q1] at this; exact this
      clear q1 hn HX
      generalize s.known = kn at *
      go_wp2_with fail
      refine (same_yes _ _ n _ _ (zs.take n) _ _ _ G2.out ((I1.out.below BB.out).take q2)).mono ?_
      rintro e w3 ⟨rfl, m, rfl⟩
      go_wp2
      go_ret
      exact ⟨by first | (simp; done) | (simp; omega), below_drewN B2.out _⟩
    · have hwr2 : R < 2 * W := by omega
      clear hwr HX
      generalize s.got.length = n at *
      generalize s.known = kn at *
      go_wp2
      go_ret
      exact ⟨by first | (simp; done) | (simp; omega), B2.out⟩
  · have C := Lib.hid (fun w' h => srun_no a len cap win rnd af lf cf zs w1.heap.size w' h he)
    clear he
    generalize aheadE zs lf win rnd = n at *
    go_wp2_with fail
    refine (C.out _ I1.out).mono ?_
    rintro e w2 ⟨rfl, rfl⟩
    go_wp2
    go_ret
    exact ⟨rfl, B1.out⟩
end Go.Proofs.Ytnkcjkemhdigpaa.srepExact
