/- The contract of gbn.Check. -/
import Derived.Test.YtnkcjkemhdigpaaAbpRun
import Derived.Test.YtnkcjkemhdigpaaGbnPlain
namespace Go.Proofs.Ytnkcjkemhdigpaa
open Go.RowKit
set_option linter.unusedSimpArgs false
set_option linter.unusedVariables false

/-- What Check gives. -/
noncomputable def aheadE (zs : List Int) (lf : Nat) (win rnd : Int) : Int := if sentE zs lf ≠ 0 then sentE zs lf else if (1 ≤ win ∧ win ≤ 8) ∧ (2 ≤ rnd ∧ rnd ≤ 16) then 0 else 1

theorem gcheck_any (a : Option Addr) (len cap : Nat) (win rnd : Int) (af : Option Addr) (lf cf : Nat) (zs : List Int) (B : Nat) (w : World) (hI : Ints w B a len zs) :
    Calls Try.prog 21 #[.slice a len cap, .int .i64 win, .int .i64 rnd, .slice af lf cf] w fun e w' => e = .returned (errOf (aheadE zs lf win rnd)) ∧ w = w' := by
  have C := Lib.hid (fun w' h => acheck_any a len cap af lf cf zs B w' h)
  have HI := Lib.hid hI; clear hI
  unfold aheadE
  by_cases he : sentE zs lf = 0
  · rw [if_neg (by simpa using he)]
    rw [he] at C
    have hv : errOf 0 = .nilIface := rfl
    rw [hv] at C
    clear hv he
    by_cases hw : 1 ≤ win ∧ win ≤ 8
    · by_cases hr : 2 ≤ rnd ∧ rnd ≤ 16
      · rw [if_pos ⟨hw, hr⟩]
        obtain ⟨w1, w2⟩ := hw
        obtain ⟨r1, r2⟩ := hr
        go_enter Try.func21, Try.ntmps21
        go_wp2_with fail
        refine (C.out _ HI.out).mono ?_
        rintro e w' ⟨rfl, rfl⟩
        go_wp2_with fail
        refine (within_in _ _ _ _ w1 w2).mono ?_
        rintro e w' ⟨rfl, rfl⟩
        go_wp2_with fail
        refine (within_in _ _ _ _ r1 r2).mono ?_
        rintro e w' ⟨rfl, rfl⟩
        go_wp2
        go_ret
        exact ⟨rfl, rfl⟩
      · rw [if_neg (by omega)]
        obtain ⟨w1, w2⟩ := hw
        have HV := Lib.hid (show rnd < 2 ∨ 16 < rnd by omega)
        clear hr
        go_enter Try.func21, Try.ntmps21
        go_wp2_with fail
        refine (C.out _ HI.out).mono ?_
        rintro e w' ⟨rfl, rfl⟩
        go_wp2_with fail
        refine (within_in _ _ _ _ w1 w2).mono ?_
        rintro e w' ⟨rfl, rfl⟩
        go_wp2_with fail
        refine (within_out _ _ _ _ HV.out).mono ?_
        rintro e w' ⟨rfl, rfl⟩
        go_wp2
        go_ret
        exact ⟨rfl, rfl⟩
    · rw [if_neg (by omega)]
      have HV := Lib.hid (show win < 1 ∨ 8 < win by omega)
      clear hw
      go_enter Try.func21, Try.ntmps21
      go_wp2_with fail
      refine (C.out _ HI.out).mono ?_
      rintro e w' ⟨rfl, rfl⟩
      go_wp2_with fail
      refine (within_out _ _ _ _ HV.out).mono ?_
      rintro e w' ⟨rfl, rfl⟩
      go_wp2
      go_ret
      exact ⟨rfl, rfl⟩
  · rw [if_pos he]
    have hv : errOf (sentE zs lf) = errV (sentE zs lf) := by unfold errOf; rw [if_neg he]
    rw [hv] at C ⊢
    clear hv he
    generalize sentE zs lf = n at *
    go_enter Try.func21, Try.ntmps21
    go_wp2_with fail
    refine (C.out _ HI.out).mono ?_
    rintro e w' ⟨rfl, rfl⟩
    go_wp2
    go_ret
    exact ⟨rfl, rfl⟩

theorem grun_no (a : Option Addr) (len cap : Nat) (win rnd : Int) (af : Option Addr) (lf cf : Nat) (zs : List Int) (B : Nat) (w : World) (hI : Ints w B a len zs) (he : aheadE zs lf win rnd ≠ 0) :
    Calls Try.prog 15 #[.slice a len cap, .int .i64 win, .int .i64 rnd, .slice af lf cf] w fun e w' => e = .returned (.tuple #[.slice none 0 0, .int .i64 0, errV (aheadE zs lf win rnd)]) ∧ w = w' := by
  have C := Lib.hid (fun w' h => gcheck_any a len cap win rnd af lf cf zs B w' h)
  have HI := Lib.hid hI; clear hI
  have hv : errOf (aheadE zs lf win rnd) = errV (aheadE zs lf win rnd) := by unfold errOf; rw [if_neg he]
  rw [hv] at C
  clear hv he
  generalize aheadE zs lf win rnd = n at *
  go_enter Try.func15, Try.ntmps15
  go_wp2_with fail
  refine (C.out _ HI.out).mono ?_
  rintro e w' ⟨rfl, rfl⟩
  go_wp2
  go_ret3
  exact ⟨rfl, rfl⟩
end Go.Proofs.Ytnkcjkemhdigpaa
