/- GbnSays returns true for every input: the walk. -/
import Derived.Test.YtnkcjkemhdigpaaDoorGbnRef
import Derived.Test.YtnkcjkemhdigpaaDoorGbnF
import Derived.Test.YtnkcjkemhdigpaaDoorTold
namespace Go.Proofs.YtnkcjkemhdigpaaDoor.gbnSays
open Go.RowKit
set_option linter.unusedSimpArgs false
set_option linter.unusedVariables false

set_option maxHeartbeats 8000000 in
set_option maxRecDepth 100000 in
theorem walk (a : Option Addr) (len cap : Nat) (zs : List Int) (win rnd : Int) (af : Option Addr) (lf cf : Nat) (fs : List (Bool × Bool)) (w : World) (hI : Ints w w.heap.size a len zs) (hw : -9223372036854775808 ≤ win ∧ win ≤ 9223372036854775807) (hr : -9223372036854775808 ≤ rnd ∧ rnd ≤ 9223372036854775807) (hF : Pairs w w.heap.size af lf fs) (hd : Hd w) :
    Calls Tryd.prog 4 #[.slice a len cap, .int .i64 win, .int .i64 rnd, .slice af lf cf] w fun e w' => e = .returned (.bool true) ∧ Below w.heap.size w w' := by
  have HI := Lib.hid hI; clear hI
  have HF := Lib.hid hF; clear hF
  have HD := Lib.hid hd; clear hd
  have eerr : ∀ n, errOf n = errOr n := fun _ => rfl
  have S := Lib.hid (fun w' h => mahead_any a len cap win rnd af lf cf zs w.heap.size w' h)
  have K := Lib.hid (fun w' h => gcheck_any a len cap win rnd af lf cf zs w.heap.size w' h)
  by_cases he : aheadE zs lf win rnd = 0
  · rw [eerr] at K
    obtain ⟨a1, a2, a3, a4, a5, a6, a7⟩ := ahead_ok he
    have hlz := HI.out.size
    obtain ⟨W, rfl⟩ : ∃ W : Nat, win = (W : Int) := ⟨win.toNat, by omega⟩
    obtain ⟨R, rfl⟩ : ∃ R : Nat, rnd = (R : Int) := ⟨rnd.toNat, by omega⟩
    have b1 : 1 ≤ W ∧ W ≤ 8 ∧ 2 ≤ R ∧ R ≤ 16 ∧ len ≤ 20 ∧ lf ≤ 200 := by omega
    have HBD := Lib.hid b1
    clear a1 a2 a3 a4 a5 a6 a7 b1 hlz hw hr
    rw [he] at S K
    have HE := Lib.hid he; clear he
    have E := Lib.hid (err_same 0 w HD.out)
    have e0 : errOr 0 = .nilIface := rfl
    rw [e0] at E K
    clear e0 eerr
    go_enter Tryd.func4, Tryd.ntmps4
    go_wp2_with fail
    refine (S.out _ HI.out).mono ?_
    rintro e w' ⟨rfl, rfl⟩
    go_wp2_with fail
    refine (K.out _ HI.out).mono ?_
    rintro e w' ⟨rfl, rfl⟩
    go_wp2_with fail
    refine E.out.mono ?_
    clear E S K
    rintro e w1 ⟨rfl, hB⟩
    have B1 := Lib.hid hB; clear hB
    have I1 := Lib.hid (HI.out.later B1.out)
    have F1 := Lib.hid ((HF.out.below B1.out).mono B1.out.size)
    have RM := Lib.hid (mgbn_any a len cap W R af lf cf zs fs w1 I1.out F1.out HE.out HBD.out.1 HBD.out.2.1 HBD.out.2.2.1 HBD.out.2.2.2.1 HBD.out.2.2.2.2.1 HBD.out.2.2.2.2.2)
    have P := Lib.hid (fun w' h h' => grun_yes a len cap W R af lf cf zs fs w' h h' HE.out HBD.out.1 HBD.out.2.1 HBD.out.2.2.1 HBD.out.2.2.2.1 HBD.out.2.2.2.2.1 HBD.out.2.2.2.2.2)
    have Q := Lib.hid (show True = True from rfl)
    generalize (gbnRun zs W R fs).got = got at *
    generalize (gbnRun zs W R fs).known = known at *
    go_wp2_with fail
    refine RM.out.mono ?_
    clear RM
    rintro e w2 ⟨g, c, rfl, hint, hB⟩
    have G := Lib.hid hint; clear hint
    have B2 : Hid (Below w.heap.size w w2) := B1.out.trans (hB.mono B1.out.size)
    have I2 := Lib.hid (I1.out.later hB)
    have F2 := Lib.hid ((F1.out.below hB).mono hB.size)
    clear hB
    go_wp2_with fail
    refine (P.out w2 I2.out F2.out).mono ?_
    clear P
    rintro e w3 ⟨g2, c2, rfl, hint, hB⟩
    have M3 := Lib.hid hint; clear hint
    have B3 : Hid (Below w.heap.size w w3) := B2.out.trans (hB.mono B2.out.size)
    have G3 := Lib.hid (G.out.later hB)
    clear hB G
    have E := Lib.hid (err_same 0 w3 (HD.out.later B3.out))
    have e0 : errOr 0 = .nilIface := rfl
    rw [e0] at E
    clear e0
    go_wp2_with fail
    refine E.out.mono ?_
    clear E
    rintro e w4 ⟨rfl, hB⟩
    have B4 : Hid (Below w.heap.size w w4) := B3.out.trans (hB.mono B3.out.size)
    have G4 := Lib.hid (G3.out.later hB)
    have M4 := Lib.hid (M3.out.later hB)
    clear hB G3 M3
    go_wp2_with fail
    refine (same_yes _ _ got.length _ _ got _ _ w4 M4.out G4.out).mono ?_
    rintro e w5 ⟨rfl, m, rfl⟩
    have B5 : Hid (Below w.heap.size w (w4.drewN m)) := below_drewN B4.out m
    go_wp2
    go_ret
    exact ⟨by simp, B5.out⟩
  · have N := Lib.hid (fun w' h => grun_no a len cap win rnd af lf cf zs w.heap.size w' h he)
    have E := Lib.hid (fun w' h => err_same (aheadE zs lf win rnd) w' h)
    have en : errOr (aheadE zs lf win rnd) = errV (aheadE zs lf win rnd) := by unfold errOr; rw [if_neg he]
    have en2 : errOf (aheadE zs lf win rnd) = errV (aheadE zs lf win rnd) := by unfold errOf; rw [if_neg he]
    rw [en2] at K
    rw [en] at E
    have h0 : ((aheadE zs lf win rnd) == 0) = false := by simpa using he
    clear he en en2 eerr
    generalize aheadE zs lf win rnd = n at *
    go_enter Tryd.func4, Tryd.ntmps4
    go_wp2_with fail
    refine (S.out _ HI.out).mono ?_
    rintro e w' ⟨rfl, rfl⟩
    go_wp2_with fail
    refine (K.out _ HI.out).mono ?_
    rintro e w' ⟨rfl, rfl⟩
    go_wp2_with fail
    refine (E.out _ HD.out).mono ?_
    rintro e w1 ⟨rfl, hB⟩
    have B1 := Lib.hid hB; clear hB
    go_wp2_with fail
    refine (N.out _ (HI.out.below B1.out)).mono ?_
    rintro e w' ⟨rfl, rfl⟩
    go_wp2_with fail
    refine (E.out _ (HD.out.later B1.out)).mono ?_
    rintro e w2 ⟨rfl, hB⟩
    have B2 : Hid (Below w.heap.size w w2) := B1.out.trans (hB.mono B1.out.size)
    clear hB
    go_wp2_with fail
    refine (same_yes _ _ 0 _ _ [] _ _ _ (ints_nil _ 0) (ints_nil _ 0)).mono ?_
    rintro e w5 ⟨rfl, m, rfl⟩
    have B5 : Hid (Below w.heap.size w (w2.drewN m)) := below_drewN B2.out m
    go_wp2
    go_ret
    exact ⟨by simp, B5.out⟩
end Go.Proofs.YtnkcjkemhdigpaaDoor.gbnSays
