/- RttLate returns true for every input: the walk. -/
import Derived.Test.YthnpbcnnpmohaaaRttF
namespace Go.Proofs.Ythnpbcnnpmohaaa.rttLate
open Go.RowKit
set_option linter.unusedSimpArgs false
set_option linter.unusedVariables false


theorem least_any (x y : Int) (w : World) : Calls Try.prog 18 #[.int .i64 x, .int .i64 y] w fun e w' => e = .returned (.int .i64 (min x y)) ∧ w = w' := by
  by_cases h : x < y
  all_goals
    go_enter Try.func18, Try.ntmps18
    go_wp2
    go_ret
    exact ⟨ret_int (by omega), rfl⟩

set_option maxHeartbeats 4000000 in
set_option maxRecDepth 100000 in
theorem walk (tk late : Int) (w : World) (htk : -9223372036854775808 ≤ tk ∧ tk ≤ 9223372036854775807) (hlate : -9223372036854775808 ≤ late ∧ late ≤ 9223372036854775807) :
    Calls Try.prog 6 #[.int .i64 tk, .int .i64 late] w fun e w' => e = .returned (.bool true) ∧ Below w.heap.size w w' := by
  by_cases hv : 0 ≤ tk ∧ tk ≤ 100000
  · obtain ⟨hv1, hv2⟩ := hv
    go_enter Try.func6, Try.ntmps6
    go_wp2_with fail
    refine (fact_any _).mono ?_
    rintro e w1 ⟨rfl, hb1⟩
    have B1 := Lib.hid hb1; clear hb1
    go_wp2_with fail
    refine (new_yes _ _ (by omega) (by omega)).mono ?_
    rintro e w2 ⟨rfl, ho, hg⟩
    have H2 := Lib.hid ho; clear ho
    have B2 : Hid (Below w.heap.size w w2) := B1.out.trans ((below_new hg).mono B1.out.size)
    clear hg
    have hsz := B1.out.size
    generalize hb : w1.heap.size = b at *
    clear hb B1
    go_wp2_with fail
    refine (take_yes b _ _ _ tk _ H2.out tim_new hv1 hv2).mono ?_
    rintro e w3 ⟨rfl, ho, hg⟩
    have H3 := Lib.hid ho; clear ho
    have B3 : Hid (Below w.heap.size w w3) := B2.out.trans (below_grown hg hsz H2.out.lt)
    clear hg H2 B2
    have e1 : rS (-1) tk = tk := rfl
    have e2 : rP (-1) 0 tk = tk / 2 := rfl
    have e3 : rT (-1) 0 tk = min (tk + max 1 (4 * (tk / 2))) 100000 := rfl
    rw [e1, e2, e3] at H3
    clear e1 e2 e3
    have hwas : 1 ≤ min (tk + max 1 (4 * (tk / 2))) 100000 ∧ min (tk + max 1 (4 * (tk / 2))) 100000 ≤ 100000 ∧ rT tk (tk / 2) tk ≤ min (tk + max 1 (4 * (tk / 2))) 100000 := by
      refine ⟨by omega, by omega, ?_⟩
      unfold rT rS rP
      simp only [if_neg (Int.not_lt.2 hv1)]
      rw [show max (tk - tk) (tk - tk) = 0 from by omega]
      omega
    generalize min (tk + max 1 (4 * (tk / 2))) 100000 = was at *
    obtain ⟨hw1, hw2, hw3⟩ := hwas
    have HW3 := Lib.hid hw3; clear hw3
    go_wp2_with fail
    refine (wait_any _ _ _ _ _ H3.out).mono ?_
    rintro e w4 ⟨rfl, rfl⟩
    go_wp2_with fail
    go_loopw [9, 10] (fun v7 v8 wr => ∃ (k : Nat) (t : Int), k ≤ 40 ∧ 1 ≤ t ∧ t ≤ 100000 ∧ v8 = .int .i64 k ∧ v7 = .int .i64 t ∧ Tim wr b tk (tk / 2) t ∧ Below w.heap.size w wr)
      (fun _ v8 _ => 40 - (intOf v8).toNat)
    case atStart => exact ⟨0, was, by omega, hw1, hw2, rfl, rfl, H3.out, B3.out⟩
    case round =>
      clear H3 B3
      obtain ⟨k, t, hk, ht1, ht2, rfl, rfl, hT, hB⟩ := hrel
      have HB := Lib.hid hB; clear hB
      have HT := Lib.hid hT; clear hT
      by_cases hlt : (k : Int) < late ∧ k < 40
      · obtain ⟨hl1, hl2⟩ := hlt
        go_wp2_with fail
        refine (late_any b _ _ _ _ HT.out (by omega) (by omega)).mono ?_
        rintro e w5 ⟨rfl, ho, hg⟩
        have HT' := Lib.hid ho; clear ho
        have HB' : Hid (Below w.heap.size w w5) := HB.out.trans (below_grown hg hsz HT.out.lt)
        clear hg
        go_wp2_with fail
        refine (least_any _ _ _).mono ?_
        rintro e w' ⟨rfl, rfl⟩
        have hm : 1 ≤ min (2 * t) 100000 ∧ min (2 * t) 100000 ≤ 100000 := by omega
        generalize min (2 * t) 100000 = t' at *
        obtain ⟨hm1, hm2⟩ := hm
        go_wp2_with fail
        refine (wait_any _ _ _ _ _ HT'.out).mono ?_
        rintro e w' ⟨rfl, rfl⟩
        go_wp2
        go_roundw
        case rel => exact ⟨k + 1, t', by omega, hm1, hm2, by go_num, rfl, HT'.out, HB'.out⟩
        case measure => simp [intOf]; omega
      · have hex : late ≤ k ∨ ((k : Int) < late ∧ 40 ≤ k) := by omega
        clear hlt
        rcases hex with hex | ⟨hex, hex2⟩
        all_goals
          go_wp2_with fail
          refine (guess_any _ _ _ _ _ HT.out).mono ?_
          rintro e w5 ⟨rfl, nd, rfl⟩
          go_wp2_with fail
          refine (take_yes b _ _ _ tk _ (Tim.drewN HT.out nd) (by unfold TimOk; omega) hv1 hv2).mono ?_
          rintro e w6 ⟨rfl, ho, hg⟩
          have HT' := Lib.hid ho; clear ho
          have HB' : Hid (Below w.heap.size w w6) := (below_drewN HB.out nd).trans (below_grown hg hsz HT.out.lt)
          clear hg
          go_wp2_with fail
          refine (wait_any _ _ _ _ _ HT'.out).mono ?_
          rintro e w' ⟨rfl, rfl⟩
          go_wp2
          go_ret
          exact ⟨by have := HW3.out; simp; omega, HB'.out⟩
  · have HV := Lib.hid (show tk < 0 ∨ 100000 < tk by omega)
    clear hv
    go_enter Try.func6, Try.ntmps6
    go_wp2_with fail
    refine (fact_any _).mono ?_
    rintro e w1 ⟨rfl, hb1⟩
    have B1 := Lib.hid hb1; clear hb1
    go_wp2_with fail
    refine (new_yes _ _ (by omega) (by omega)).mono ?_
    rintro e w2 ⟨rfl, ho, hg⟩
    have H2 := Lib.hid ho; clear ho
    have B2 : Hid (Below w.heap.size w w2) := B1.out.trans ((below_new hg).mono B1.out.size)
    clear hg
    have hsz := B1.out.size
    generalize hb : w1.heap.size = b at *
    clear hb B1
    go_wp2_with fail
    refine (take_no b (-1) 0 1 tk _ HV.out).mono ?_
    rintro e w' ⟨rfl, rfl⟩
    go_wp2_with fail
    refine (in_out _ _ _ _ HV.out).mono ?_
    rintro e w' ⟨rfl, rfl⟩
    go_wp2
    go_ret
    exact ⟨by simp, B2.out⟩
end Go.Proofs.Ythnpbcnnpmohaaa.rttLate
