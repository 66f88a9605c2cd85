/- TopGates returns true for every input: the walk. -/
import Derived.Test.YtikclgfldfpbdaaGcraF
import Derived.Test.YtikclgfldfpbdaaGcraPlain2
namespace Go.Proofs.Ytikclgfldfpbdaa.topGates
open Go.RowKit
set_option linter.unusedSimpArgs false
set_option linter.unusedVariables false

set_option maxHeartbeats 8000000 in
set_option maxRecDepth 100000 in
theorem walk (st : Int) (a : Option Addr) (len cap : Nat) (ts : List Int) (w : World) (hst : -9223372036854775808 ≤ st ∧ st ≤ 9223372036854775807) (hI : Ints w w.heap.size a len ts) :
    Calls Try.prog 6 #[.int .i64 st, .slice a len cap] w fun e w' => e = .returned (.bool true) ∧ Below w.heap.size w w' := by
  have hroom := hI.room
  have hlz := Lib.hid hI.size
  have HI := Lib.hid hI; clear hI
  have S3 := Lib.hid (fun k => show -9223372036854775808 ≤ ([0, 1, 2] : List Int).getD k 0 ∧ ([0, 1, 2] : List Int).getD k 0 ≤ 9223372036854775807 from by rcases k with _ | _ | _ | k <;> simp)
  have CL := Lib.hid (leak_any st 0 a len cap ts w HI.out)
  -- what is done alike behind the first call
  have FACT : Hid (∀ (w2 : World), Below w.heap.size w w2 → Calls Try.prog 11 #[.int .i64 2, .int .i64 0, .slice (some ⟨w2.heap.size, 0, none⟩) 3 3] (w2.alloc (.cells #[.int .i64 0, .int .i64 1, .int .i64 2] 3 (0, 0))) fun e w3 =>
      ∃ a3 c3, e = .returned (.tuple #[.slice a3 3 c3, .nilIface]) ∧ Bools w3 w3.heap.size a3 3 [true, false, true] ∧ Below w2.heap.size w2 w3) := fun w2 hb => by
    refine (leak_any 2 0 _ 3 3 [0, 1, 2] _ (ilit (zs := [0, 1, 2]) (Obj.new w2 [.int .i64 0, .int .i64 1, .int .i64 2] _) (by decide) S3.out)).mono ?_
    rintro e w3 ⟨he, _⟩
    obtain ⟨ga, gc, he, hgi, _, hB⟩ := he (by decide)
    have e1 : (lkRun 2 0 [0, 1, 2]).out = [true, false, true] := by decide
    rw [e1] at he hgi
    exact ⟨ga, gc, he, hgi, ((Below.refl _ _).alloc (Nat.le_refl _) _).trans (hB.mono (by simp))⟩
  go_enter Try.func6, Try.ntmps6
  by_cases hE : leakE st 0 ts = 0
  · have HE := Lib.hid hE; clear hE
    obtain ⟨s0, s1, l0, l1, hl2, htm⟩ := leak_zero HE.out
    have HTM := Lib.hid htm; clear htm l0 l1
    have hlen : len ≤ 200 := by rw [hlz.out] at hl2; exact hl2
    clear hl2
    have HOUT := Lib.hid (lk_out (st := st) (sl := 0) HTM.out s0 (Int.le_refl _))
    have HTA := Lib.hid (fun k hk => (tm_at (st := st) (sl := 0) HTM.out s0 (Int.le_refl _) k hk))
    have HGS := Lib.hid (gn_succ st 0 ts)
    go_wp2_with fail
    refine CL.out.mono ?_
    clear CL
    rintro e w2 ⟨he, _⟩
    obtain ⟨ga, gc, he2, hgi, hol, hB⟩ := he HE.out
    clear he
    rw [hol, hlz.out] at hgi he2
    subst he2
    have HG := Lib.hid hgi; clear hgi
    have B2 := Lib.hid hB
    clear hB hol
    generalize hbs : (lkRun st 0 ts).out = bs at *
    clear hbs
    go_wp2_with fail
    refine (FACT.out w2 B2.out).mono ?_
    clear FACT
    rintro e w3 ⟨a3, c3, rfl, hg3, hb3⟩
    have HG3 := Lib.hid hg3; clear hg3
    have B3 := Lib.hid hb3; clear hb3
    go_wp2_with fail
    refine (bsame_yes _ _ 3 _ _ [true, false, true] _ _ _ (HG3.out.alloc _) (bools_lit (bs := [true, false, true]) (Obj.new w3 [.bool true, .bool false, .bool true] _) (by decide))).mono ?_
    rintro e w4 ⟨rfl, n, rfl⟩
    have B4 : Hid (Below w2.heap.size w2 ((w3.alloc (.cells #[.bool true, .bool false, .bool true] 4 (0, 0))).drewN n)) := below_drewN (B3.out.alloc B3.out.size _) n
    have IT := Lib.hid ((HI.out.later B2.out).below B4.out)
    have IG := Lib.hid (HG.out.below B4.out)
    have BW : Hid (Below w.heap.size w ((w3.alloc (.cells #[.bool true, .bool false, .bool true] 4 (0, 0))).drewN n)) := B2.out.trans (B4.out.mono B2.out.size)
    generalize (w3.alloc (.cells #[.bool true, .bool false, .bool true] 4 (0, 0))).drewN n = w5 at *
    go_wp2_with fail
    go_loopw [9, 10] (fun v9 v10 wr => ∃ (i : Nat) (L : Int), i ≤ len ∧ v10 = .int .i64 i ∧ v9 = .int .i64 L ∧ -20 ≤ L ∧ L ≤ 1000 ∧ Hid (gnRun st 0 (ts.take i) = L + st) ∧ ∃ m, wr = w5.drewN m) (fun _ v10 _ => len - (intOf v10).toNat)
    case atStart => exact ⟨0, -st, by omega, rfl, rfl, by omega, by omega, by show (0 : Int) = -st + st; omega, 0, rfl⟩
    case round =>
      obtain ⟨i, L, hi, rfl, rfl, hL0, hL1, HN, m, rfl⟩ := hrel
      by_cases hlt : i < len
      · obtain ⟨tb, toff, rfl, htb, hti⟩ := IT.out.cell i hlt
        obtain ⟨lb, loff, rfl, hlb, hli⟩ := IG.out.cell i hlt
        have hob := HOUT.out i (by rw [hlz.out]; exact hlt)
        have hgs := HGS.out i (by rw [hlz.out]; exact hlt)
        have hta := HTA.out i (by rw [hlz.out]; exact hlt)
        rw [HN.out] at hob hgs
        generalize ts.getD i 0 = t at *
        unfold gnStep at hgs
        have q1 : (0 : Int) ≤ (i : Int) := by omega
        have q2 : (i : Int) < (len : Int) := by omega
        by_cases hc : st ≤ t - L
        · rw [decide_eq_true (show L + st - 0 ≤ t by omega)] at hob
          have HN2 : Hid (gnRun st 0 (ts.take (i + 1)) = t + st) := by
            show _ = _
            rw [hgs, if_pos (by omega)]; omega
          clear hgs
          rw [hob] at hli
          clear hob
          have hdc : decide (st ≤ t - L) = true := by simpa using hc
          clear hc
          have hc := (show st ≤ t - L by simpa using hdc)
          go_wp2_with fail
          go_quiet (fail)
          go_wp2
          go_roundw
          case rel => exact ⟨i + 1, t, by omega, by go_num, by first | rfl | go_num, by omega, by omega, HN2, _, rfl⟩
          case measure => simp [intOf]; omega
        · rw [decide_eq_false (show ¬ L + st - 0 ≤ t by omega)] at hob
          have HN2 : Hid (gnRun st 0 (ts.take (i + 1)) = L + st) := by
            show _ = _
            rw [hgs, if_neg (by omega)]
          clear hgs
          rw [hob] at hli
          clear hob
          have hc2 : t - L < st := by omega
          clear hc
          have hdc : decide (st ≤ t - L) = false := by simp; omega
          go_wp2_with fail
          go_quiet (fail)
          go_wp2
          go_roundw
          case rel => exact ⟨i + 1, L, by omega, by go_num, rfl, by omega, by omega, HN2, _, rfl⟩
          case measure => simp [intOf]; omega
      · go_wp2_with fail
        go_ret
        exact ⟨rfl, below_drewN BW.out _⟩
  · have HE := Lib.hid hE; clear hE
    go_wp2_with fail
    refine CL.out.mono ?_
    clear CL
    rintro e w2 ⟨_, he⟩
    obtain ⟨he2, hB⟩ := he HE.out
    clear he
    subst he2
    have B2 := Lib.hid hB
    clear hB
    generalize leakE st 0 ts = n at *
    go_wp2_with fail
    refine (FACT.out w2 B2.out).mono ?_
    clear FACT
    rintro e w3 ⟨a3, c3, rfl, hg3, hb3⟩
    have HG3 := Lib.hid hg3; clear hg3
    have B3 := Lib.hid hb3; clear hb3
    go_wp2_with fail
    refine (bsame_yes _ _ 3 _ _ [true, false, true] _ _ _ (HG3.out.alloc _) (bools_lit (bs := [true, false, true]) (Obj.new w3 [.bool true, .bool false, .bool true] _) (by decide))).mono ?_
    rintro e w4 ⟨rfl, m, rfl⟩
    go_wp2
    go_ret
    exact ⟨rfl, below_drewN ((B2.out.trans (B3.out.mono B2.out.size)).alloc (Nat.le_trans B2.out.size B3.out.size) _) _⟩
end Go.Proofs.Ytikclgfldfpbdaa.topGates
