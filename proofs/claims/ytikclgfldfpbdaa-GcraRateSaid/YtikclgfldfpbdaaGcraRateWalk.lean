/- GcraRate returns true for every input: the walk. -/
import Derived.Test.YtikclgfldfpbdaaGcraF
import Derived.Test.YtikclgfldfpbdaaGcraPlain2
namespace Go.Proofs.Ytikclgfldfpbdaa.gcraRate
open Go.RowKit
set_option linter.unusedSimpArgs false
set_option linter.unusedVariables false

set_option maxHeartbeats 8000000 in
set_option maxRecDepth 100000 in
theorem walk (st sl : Int) (a : Option Addr) (len cap : Nat) (ts : List Int) (w : World) (hst : -9223372036854775808 ≤ st ∧ st ≤ 9223372036854775807) (hsl : -9223372036854775808 ≤ sl ∧ sl ≤ 9223372036854775807) (hI : Ints w w.heap.size a len ts) :
    Calls Try.prog 4 #[.int .i64 st, .int .i64 sl, .slice a len cap] w fun e w' => e = .returned (.bool true) ∧ Below w.heap.size w w' := by
  have hroom := hI.room
  have hlz := Lib.hid hI.size
  have HI := Lib.hid hI; clear hI
  go_enter Try.func4, Try.ntmps4
  go_wp2_with fail
  refine (gfact_any _).mono ?_
  rintro e w1 ⟨rfl, hb1⟩
  have B1 := Lib.hid hb1; clear hb1
  have I1 := Lib.hid (HI.out.later B1.out)
  have CL := Lib.hid (leak_any st sl a len cap ts w1 I1.out)
  by_cases hE : leakE st sl ts = 0
  · have HE := Lib.hid hE; clear hE
    obtain ⟨s0, s1, l0, l1, hl2, htm⟩ := leak_zero HE.out
    have HTM := Lib.hid htm; clear htm
    have hlen : len ≤ 200 := by rw [hlz.out] at hl2; exact hl2
    clear hl2
    have HOUT := Lib.hid (lk_out (st := st) (sl := sl) HTM.out s0 l0)
    have HAT := Lib.hid (lk_at (st := st) (sl := sl) HTM.out s0 l0)
    go_wp2_with fail
    refine CL.out.mono ?_
    clear CL
    rintro e w2 ⟨he, _⟩
    obtain ⟨ga, gc, he2, hgi, hol, hB⟩ := he HE.out
    clear he
    rw [hol, hlz.out] at hgi he2
    subst he2
    have HG := Lib.hid hgi; clear hgi
    have BB := Lib.hid hB
    have B2 : Hid (Below w.heap.size w w2) := B1.out.trans (hB.mono B1.out.size)
    clear hB hol
    have IT := Lib.hid (I1.out.below BB.out)
    have HRATE := Lib.hid (rate_at (st := st) (sl := sl) HTM.out s0 l0)
    have hfit := Lib.hid (fun k hk => (tm_at (st := st) (sl := sl) HTM.out s0 l0 k hk))
    have HLE := Lib.hid (mayN_le (lkRun st sl ts).out)
    generalize hbs : (lkRun st sl ts).out = bs at HG HRATE HLE
    have hMS : Hid (∀ k, mayN bs (k + 1) = mayN bs k + if bs.getD k false = true then 1 else 0) := fun k => rfl
    clear hbs HOUT HAT
    go_wp2_with fail
    go_loopw [10] (fun v10 wr => ∃ i : Nat, i ≤ len ∧ v10 = .int .i64 i ∧ ∃ m, wr = w2.drewN m) (fun v10 _ => len - (intOf v10).toNat)
    case atStart => exact ⟨0, by omega, rfl, 0, rfl⟩
    case round =>
      obtain ⟨i, hi, rfl, m0, rfl⟩ := hrel
      by_cases hlt : i < len
      · obtain ⟨tb, toff, rfl, _, hti⟩ := IT.out.cell i hlt
        obtain ⟨lb, loff, rfl, _, hli⟩ := HG.out.cell i hlt
        have hfi := hfit.out i (by rw [hlz.out]; exact hlt)
        have HTI := Lib.hid hti; clear hti
        have HLI := Lib.hid hli; clear hli
        go_wp2_with fail
        go_loopw [11, 12] (fun v11 v12 wr => ∃ k : Nat, i ≤ k ∧ k ≤ len ∧ v12 = .int .i64 k ∧ v11 = .int .i64 ((mayN bs k : Int) - mayN bs i) ∧ ∃ m, wr = w2.drewN m) (fun _ v12 _ => len - (intOf v12).toNat)
        case atStart => exact ⟨i, by omega, by omega, rfl, by rw [Int.sub_self], _, rfl⟩
        case round =>
          obtain ⟨k, hik, hk, rfl, rfl, m1, rfl⟩ := hrel
          by_cases hlt2 : k < len
          · obtain ⟨tb', toff', he1, _, htk⟩ := IT.out.cell k hlt2
            obtain ⟨lb', loff', he2, _, hlk⟩ := HG.out.cell k hlt2
            simp only [Option.some.injEq, Addr.mk.injEq, and_true] at he1 he2
            obtain ⟨rfl, rfl⟩ := he1
            obtain ⟨rfl, rfl⟩ := he2
            have hfk := hfit.out k (by rw [hlz.out]; exact hlt2)
            have hti := HTI.out
            have hli := HLI.out
            have hle := HLE.out i k hik
            have hms := hMS.out k
            have hr := HRATE.out i k hik (by rw [hlz.out]; exact hlt2)
            have hmb : 0 ≤ ((mayN bs k : Int) - mayN bs i) * st ∧ ((mayN bs k : Int) - mayN bs i) * st ≤ 4000 := by
              refine ⟨Int.mul_nonneg (by omega) (by omega), ?_⟩
              have := Int.mul_le_mul (show ((mayN bs k : Int) - mayN bs i) ≤ 200 by omega) s1 (by omega) (by omega)
              omega
            generalize ts.getD i 0 = ti at *
            generalize ts.getD k 0 = tk at *
            cases hbk : bs.getD k false
            · rw [hbk] at hlk hms
              have HMS := Lib.hid hms; clear hms hr hbk
              go_wp2_with fail
              go_roundw
              case rel => exact ⟨k + 1, by omega, by omega, by go_num, by rw [HMS.out]; simp, _, rfl⟩
              case measure => simp [intOf]; omega
            · rw [hbk] at hlk hms hr
              have HMS := Lib.hid hms; clear hms
              cases hbi : bs.getD i false
              · rw [hbi] at hli
                clear hr hbk hbi
                have q1 : (0 : Int) ≤ (i : Int) := by omega
                have q2 : (i : Int) < (len : Int) := by omega
                go_wp2_with fail
                go_quiet (fail)
                go_wp2
                go_roundw
                case rel => exact ⟨k + 1, by omega, by omega, by go_num, by rw [HMS.out]; simp; omega, _, rfl⟩
                case measure => simp [intOf]; omega
              · rw [hbi] at hli hr
                have hr2 := hr rfl rfl
                clear hr hbk hbi
                have hcb : 0 ≤ ((mayN bs k : Int) - mayN bs i) ∧ ((mayN bs k : Int) - mayN bs i) ≤ 200 := by omega
                generalize hc : ((mayN bs k : Int) - mayN bs i) = c at hcb hmb hr2 ⊢
                have HC := Lib.hid hc; clear hc
                have q1 : (0 : Int) ≤ (i : Int) := by omega
                have q2 : (i : Int) < (len : Int) := by omega
                have q3 : (0 : Int) ≤ (k : Int) := by omega
                have q4 : (k : Int) < (len : Int) := by omega
                go_wp2_with fail
                go_quiet (fail)
                go_wp2
                go_roundw
                case rel => exact ⟨k + 1, by omega, by omega, by go_num, by rw [HMS.out, ← HC.out]; simp; omega, _, rfl⟩
                case measure => simp [intOf]; omega
          · go_wp2_with fail
            go_roundw
            case rel => exact ⟨i + 1, by omega, by go_num, _, rfl⟩
            case measure => simp [intOf]; omega
      · go_wp2_with fail
        go_ret
        exact ⟨rfl, below_drewN B2.out _⟩
  · have HE := Lib.hid hE; clear hE
    go_wp2_with fail
    refine CL.out.mono ?_
    clear CL
    rintro e w2 ⟨_, he⟩
    obtain ⟨he2, hB⟩ := he HE.out
    clear he
    subst he2
    have B2 : Hid (Below w.heap.size w w2) := B1.out.trans (hB.mono B1.out.size)
    clear hB
    generalize leakE st sl ts = n at *
    go_wp2
    go_ret
    exact ⟨rfl, B2.out⟩
end Go.Proofs.Ytikclgfldfpbdaa.gcraRate
