/- The closed fact on flows. -/
import Derived.Test.YthnpbcnnpmohaaaReno
namespace Go.Proofs.Ythnpbcnnpmohaaa
open Go.RowKit
set_option linter.unusedSimpArgs false
set_option linter.unusedVariables false


set_option maxHeartbeats 2000000 in
theorem rfact_any (w : World) : Calls Try.prog 24 #[] w fun e w' => e = .returned (.bool true) ∧ Below w.heap.size w w' := by
  go_enter Try.func24, Try.ntmps24
  go_wp2_with fail
  refine (rnew_any _).mono ?_
  rintro e w1 ⟨rfl, ho, hg⟩
  have H := Lib.hid ho; clear ho
  have B1 := Lib.hid (below_new hg); clear hg
  generalize hb : w.heap.size = b at *
  have hsz : b ≤ b := Nat.le_refl _
  have HW := Lib.hid hb; clear hb
  go_wp2_with fail
  go_loopw [2] (fun v2 wr => ∃ k : Nat, k ≤ 9 ∧ v2 = .int .i64 k ∧ Flw wr b (1 + k) 1000 0 ∧ Below b w wr)
    (fun v2 _ => 9 - (intOf v2).toNat)
  case atStart => exact ⟨0, by omega, rfl, H.out, B1.out⟩
  case round =>
    clear H B1
    obtain ⟨k, hk, rfl, hT, hB⟩ := hrel
    have HT := Lib.hid hT; clear hT
    have HB := Lib.hid hB; clear hB
    by_cases hlt : k < 9
    · go_wp2_with fail
      refine (told_any b _ _ _ _ HT.out ⟨by omega, by omega, by omega, by omega, by omega, by omega⟩).mono ?_
      rintro e w2 ⟨rfl, ho, hg⟩
      have e1 : tX (1 + k) 1000 0 = 1 + (k + 1 : Nat) := by unfold tX; rw [if_neg (by omega), if_pos (by omega)]; omega
      have e2 : tC (1 + k) 1000 0 = 0 := by unfold tC; rw [if_neg (by omega), if_pos (by omega)]
      rw [e1, e2] at ho
      clear e1 e2
      have HT2 := Lib.hid ho; clear ho
      have HB2 : Hid (Below b w w2) := HB.out.trans (below_grown hg hsz HT.out.lt)
      clear hg
      go_wp2
      go_roundw
      case rel => exact ⟨k + 1, by omega, by go_num, HT2.out, HB2.out⟩
      case measure => simp [intOf]; omega
    · obtain rfl : k = 9 := by omega
      go_wp2_with fail
      refine (window_any b 10 1000 0 _ HT.out).mono ?_
      rintro e w4 ⟨rfl, nd, rfl⟩
      go_wp2_with fail
      refine (lost_any b 10 1000 0 _ (Flw.drewN HT.out nd) (by omega) (by omega)).mono ?_
      rintro e w5 ⟨rfl, ho, hg⟩
      have HT2 : Hid (Flw w5 b 5 5 0) := ho
      clear ho
      have HB2 : Hid (Below b w w5) := (below_drewN HB.out nd).trans (below_grown hg hsz HT.out.lt)
      clear hg
      go_wp2_with fail
      refine (window_any b 5 5 0 _ HT2.out).mono ?_
      rintro e w6 ⟨rfl, nd2, rfl⟩
      go_wp2
      go_ret
      exact ⟨by simp, by rw [HW.out]; exact below_drewN HB2.out _⟩
theorem rin_in (n lo hi : Int) (w : World) (h1 : lo ≤ n) (h2 : n ≤ hi) : Calls Try.prog 15 #[.int .i64 n, .int .i64 lo, .int .i64 hi] w fun e w' => e = .returned (.bool true) ∧ w = w' := in_in n lo hi w h1 h2
end Go.Proofs.Ythnpbcnnpmohaaa
