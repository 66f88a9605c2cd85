/- RenoLost returns true for every input: the walk. -/
import Derived.Test.YthnpbcnnpmohaaaRenoF
namespace Go.Proofs.Ythnpbcnnpmohaaa.renoLost
open Go.RowKit
set_option linter.unusedSimpArgs false
set_option linter.unusedVariables false

set_option maxHeartbeats 8000000 in
set_option maxRecDepth 100000 in
theorem walk (told : Int) (late : Bool) (again : Int) (w : World) (htold : -9223372036854775808 ≤ told ∧ told ≤ 9223372036854775807) (hagain : -9223372036854775808 ≤ again ∧ again ≤ 9223372036854775807) :
    Calls Try.prog 10 #[.int .i64 told, .bool late, .int .i64 again] w fun e w' => e = .returned (.bool true) ∧ Below w.heap.size w w' := by
  go_enter Try.func10, Try.ntmps10
  go_wp2_with fail
  refine (rfact_any _).mono ?_
  rintro e w1 ⟨rfl, hb1⟩
  have B1 := Lib.hid hb1; clear hb1
  go_wp2_with fail
  refine (rnew_any _).mono ?_
  rintro e w2 ⟨rfl, ho, hg⟩
  have H2 := Lib.hid ho; clear ho
  have B2 : Hid (Below w.heap.size w w2) := B1.out.trans ((below_new hg).mono B1.out.size)
  clear hg
  have hsz := B1.out.size
  generalize hb : w1.heap.size = b at *
  clear hb B1
  go_wp2_with fail
  go_loopw [9] (fun v9 wr => ∃ (k : Nat) (x c : Int), k ≤ 2000 ∧ v9 = .int .i64 k ∧ RnOk x 1000 c ∧ Flw wr b x 1000 c ∧ Below w.heap.size w wr)
    (fun v9 _ => 2000 - (intOf v9).toNat)
  case atStart => exact ⟨0, 1, 0, by omega, rfl, ⟨by omega, by omega, by omega, by omega, by omega, by omega⟩, H2.out, B2.out⟩
  case round =>
    clear H2 B2
    obtain ⟨k, x, c, hk, rfl, hok, hT, hB⟩ := hrel
    have HT := Lib.hid hT; clear hT
    have HB := Lib.hid hB; clear hB
    have HO := Lib.hid hok; clear hok
    by_cases hlt : (k : Int) < told ∧ k < 2000
    · obtain ⟨hl1, hl2⟩ := hlt
      go_wp2_with fail
      refine (told_any b _ _ _ _ HT.out HO.out).mono ?_
      rintro e w3 ⟨rfl, ho, hg⟩
      have HT2 := Lib.hid ho; clear ho
      have HB2 : Hid (Below w.heap.size w w3) := HB.out.trans (below_grown hg hsz HT.out.lt)
      clear hg
      have HO2 := Lib.hid (told_ok HO.out)
      generalize tX x 1000 c = x2 at *
      generalize tC x 1000 c = c2 at *
      go_wp2
      go_roundw
      case rel => exact ⟨k + 1, x2, c2, by omega, by go_num, HO2.out, HT2.out, HB2.out⟩
      case measure => simp [intOf]; omega
    · have hex : told ≤ k ∨ ((k : Int) < told ∧ 2000 ≤ k) := by omega
      clear hlt
      have x0 := HO.out.x0
      have x1 := HO.out.x1
      have C1 := Lib.hid (fun w' ho => lost_any b x 1000 c w' ho x0 x1)
      have C2 := Lib.hid (fun w' ho => rlate_any b x 1000 c w' ho x0 x1)
      obtain ⟨y, hy, hyc⟩ : ∃ y, y = hlf x ∧ ((x / 2 < 2 ∧ y = 2) ∨ (2 ≤ x / 2 ∧ y = x / 2 ∧ y ≤ 500)) := ⟨hlf x, rfl, by unfold hlf; omega⟩
      rw [← hy] at C1 C2
      clear hy
      rcases hex with hex | ⟨hex, hex2⟩
      all_goals
        rcases hyc with ⟨hy1, rfl⟩ | ⟨hy1, rfl, hy2⟩
        · cases late
          · go_wp2_with fail
            refine (window_any _ _ _ _ _ HT.out).mono ?_
            rintro e w4 ⟨rfl, nd, rfl⟩
            go_wp2_with fail
            refine (C1.out _ (Flw.drewN HT.out nd)).mono ?_
            rintro e w5 ⟨rfl, ho, hg⟩
            have HT2 := Lib.hid ho; clear ho
            have HB2 : Hid (Below w.heap.size w w5) := (below_drewN HB.out nd).trans (below_grown hg hsz HT.out.lt)
            clear hg
            go_wp2_with fail
            refine (window_any _ _ _ _ _ HT2.out).mono ?_
            rintro e w6 ⟨rfl, nd2, rfl⟩
            go_wp2
            go_ret
            exact ⟨rfl, below_drewN HB2.out _⟩
          · go_wp2_with fail
            refine (window_any _ _ _ _ _ HT.out).mono ?_
            rintro e w4 ⟨rfl, nd, rfl⟩
            go_wp2_with fail
            refine (C2.out _ (Flw.drewN HT.out nd)).mono ?_
            rintro e w5 ⟨rfl, ho, hg⟩
            have HT2 := Lib.hid ho; clear ho
            have HB2 : Hid (Below w.heap.size w w5) := (below_drewN HB.out nd).trans (below_grown hg hsz HT.out.lt)
            clear hg
            go_wp2_with fail
            refine (window_any _ _ _ _ _ HT2.out).mono ?_
            rintro e w6 ⟨rfl, nd2, rfl⟩
            by_cases ha : 0 ≤ again ∧ again ≤ 2 - 1
            · obtain ⟨ha1, ha2⟩ := ha
              go_wp2_with fail
              refine (in_in _ _ _ _ ha1 (by omega)).mono ?_
              rintro e w' ⟨rfl, rfl⟩
              go_wp2_with fail
              have HB3 : Hid (Below w.heap.size w (w5.drewN nd2)) := below_drewN HB2.out nd2
              have HT3 : Hid (Flw (w5.drewN nd2) b 1 2 0) := Flw.drewN HT2.out nd2
              go_loopw [15] (fun v15 wr2 => ∃ k2 : Nat, (k2 : Int) ≤ again ∧ v15 = .int .i64 k2 ∧ Flw wr2 b (1 + k2) (2) 0 ∧ Below w.heap.size w wr2)
                (fun v15 _ => (again - intOf v15).toNat)
              case atStart => exact ⟨0, by omega, rfl, HT3.out, HB3.out⟩
              case round =>
                clear HT3 HB3 HT2 HB2 HT HB HO C1 C2
                obtain ⟨k2, hk2, rfl, hT, hB⟩ := hrel
                have HT := Lib.hid hT; clear hT
                have HB := Lib.hid hB; clear hB
                by_cases hlt : (k2 : Int) < again
                · go_wp2_with fail
                  refine (told_any b _ _ _ _ HT.out ⟨by omega, by omega, by omega, by omega, by omega, by omega⟩).mono ?_
                  rintro e w7 ⟨rfl, ho, hg⟩
                  have e1 : tX (1 + k2) (2) 0 = 1 + (k2 + 1 : Nat) := by unfold tX; rw [if_neg (by omega), if_pos (by omega)]; omega
                  have e2 : tC (1 + k2) (2) 0 = 0 := by unfold tC; rw [if_neg (by omega), if_pos (by omega)]
                  rw [e1, e2] at ho
                  clear e1 e2
                  have HT2 := Lib.hid ho; clear ho
                  have HB2 : Hid (Below w.heap.size w w7) := HB.out.trans (below_grown hg hsz HT.out.lt)
                  clear hg
                  go_wp2
                  go_roundw
                  case rel => exact ⟨k2 + 1, by omega, by go_num, HT2.out, HB2.out⟩
                  case measure => simp [intOf]; omega
                · go_wp2_with fail
                  refine (window_any _ _ _ _ _ HT.out).mono ?_
                  rintro e w8 ⟨rfl, nd3, rfl⟩
                  go_wp2
                  go_ret
                  exact ⟨by simp; omega, below_drewN HB.out _⟩
            · have HV := Lib.hid (show again < 0 ∨ 2 - 1 < again by omega)
              clear ha
              go_wp2_with fail
              refine (in_out _ _ _ _ HV.out).mono ?_
              rintro e w' ⟨rfl, rfl⟩
              go_wp2
              go_ret
              exact ⟨rfl, below_drewN HB2.out _⟩
        · cases late
          · go_wp2_with fail
            refine (window_any _ _ _ _ _ HT.out).mono ?_
            rintro e w4 ⟨rfl, nd, rfl⟩
            go_wp2_with fail
            refine (C1.out _ (Flw.drewN HT.out nd)).mono ?_
            rintro e w5 ⟨rfl, ho, hg⟩
            have HT2 := Lib.hid ho; clear ho
            have HB2 : Hid (Below w.heap.size w w5) := (below_drewN HB.out nd).trans (below_grown hg hsz HT.out.lt)
            clear hg
            go_wp2_with fail
            refine (window_any _ _ _ _ _ HT2.out).mono ?_
            rintro e w6 ⟨rfl, nd2, rfl⟩
            go_wp2
            go_ret
            exact ⟨rfl, below_drewN HB2.out _⟩
          · go_wp2_with fail
            refine (window_any _ _ _ _ _ HT.out).mono ?_
            rintro e w4 ⟨rfl, nd, rfl⟩
            go_wp2_with fail
            refine (C2.out _ (Flw.drewN HT.out nd)).mono ?_
            rintro e w5 ⟨rfl, ho, hg⟩
            have HT2 := Lib.hid ho; clear ho
            have HB2 : Hid (Below w.heap.size w w5) := (below_drewN HB.out nd).trans (below_grown hg hsz HT.out.lt)
            clear hg
            go_wp2_with fail
            refine (window_any _ _ _ _ _ HT2.out).mono ?_
            rintro e w6 ⟨rfl, nd2, rfl⟩
            by_cases ha : 0 ≤ again ∧ again ≤ x / 2 - 1
            · obtain ⟨ha1, ha2⟩ := ha
              go_wp2_with fail
              refine (in_in _ _ _ _ ha1 (by omega)).mono ?_
              rintro e w' ⟨rfl, rfl⟩
              go_wp2_with fail
              have HB3 : Hid (Below w.heap.size w (w5.drewN nd2)) := below_drewN HB2.out nd2
              have HT3 : Hid (Flw (w5.drewN nd2) b 1 (x / 2) 0) := Flw.drewN HT2.out nd2
              go_loopw [15] (fun v15 wr2 => ∃ k2 : Nat, (k2 : Int) ≤ again ∧ v15 = .int .i64 k2 ∧ Flw wr2 b (1 + k2) (x / 2) 0 ∧ Below w.heap.size w wr2)
                (fun v15 _ => (again - intOf v15).toNat)
              case atStart => exact ⟨0, by omega, rfl, HT3.out, HB3.out⟩
              case round =>
                clear HT3 HB3 HT2 HB2 HT HB HO C1 C2
                obtain ⟨k2, hk2, rfl, hT, hB⟩ := hrel
                have HT := Lib.hid hT; clear hT
                have HB := Lib.hid hB; clear hB
                by_cases hlt : (k2 : Int) < again
                · go_wp2_with fail
                  refine (told_any b _ _ _ _ HT.out ⟨by omega, by omega, by omega, by omega, by omega, by omega⟩).mono ?_
                  rintro e w7 ⟨rfl, ho, hg⟩
                  have e1 : tX (1 + k2) (x / 2) 0 = 1 + (k2 + 1 : Nat) := by unfold tX; rw [if_neg (by omega), if_pos (by omega)]; omega
                  have e2 : tC (1 + k2) (x / 2) 0 = 0 := by unfold tC; rw [if_neg (by omega), if_pos (by omega)]
                  rw [e1, e2] at ho
                  clear e1 e2
                  have HT2 := Lib.hid ho; clear ho
                  have HB2 : Hid (Below w.heap.size w w7) := HB.out.trans (below_grown hg hsz HT.out.lt)
                  clear hg
                  go_wp2
                  go_roundw
                  case rel => exact ⟨k2 + 1, by omega, by go_num, HT2.out, HB2.out⟩
                  case measure => simp [intOf]; omega
                · go_wp2_with fail
                  refine (window_any _ _ _ _ _ HT.out).mono ?_
                  rintro e w8 ⟨rfl, nd3, rfl⟩
                  go_wp2
                  go_ret
                  exact ⟨by simp; omega, below_drewN HB.out _⟩
            · have HV := Lib.hid (show again < 0 ∨ x / 2 - 1 < again by omega)
              clear ha
              go_wp2_with fail
              refine (in_out _ _ _ _ HV.out).mono ?_
              rintro e w' ⟨rfl, rfl⟩
              go_wp2
              go_ret
              exact ⟨rfl, below_drewN HB2.out _⟩
end Go.Proofs.Ythnpbcnnpmohaaa.renoLost
