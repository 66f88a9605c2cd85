/- WheelStop returns true for every input: the walk. -/
import Derived.Test.YtmmoolcnpbebhaaDoorWheelStopD
namespace Go.Proofs.YtmmoolcnpbebhaaDoor.wheelStop
open Go.RowKit
set_option linter.unusedSimpArgs false
set_option linter.unusedVariables false

def d5 (a : Nat) : Nat → Option Nat := Wl.upd (fun _ => none) 5 (some a)
theorem d5_is (a y b : Nat) : d5 a y = some b ↔ y = 5 ∧ b = a := by
  unfold d5 Wl.upd
  by_cases h : y = 5
  · rw [if_pos h]; simp [h]; omega
  · rw [if_neg h]; simp [h]
theorem d5_off (a : Nat) : Wl.upd (d5 a) 5 none = fun _ => none := by
  funext y; unfold d5 Wl.upd; split
  · rfl
  · rfl

set_option maxHeartbeats 16000000 in
set_option maxRecDepth 100000 in
theorem walk (ah af ag : Int) (w : World) (hah : -9223372036854775808 ≤ ah ∧ ah ≤ 9223372036854775807) (haf : -9223372036854775808 ≤ af ∧ af ≤ 9223372036854775807) (hag : -9223372036854775808 ≤ ag ∧ ag ≤ 9223372036854775807) (hd : Hd w) :
    Calls Tryd.prog 3 #[.int .i64 ah, .int .i64 af, .int .i64 ag] w fun e w' => e = .returned (.bool true) ∧ Below w.heap.size w w' := by
  have HD := Lib.hid hd; clear hd
  go_enter Tryd.func3, Tryd.ntmps3
  go_wp2_with fail
  refine (wheelFact_any w).mono ?_
  rintro e w1 ⟨rfl, hB1⟩
  have B1 := Lib.hid hB1
  clear hB1
  go_wp2_with fail
  refine (wdnew w1).mono ?_
  rintro e w2 ⟨rfl, h2⟩
  have H2 := Lib.hid h2; clear h2
  obtain ⟨wb, hwb⟩ : ∃ wb, wb = w1.heap.size + 1 := ⟨_, rfl⟩
  rw [← hwb] at H2 ⊢
  clear hwb
  go_wp2_with fail
  by_cases hA : 1 ≤ ah ∧ ah ≤ 400
  · obtain ⟨A, rfl⟩ : ∃ A : Nat, ah = (A : Int) := ⟨ah.toNat, by omega⟩
    refine (wdstart_yes H2.out 5 A (by omega) (by omega) (by omega) rfl (by omega) (by omega)).mono ?_
    rintro e w3 ⟨rfl, h3⟩
    have S3 : Hid (WD w1 wb w1.heap.size (w1.heap.size + 2) w3 (d5 A) 0 1 (.slice none 0 0) []) := Lib.hid (by have Z := h3; rw [Nat.zero_add] at Z; exact Z)
    clear h3 H2
    have hw1 : IntKind.i64.wrap ((A : Int) - 1) = (A : Int) - 1 := IntWalk.i64_in _ (by omega)
    go_wp2_with fail
    go_loopw [9] (fun v9 wx => ∃ (k : Nat) (x : Value) (xl : List Nat), k + 1 ≤ A ∧ v9 = .int .i64 (k : Int) ∧ WD w1 wb w1.heap.size (w1.heap.size + 2) wx (d5 A) k 1 x xl) (fun v9 _ => A - (intOf v9).toNat)
    case atStart => exact ⟨0, _, _, by omega, rfl, S3.out⟩
    case round =>
      clear S3
      obtain ⟨k, x, xl, hk, rfl, hS⟩ := hrel
      have S := Lib.hid hS; clear hS
      by_cases hlt : (k : Int) < af ∧ (k : Int) < (A : Int) - 1
      · obtain ⟨hl1, hl2⟩ := hlt
        have g1 : decide ((k : Int) < af) = true := by simp; omega
        have g2 : decide ((k : Int) < (A : Int) - 1) = true := by simp; omega
        go_wp2_with fail
        refine (wdtick S.out (by omega)).mono ?_
        rintro e w4 ⟨ra, rc, rs, rfl, h4, hm, -⟩
        have hrs : rs = [] := List.eq_nil_iff_forall_not_mem.2 fun y hy => by
          have := (d5_is A y _).1 ((hm y).1 hy)
          omega
        subst hrs
        have S4 := Lib.hid h4
        clear h4 hm S g1 g2
        go_wp2_with fail
        go_roundw
        case rel => exact ⟨k + 1, _, _, by omega, by first | go_num | rfl | simp, S4.out⟩
        case measure => simp [intOf]; omega
      · by_cases g0 : (k : Int) < af
        · have g1 : decide ((k : Int) < af) = true := by simp; omega
          have g2 : decide ((k : Int) < (A : Int) - 1) = false := by simp; omega
          clear hlt g0
          go_wp2_with fail
          clear g1 g2
          have HRUN : Hid (Wl.after (d5 A) k 5 ≠ none) := Lib.hid (by rw [Wl.after_some.2 ⟨(d5_is A 5 A).2 ⟨rfl, rfl⟩, by omega⟩]; simp)
          refine (wdstop_yes S.out 5 HRUN.out).mono ?_
          rintro e w4 ⟨rfl, h4⟩
          have S4 : Hid (WD w1 wb w1.heap.size (w1.heap.size + 2) w4 (fun _ => none) k 1 x xl) := Lib.hid (by have Z := h4; rw [d5_off] at Z; exact Z)
          clear h4 S HRUN
          go_wp2_with fail
          refine (wdstop_no S4.out 5 (by omega) (.inr rfl)).mono ?_
          rintro e w5 ⟨rfl, hg⟩
          have S5 := Lib.hid (S4.out.fresh hg)
          have D5 : Hid (Hd w5) := HD.out.later (B1.out.trans (S5.out.bl.mono B1.out.size))
          clear hg S4
          go_wp2_with fail
          refine (err_same 5 w5 D5.out).mono ?_
          rintro e w6 ⟨rfl, hb⟩
          have S6 := Lib.hid (S5.out.fresh (grown_of_below hb))
          clear hb S5 D5
          go_wp2_with fail
          refine (wdleft_no S6.out 5 (by omega) rfl).mono ?_
          rintro e w7 ⟨rfl, rfl⟩
          go_wp2_with fail
          by_cases hG : 1 ≤ ag ∧ ag ≤ 400
          · obtain ⟨G, rfl⟩ : ∃ G : Nat, ag = (G : Int) := ⟨ag.toNat, by omega⟩
            refine (wdstart_yes S6.out 5 G (by omega) (by omega) (by omega) rfl (by omega) (by omega)).mono ?_
            rintro e w7 ⟨rfl, h7⟩
            have S7 : Hid (WD w1 wb w1.heap.size (w1.heap.size + 2) w7 (d5 (k + G)) (k + 0) (1 + 1) x xl) := h7
            clear h7 S6
            go_wp2_with fail
            go_loopw [11] (fun v11 wx => ∃ (t : Nat) (x : Value) (xl : List Nat), t ≤ 400 ∧ v11 = .int .i64 ((t : Int) + 1) ∧ WD w1 wb w1.heap.size (w1.heap.size + 2) wx (d5 (k + G)) (k + t) (1 + 1) x xl) (fun v11 _ => 401 - (intOf v11).toNat)
            case atStart => exact ⟨0, _, _, by omega, rfl, S7.out⟩
            case round =>
              clear S7
              obtain ⟨t, x, xl, ht, rfl, hS⟩ := hrel
              have S := Lib.hid hS; clear hS
              by_cases hlt : t < 400
              · have g1 : decide ((t : Int) + 1 ≤ 400) = true := by simp; omega
                go_wp2_with fail
                refine (wdtick S.out (by omega)).mono ?_
                rintro e w8 ⟨ra, rc, rs, rfl, h8, hm, hnd, -⟩
                clear g1 S
                by_cases hGt : t + 1 = G
                · have hrs : rs = [5] := Wl.only_one hnd fun y => by
                    rw [hm, d5_is]; omega
                  subst hrs
                  have S8 : Hid (WD w1 wb w1.heap.size (w1.heap.size + 2) w8 (d5 (k + G)) (k + (t + 1)) (1 + 1) (.slice ra 1 rc) [5]) := h8
                  have I8 : Hid (Ints w8 w8.heap.size ra 1 [5]) := nats_ints h8.row (by simp) (by simp)
                  clear h8 hm hnd
                  have HC : Hid (∀ n, Calls Tryd.prog 13 #[.slice ra 1 rc, .int .i64 5] (w8.drewN n) fun e w' => e = .returned (.bool true) ∧ w' = w8.drewN n) := Lib.hid (fun n => by
                    refine (has_is ra 1 rc [5] 5 _ _ (I8.out.below (below_drewN (Below.refl _ _) n))).mono fun _ _ h => ⟨h.1, h.2.symm⟩)
                  have g3 : ((t : Int) + 1 == (G : Int)) = true := by rw [beq_iff_eq]; omega
                  go_wp2_with fail
                  go_quiet ((first | (go_at_call 13; exact Calls.quiet_of_same (HC.out _))))
                  have S9 := Lib.hid (S8.out.drewN nq)
                  clear g3
                  generalize w8.drewN nq = w9 at *
                  go_wp2_with fail
                  go_roundw
                  case rel => exact ⟨t + 1, _, _, by omega, by first | go_num | rfl | simp, S9.out⟩
                  case measure => simp [intOf]; omega
                · have hrs : rs = [] := List.eq_nil_iff_forall_not_mem.2 fun y hy => by
                    have := (d5_is _ y _).1 ((hm y).1 hy)
                    omega
                  subst hrs
                  have S8 : Hid (WD w1 wb w1.heap.size (w1.heap.size + 2) w8 (d5 (k + G)) (k + (t + 1)) (1 + 1) (.slice ra 0 rc) []) := h8
                  have I8 : Hid (Ints w8 w8.heap.size ra 0 []) := nats_ints h8.row (by simp) (by simp)
                  clear h8 hm hnd
                  have HC : Hid (∀ n, Calls Tryd.prog 13 #[.slice ra 0 rc, .int .i64 5] (w8.drewN n) fun e w' => e = .returned (.bool false) ∧ w' = w8.drewN n) := Lib.hid (fun n => by
                    refine (has_is ra 0 rc [] 5 _ _ (I8.out.below (below_drewN (Below.refl _ _) n))).mono fun _ _ h => ⟨h.1, h.2.symm⟩)
                  have g3 : ((t : Int) + 1 == (G : Int)) = false := by rw [beq_eq_false_iff_ne]; omega
                  go_wp2_with fail
                  go_quiet ((first | (go_at_call 13; exact Calls.quiet_of_same (HC.out _))))
                  have S9 := Lib.hid (S8.out.drewN nq)
                  clear g3
                  generalize w8.drewN nq = w9 at *
                  go_wp2_with fail
                  go_roundw
                  case rel => exact ⟨t + 1, _, _, by omega, by first | go_num | rfl | simp, S9.out⟩
                  case measure => simp [intOf]; omega
              · obtain rfl : t = 400 := by omega
                go_wp2_with fail
                go_ret
                exact ⟨rfl, B1.out.trans (S.out.bl.mono B1.out.size)⟩
          · have HZ : Hid (((5 : Int) < 0 ∨ 19 < (5 : Int)) ∨ ag < 1 ∨ 400 < ag) := Lib.hid (by omega)
            have HO : Hid (ag < 1 ∨ 400 < ag) := Lib.hid (by omega)
            clear hG
            refine (wstart_no _ _ _ _ HZ.out).mono ?_
            rintro e w7 ⟨rfl, rfl⟩
            have S7 : Hid (WD w1 wb w1.heap.size (w1.heap.size + 2) w6 (fun _ => none) (k + 0) 1 x xl) := S6.out
            clear S6
            go_wp2_with fail
            go_loopw [11] (fun v11 wx => ∃ (t : Nat) (x : Value) (xl : List Nat), t ≤ 400 ∧ v11 = .int .i64 ((t : Int) + 1) ∧ WD w1 wb w1.heap.size (w1.heap.size + 2) wx (fun _ => none) (k + t) 1 x xl) (fun v11 _ => 401 - (intOf v11).toNat)
            case atStart => exact ⟨0, _, _, by omega, rfl, S7.out⟩
            case round =>
              clear S7
              obtain ⟨t, x, xl, ht, rfl, hS⟩ := hrel
              have S := Lib.hid hS; clear hS
              by_cases hlt : t < 400
              · have g1 : decide ((t : Int) + 1 ≤ 400) = true := by simp; omega
                go_wp2_with fail
                refine (wdtick S.out (by omega)).mono ?_
                rintro e w8 ⟨ra, rc, rs, rfl, h8, hm, hnd, -⟩
                clear g1 S
                have hrs : rs = [] := List.eq_nil_iff_forall_not_mem.2 fun y hy => by
                  have := (hm y).1 hy
                  simp at this
                subst hrs
                have S8 : Hid (WD w1 wb w1.heap.size (w1.heap.size + 2) w8 (fun _ => none) (k + (t + 1)) 1 (.slice ra 0 rc) []) := h8
                have I8 : Hid (Ints w8 w8.heap.size ra 0 []) := nats_ints h8.row (by simp) (by simp)
                clear h8 hm hnd
                have HC : Hid (∀ n, Calls Tryd.prog 13 #[.slice ra 0 rc, .int .i64 5] (w8.drewN n) fun e w' => e = .returned (.bool false) ∧ w' = w8.drewN n) := Lib.hid (fun n => by
                  refine (has_is ra 0 rc [] 5 _ _ (I8.out.below (below_drewN (Below.refl _ _) n))).mono fun _ _ h => ⟨h.1, h.2.symm⟩)
                go_wp2_with fail
                go_quiet ((first | (go_at_call 13; exact Calls.quiet_of_same (HC.out _))))
                have S9 := Lib.hid (S8.out.drewN nq)
                generalize w8.drewN nq = w9 at *
                go_wp2_with fail
                go_roundw
                case rel => exact ⟨t + 1, _, _, by omega, by first | go_num | rfl | simp, S9.out⟩
                case measure => simp [intOf]; omega
              · obtain rfl : t = 400 := by omega
                go_wp2_with fail
                refine (in_out _ _ _ _ HO.out).mono ?_
                rintro e w8 ⟨rfl, rfl⟩
                go_wp2_with fail
                go_ret
                exact ⟨rfl, B1.out.trans (S.out.bl.mono B1.out.size)⟩
        · have g1 : decide ((k : Int) < af) = false := by simp; omega
          clear hlt g0
          go_wp2_with fail
          clear g1
          have HRUN : Hid (Wl.after (d5 A) k 5 ≠ none) := Lib.hid (by rw [Wl.after_some.2 ⟨(d5_is A 5 A).2 ⟨rfl, rfl⟩, by omega⟩]; simp)
          refine (wdstop_yes S.out 5 HRUN.out).mono ?_
          rintro e w4 ⟨rfl, h4⟩
          have S4 : Hid (WD w1 wb w1.heap.size (w1.heap.size + 2) w4 (fun _ => none) k 1 x xl) := Lib.hid (by have Z := h4; rw [d5_off] at Z; exact Z)
          clear h4 S HRUN
          go_wp2_with fail
          refine (wdstop_no S4.out 5 (by omega) (.inr rfl)).mono ?_
          rintro e w5 ⟨rfl, hg⟩
          have S5 := Lib.hid (S4.out.fresh hg)
          have D5 : Hid (Hd w5) := HD.out.later (B1.out.trans (S5.out.bl.mono B1.out.size))
          clear hg S4
          go_wp2_with fail
          refine (err_same 5 w5 D5.out).mono ?_
          rintro e w6 ⟨rfl, hb⟩
          have S6 := Lib.hid (S5.out.fresh (grown_of_below hb))
          clear hb S5 D5
          go_wp2_with fail
          refine (wdleft_no S6.out 5 (by omega) rfl).mono ?_
          rintro e w7 ⟨rfl, rfl⟩
          go_wp2_with fail
          by_cases hG : 1 ≤ ag ∧ ag ≤ 400
          · obtain ⟨G, rfl⟩ : ∃ G : Nat, ag = (G : Int) := ⟨ag.toNat, by omega⟩
            refine (wdstart_yes S6.out 5 G (by omega) (by omega) (by omega) rfl (by omega) (by omega)).mono ?_
            rintro e w7 ⟨rfl, h7⟩
            have S7 : Hid (WD w1 wb w1.heap.size (w1.heap.size + 2) w7 (d5 (k + G)) (k + 0) (1 + 1) x xl) := h7
            clear h7 S6
            go_wp2_with fail
            go_loopw [11] (fun v11 wx => ∃ (t : Nat) (x : Value) (xl : List Nat), t ≤ 400 ∧ v11 = .int .i64 ((t : Int) + 1) ∧ WD w1 wb w1.heap.size (w1.heap.size + 2) wx (d5 (k + G)) (k + t) (1 + 1) x xl) (fun v11 _ => 401 - (intOf v11).toNat)
            case atStart => exact ⟨0, _, _, by omega, rfl, S7.out⟩
            case round =>
              clear S7
              obtain ⟨t, x, xl, ht, rfl, hS⟩ := hrel
              have S := Lib.hid hS; clear hS
              by_cases hlt : t < 400
              · have g1 : decide ((t : Int) + 1 ≤ 400) = true := by simp; omega
                go_wp2_with fail
                refine (wdtick S.out (by omega)).mono ?_
                rintro e w8 ⟨ra, rc, rs, rfl, h8, hm, hnd, -⟩
                clear g1 S
                by_cases hGt : t + 1 = G
                · have hrs : rs = [5] := Wl.only_one hnd fun y => by
                    rw [hm, d5_is]; omega
                  subst hrs
                  have S8 : Hid (WD w1 wb w1.heap.size (w1.heap.size + 2) w8 (d5 (k + G)) (k + (t + 1)) (1 + 1) (.slice ra 1 rc) [5]) := h8
                  have I8 : Hid (Ints w8 w8.heap.size ra 1 [5]) := nats_ints h8.row (by simp) (by simp)
                  clear h8 hm hnd
                  have HC : Hid (∀ n, Calls Tryd.prog 13 #[.slice ra 1 rc, .int .i64 5] (w8.drewN n) fun e w' => e = .returned (.bool true) ∧ w' = w8.drewN n) := Lib.hid (fun n => by
                    refine (has_is ra 1 rc [5] 5 _ _ (I8.out.below (below_drewN (Below.refl _ _) n))).mono fun _ _ h => ⟨h.1, h.2.symm⟩)
                  have g3 : ((t : Int) + 1 == (G : Int)) = true := by rw [beq_iff_eq]; omega
                  go_wp2_with fail
                  go_quiet ((first | (go_at_call 13; exact Calls.quiet_of_same (HC.out _))))
                  have S9 := Lib.hid (S8.out.drewN nq)
                  clear g3
                  generalize w8.drewN nq = w9 at *
                  go_wp2_with fail
                  go_roundw
                  case rel => exact ⟨t + 1, _, _, by omega, by first | go_num | rfl | simp, S9.out⟩
                  case measure => simp [intOf]; omega
                · have hrs : rs = [] := List.eq_nil_iff_forall_not_mem.2 fun y hy => by
                    have := (d5_is _ y _).1 ((hm y).1 hy)
                    omega
                  subst hrs
                  have S8 : Hid (WD w1 wb w1.heap.size (w1.heap.size + 2) w8 (d5 (k + G)) (k + (t + 1)) (1 + 1) (.slice ra 0 rc) []) := h8
                  have I8 : Hid (Ints w8 w8.heap.size ra 0 []) := nats_ints h8.row (by simp) (by simp)
                  clear h8 hm hnd
                  have HC : Hid (∀ n, Calls Tryd.prog 13 #[.slice ra 0 rc, .int .i64 5] (w8.drewN n) fun e w' => e = .returned (.bool false) ∧ w' = w8.drewN n) := Lib.hid (fun n => by
                    refine (has_is ra 0 rc [] 5 _ _ (I8.out.below (below_drewN (Below.refl _ _) n))).mono fun _ _ h => ⟨h.1, h.2.symm⟩)
                  have g3 : ((t : Int) + 1 == (G : Int)) = false := by rw [beq_eq_false_iff_ne]; omega
                  go_wp2_with fail
                  go_quiet ((first | (go_at_call 13; exact Calls.quiet_of_same (HC.out _))))
                  have S9 := Lib.hid (S8.out.drewN nq)
                  clear g3
                  generalize w8.drewN nq = w9 at *
                  go_wp2_with fail
                  go_roundw
                  case rel => exact ⟨t + 1, _, _, by omega, by first | go_num | rfl | simp, S9.out⟩
                  case measure => simp [intOf]; omega
              · obtain rfl : t = 400 := by omega
                go_wp2_with fail
                go_ret
                exact ⟨rfl, B1.out.trans (S.out.bl.mono B1.out.size)⟩
          · have HZ : Hid (((5 : Int) < 0 ∨ 19 < (5 : Int)) ∨ ag < 1 ∨ 400 < ag) := Lib.hid (by omega)
            have HO : Hid (ag < 1 ∨ 400 < ag) := Lib.hid (by omega)
            clear hG
            refine (wstart_no _ _ _ _ HZ.out).mono ?_
            rintro e w7 ⟨rfl, rfl⟩
            have S7 : Hid (WD w1 wb w1.heap.size (w1.heap.size + 2) w6 (fun _ => none) (k + 0) 1 x xl) := S6.out
            clear S6
            go_wp2_with fail
            go_loopw [11] (fun v11 wx => ∃ (t : Nat) (x : Value) (xl : List Nat), t ≤ 400 ∧ v11 = .int .i64 ((t : Int) + 1) ∧ WD w1 wb w1.heap.size (w1.heap.size + 2) wx (fun _ => none) (k + t) 1 x xl) (fun v11 _ => 401 - (intOf v11).toNat)
            case atStart => exact ⟨0, _, _, by omega, rfl, S7.out⟩
            case round =>
              clear S7
              obtain ⟨t, x, xl, ht, rfl, hS⟩ := hrel
              have S := Lib.hid hS; clear hS
              by_cases hlt : t < 400
              · have g1 : decide ((t : Int) + 1 ≤ 400) = true := by simp; omega
                go_wp2_with fail
                refine (wdtick S.out (by omega)).mono ?_
                rintro e w8 ⟨ra, rc, rs, rfl, h8, hm, hnd, -⟩
                clear g1 S
                have hrs : rs = [] := List.eq_nil_iff_forall_not_mem.2 fun y hy => by
                  have := (hm y).1 hy
                  simp at this
                subst hrs
                have S8 : Hid (WD w1 wb w1.heap.size (w1.heap.size + 2) w8 (fun _ => none) (k + (t + 1)) 1 (.slice ra 0 rc) []) := h8
                have I8 : Hid (Ints w8 w8.heap.size ra 0 []) := nats_ints h8.row (by simp) (by simp)
                clear h8 hm hnd
                have HC : Hid (∀ n, Calls Tryd.prog 13 #[.slice ra 0 rc, .int .i64 5] (w8.drewN n) fun e w' => e = .returned (.bool false) ∧ w' = w8.drewN n) := Lib.hid (fun n => by
                  refine (has_is ra 0 rc [] 5 _ _ (I8.out.below (below_drewN (Below.refl _ _) n))).mono fun _ _ h => ⟨h.1, h.2.symm⟩)
                go_wp2_with fail
                go_quiet ((first | (go_at_call 13; exact Calls.quiet_of_same (HC.out _))))
                have S9 := Lib.hid (S8.out.drewN nq)
                generalize w8.drewN nq = w9 at *
                go_wp2_with fail
                go_roundw
                case rel => exact ⟨t + 1, _, _, by omega, by first | go_num | rfl | simp, S9.out⟩
                case measure => simp [intOf]; omega
              · obtain rfl : t = 400 := by omega
                go_wp2_with fail
                refine (in_out _ _ _ _ HO.out).mono ?_
                rintro e w8 ⟨rfl, rfl⟩
                go_wp2_with fail
                go_ret
                exact ⟨rfl, B1.out.trans (S.out.bl.mono B1.out.size)⟩
  · have HZ : Hid (((5 : Int) < 0 ∨ 19 < (5 : Int)) ∨ ah < 1 ∨ 400 < ah) := Lib.hid (by omega)
    have HO : Hid (ah < 1 ∨ 400 < ah) := Lib.hid (by omega)
    clear hA
    refine (wstart_no _ _ _ _ HZ.out).mono ?_
    rintro e w3 ⟨rfl, rfl⟩
    go_wp2_with fail
    refine (in_out _ _ _ _ HO.out).mono ?_
    rintro e w3 ⟨rfl, rfl⟩
    go_wp2_with fail
    go_ret
    exact ⟨rfl, B1.out.trans (H2.out.bl.mono B1.out.size)⟩
end Go.Proofs.YtmmoolcnpbebhaaDoor.wheelStop
