/- WheelDue returns true for every input: the walk. -/
import Derived.Test.YtmmoolcnpbebhaaWheelF
import Derived.BigQuiet
import Derived.Deep.QuietTactic
namespace Go.Proofs.Ytmmoolcnpbebhaa.wheelDue
open Go.RowKit
set_option linter.unusedSimpArgs false
set_option linter.unusedVariables false

/-- When the first j of the others are due, started at T. -/
def dO (T : Nat) (zs : List Int) (j : Nat) : Nat → Option Nat := fun y => if y < j ∧ 1 ≤ zs.getD y 0 ∧ zs.getD y 0 ≤ 400 then some (T + (zs.getD y 0).toNat) else none
theorem dO_zero (T : Nat) (zs : List Int) : dO T zs 0 = fun _ => none := by
  funext y; unfold dO; rw [if_neg (by omega)]
theorem dO_more {T : Nat} {zs : List Int} {j y : Nat} (h : y ≠ j) : dO T zs (j + 1) y = dO T zs j y := by
  unfold dO
  by_cases hy : y < j ∧ 1 ≤ zs.getD y 0 ∧ zs.getD y 0 ≤ 400
  · rw [if_pos hy, if_pos ⟨by omega, hy.2⟩]
  · rw [if_neg hy, if_neg (fun q => hy ⟨by omega, q.2⟩)]
theorem dO_skip {T : Nat} {zs : List Int} {j : Nat} (h : ¬ (1 ≤ zs.getD j 0 ∧ zs.getD j 0 ≤ 400)) : dO T zs (j + 1) = dO T zs j := by
  funext y
  by_cases e : y = j
  · subst e
    unfold dO
    rw [if_neg (fun q => h q.2), if_neg (fun q => h q.2)]
  · exact dO_more e
theorem dO_step {T : Nat} {zs : List Int} {j : Nat} (h : 1 ≤ zs.getD j 0 ∧ zs.getD j 0 ≤ 400) : dO T zs (j + 1) = Wl.upd (dO T zs j) j (some (T + (zs.getD j 0).toNat)) := by
  funext y
  by_cases e : y = j
  · subst e
    rw [Wl.upd_same]; unfold dO; rw [if_pos ⟨by omega, h⟩]
  · rw [Wl.upd_other e, dO_more e]
theorem dO_none {T : Nat} {zs : List Int} {j y : Nat} (h : j ≤ y) : dO T zs j y = none := by
  unfold dO; rw [if_neg (by omega)]
/-- All of them. -/
def dA (T : Nat) (zs : List Int) (j A : Nat) : Nat → Option Nat := Wl.upd (dO T zs j) 19 (some (T + A))
theorem dA_19 {T : Nat} {zs : List Int} {j A : Nat} : dA T zs j A 19 = some (T + A) := Wl.upd_same _ _ _
theorem dA_at {T : Nat} {zs : List Int} {j A i t : Nat} (hi : i < j) (hj : j ≤ 19) (h1 : 1 ≤ t) (h2 : t ≤ 400) : dA T zs j A i = some (T + t) ↔ zs.getD i 0 = (t : Int) := by
  unfold dA
  rw [Wl.upd_other (by omega)]
  unfold dO
  by_cases h : i < j ∧ 1 ≤ zs.getD i 0 ∧ zs.getD i 0 ≤ 400
  · rw [if_pos h]
    simp only [Option.some.injEq]
    omega
  · rw [if_neg h]
    simp only [reduceCtorEq, false_iff]
    omega
theorem mem_cast {l : List Nat} {n : Nat} : ((n : Nat) : Int) ∈ l.map (fun i : Nat => (i : Int)) ↔ n ∈ l := by
  simp only [List.mem_map]
  constructor
  · rintro ⟨x, hx, e⟩
    have : x = n := by omega
    exact this ▸ hx
  · intro h; exact ⟨n, h, rfl⟩

set_option maxHeartbeats 16000000 in
set_option maxRecDepth 100000 in
theorem walk (ah wt : Int) (a : Option Addr) (len cap : Nat) (zs : List Int) (w : World) (hah : -9223372036854775808 ≤ ah ∧ ah ≤ 9223372036854775807) (hwt : -9223372036854775808 ≤ wt ∧ wt ≤ 9223372036854775807) (hI : Ints w w.heap.size a len zs) :
    Calls Try.prog 3 #[.int .i64 ah, .int .i64 wt, .slice a len cap] w fun e w' => e = .returned (.bool true) ∧ Below w.heap.size w w' := by
  have hroom := hI.room
  have HI := Lib.hid hI; clear hI
  go_enter Try.func3, Try.ntmps3
  go_wp2_with fail
  refine (wheelFact_any w).mono ?_
  rintro e w1 ⟨rfl, hB1⟩
  have B1 := Lib.hid hB1
  have I1 := Lib.hid (HI.out.later hB1)
  clear hB1 HI
  go_wp2_with fail
  refine (wdnew w1).mono ?_
  rintro e w2 ⟨rfl, h2⟩
  have H2 := Lib.hid h2; clear h2
  obtain ⟨wb, hwb⟩ : ∃ wb, wb = w1.heap.size + 1 := ⟨_, rfl⟩
  rw [← hwb] at H2 ⊢
  clear hwb
  go_wp2_with fail
  go_loopw [9] (fun v9 wx => ∃ (k : Nat) (x : Value) (xl : List Nat), k ≤ 900 ∧ v9 = .int .i64 (k : Int) ∧ WD w1 wb w1.heap.size (w1.heap.size + 2) wx (fun _ => none) k 0 x xl) (fun v9 _ => 900 - (intOf v9).toNat)
  case atStart => exact ⟨0, _, _, by omega, rfl, H2.out⟩
  case round =>
    clear H2
    obtain ⟨k, x, xl, hk, rfl, hS⟩ := hrel
    have S := Lib.hid hS; clear hS
    by_cases hlt : (k : Int) < wt ∧ k < 900
    · obtain ⟨hl1, hl2⟩ := hlt
      have g1 : decide ((k : Int) < wt) = true := by simp; omega
      have g2 : decide ((k : Int) < 900) = true := by simp; omega
      go_wp2_with fail
      refine (wdtick S.out (by omega)).mono ?_
      rintro e w3 ⟨ra, rc, rs, rfl, h3, hm, -⟩
      have hrs : rs = [] := List.eq_nil_iff_forall_not_mem.2 fun y hy => by
        have := (hm y).1 hy
        simp at this
      subst hrs
      have S3 := Lib.hid h3
      clear h3 hm S g1 g2
      go_wp2_with fail
      go_roundw
      case rel => exact ⟨k + 1, _, _, by omega, by first | go_num | rfl | simp, S3.out⟩
      case measure => simp [intOf]; omega
    · have S0 : Hid (WD w1 wb w1.heap.size (w1.heap.size + 2) wr (dO k zs 0) k 0 x xl) := Lib.hid (by rw [dO_zero]; exact S.out)
      clear S
      by_cases g0 : (k : Int) < wt
      · have g1 : decide ((k : Int) < wt) = true := by simp; omega
        have g2 : decide ((k : Int) < 900) = false := by simp; omega
        clear hlt g0
        go_wp2_with fail
        clear g1 g2
        go_loopw [10] (fun v10 wx => ∃ (j nm : Nat) (x : Value) (xl : List Nat), j ≤ 19 ∧ j ≤ len ∧ nm ≤ j ∧ v10 = .int .i64 (j : Int) ∧ WD w1 wb w1.heap.size (w1.heap.size + 2) wx (dO k zs j) k nm x xl) (fun v10 _ => 19 - (intOf v10).toNat)
        case atStart => exact ⟨0, 0, _, _, by omega, by omega, by omega, rfl, S0.out⟩
        case round =>
          clear S0
          obtain ⟨j, nm, x, xl, hj19, hjl, hnm, rfl, hS⟩ := hrel
          have S := Lib.hid hS; clear hS
          by_cases hlt : j < len ∧ j < 19
          · obtain ⟨hl1, hl2⟩ := hlt
            have g1 : decide ((j : Int) < (len : Int)) = true := by simp; omega
            have g2 : decide ((j : Int) < 19) = true := by simp; omega
            have HJ := Lib.hid (I1.out.later S.out.bl)
            obtain ⟨b, off, rfl, hb, hc⟩ := HJ.out.cell j hl1
            have hfit := HJ.out.fits j
            by_cases hz : 1 ≤ zs.getD j 0 ∧ zs.getD j 0 ≤ 400
            · have HST : Hid (dO k zs (j + 1) = Wl.upd (dO k zs j) j (some (k + (zs.getD j 0).toNat))) := dO_step hz
              obtain ⟨m, hm⟩ : ∃ m : Nat, zs.getD j 0 = (m : Int) := ⟨(zs.getD j 0).toNat, by omega⟩
              rw [hm] at hz hc
              have HST2 : Hid (dO k zs (j + 1) = Wl.upd (dO k zs j) j (some (k + m))) := Lib.hid (by rw [HST.out, hm]; rfl)
              have HNN : Hid (Wl.after (dO k zs j) k j = none) := Wl.after_none.2 fun a ha => by rw [dO_none (Nat.le_refl _)] at ha; simp at ha
              clear HST hm hfit HJ
              go_wp2_with fail
              refine (wdstart_yes S.out j m (by omega) (by omega) (by omega) HNN.out (by omega) (by omega)).mono ?_
              rintro e w3 ⟨rfl, h3⟩
              have S3 : Hid (WD w1 wb w1.heap.size (w1.heap.size + 2) w3 (dO k zs (j + 1)) k (nm + 1) x xl) := Lib.hid (by rw [HST2.out]; exact h3)
              clear h3 S hc g1 g2
              go_wp2_with fail
              go_roundw
              case rel => exact ⟨j + 1, nm + 1, _, _, by omega, by omega, by omega, by first | go_num | rfl | simp, S3.out⟩
              case measure => simp [intOf]; omega
            · have S3 : Hid (WD w1 wb w1.heap.size (w1.heap.size + 2) wr (dO k zs (j + 1)) k nm x xl) := Lib.hid (by rw [dO_skip hz]; exact S.out)
              have HZ : Hid (((j : Int) < 0 ∨ 19 < (j : Int)) ∨ zs.getD j 0 < 1 ∨ 400 < zs.getD j 0) := Lib.hid (by omega)
              clear hz S HJ
              generalize zs.getD j 0 = z at hc hfit HZ
              go_wp2_with fail
              refine (wstart_no _ _ _ _ HZ.out).mono ?_
              rintro e w3 ⟨rfl, rfl⟩
              clear g1 g2 hc hfit HZ
              go_wp2_with fail
              go_roundw
              case rel => exact ⟨j + 1, nm, _, _, by omega, by omega, by omega, by first | go_num | rfl | simp, S3.out⟩
              case measure => simp [intOf]; omega
          · have hji : ∀ i : Nat, (i < len ∧ i < 19) ↔ i < j := fun i => by omega
            have HJI := Lib.hid hji
            clear hji
            by_cases g0 : (j : Int) < (len : Int)
            · have g1 : decide ((j : Int) < (len : Int)) = true := by simp; omega
              have g2 : decide ((j : Int) < 19) = false := by simp; omega
              have g3 : j < len := by omega
              clear hlt g0
              go_wp2_with fail
              clear g1 g2 g3
              by_cases hA : 1 ≤ ah ∧ ah ≤ 400
              · obtain ⟨A, rfl⟩ : ∃ A : Nat, ah = (A : Int) := ⟨ah.toNat, by omega⟩
                have HNN : Hid (Wl.after (dO k zs j) k 19 = none) := Wl.after_none.2 fun a ha => by rw [dO_none hj19] at ha; simp at ha
                refine (wdstart_yes S.out 19 A (by omega) (by omega) (by omega) HNN.out (by omega) (by omega)).mono ?_
                rintro e w3 ⟨rfl, h3⟩
                have S3 : Hid (WD w1 wb w1.heap.size (w1.heap.size + 2) w3 (dA k zs j A) (k + 0) (nm + 1) x xl) := h3
                clear h3 S HNN
                go_wp2_with fail
                go_loopw [11] (fun v11 wx => ∃ (t : Nat) (x : Value) (xl : List Nat), t ≤ 400 ∧ v11 = .int .i64 ((t : Int) + 1) ∧ WD w1 wb w1.heap.size (w1.heap.size + 2) wx (dA k zs j A) (k + t) (nm + 1) x xl) (fun v11 _ => 401 - (intOf v11).toNat)
                case atStart => exact ⟨0, _, _, by omega, rfl, S3.out⟩
                case round =>
                  clear S3
                  obtain ⟨t, x, xl, ht, rfl, hS⟩ := hrel
                  have S := Lib.hid hS; clear hS
                  by_cases hlt : t < 400
                  · have g1 : decide ((t : Int) + 1 ≤ 400) = true := by simp; omega
                    go_wp2_with fail
                    refine (wdtick S.out (by omega)).mono ?_
                    rintro e w4 ⟨ra, rc, rs, rfl, h4, hm, hnd, -, hrl, hr19⟩
                    have S4 : Hid (WD w1 wb w1.heap.size (w1.heap.size + 2) w4 (dA k zs j A) (k + (t + 1)) (nm + 1) (.slice ra rs.length rc) rs) := h4
                    have RI : Hid (Ints w4 w4.heap.size ra rs.length (rs.map fun i : Nat => (i : Int))) := nats_ints h4.row (by omega) (fun x hx => by have := hr19 x hx; omega)
                    have HB : Hid (∀ y, y ∈ rs ↔ dA k zs j A y = some (k + (t + 1))) := hm
                    have H19 : Hid (decide ((19 : Int) ∈ rs.map fun i : Nat => (i : Int)) = ((t : Int) + 1 == (A : Int))) := Lib.hid (by
                      have e1 : (19 : Int) ∈ rs.map (fun i : Nat => (i : Int)) ↔ 19 ∈ rs := mem_cast (n := 19)
                      have e2 := hm 19
                      rw [dA_19] at e2
                      simp only [Option.some.injEq] at e2
                      rw [Bool.eq_iff_iff, decide_eq_true_eq, beq_iff_eq, e1, e2]
                      omega)
                    obtain ⟨rl, hrl2⟩ : ∃ rl, rl = rs.length := ⟨_, rfl⟩
                    rw [← hrl2] at S4 RI ⊢
                    have HRL := Lib.hid hrl2
                    have HRM := Lib.hid hrl
                    have HRN := Lib.hid hr19
                    clear h4 hm hnd hrl hr19 g1 S hrl2
                    go_wp2_with fail
                    refine (has_is _ _ _ _ _ _ _ RI.out).mono ?_
                    rintro e w5 ⟨rfl, rfl⟩
                    rw [H19.out]
                    clear H19
                    go_wp2_with fail
                    go_loopw [13] (fun v13 wx => ∃ i : Nat, i ≤ j ∧ v13 = .int .i64 (i : Int) ∧ WD w1 wb w1.heap.size (w1.heap.size + 2) wx (dA k zs j A) (k + (t + 1)) (nm + 1) (.slice ra rl rc) rs) (fun v13 _ => 19 - (intOf v13).toNat)
                    case atStart => exact ⟨0, by omega, rfl, S4.out⟩
                    case round =>
                      clear S4
                      obtain ⟨i, hij, rfl, hS⟩ := hrel
                      have S := Lib.hid hS; clear hS
                      by_cases hlt2 : i < j
                      · obtain ⟨hl1, hl2⟩ := (HJI.out i).2 hlt2
                        have g1 : decide ((i : Int) < (len : Int)) = true := by simp; omega
                        have g2 : decide ((i : Int) < 19) = true := by simp; omega
                        have HJ := Lib.hid (I1.out.later S.out.bl)
                        obtain ⟨b, off, rfl, hb, hc⟩ := HJ.out.cell i hl1
                        have RI : Hid (Ints wr wr.heap.size ra rl (rs.map fun i : Nat => (i : Int))) := Lib.hid (by
                          have Z := S.out.row
                          rw [HRL.out] at Z ⊢
                          exact nats_ints Z (by have := HRM.out; omega) (fun x hx => by have := HRN.out x hx; omega))
                        have HBI : Hid (decide ((i : Int) ∈ rs.map fun i : Nat => (i : Int)) = (zs.getD i 0 == (t : Int) + 1)) := Lib.hid (by
                          have e1 : (i : Int) ∈ rs.map (fun i : Nat => (i : Int)) ↔ i ∈ rs := mem_cast
                          have e2 := HB.out i
                          have e3 := dA_at (T := k) (zs := zs) (A := A) hlt2 hj19 (t := t + 1) (by omega) (by omega)
                          rw [Bool.eq_iff_iff, decide_eq_true_eq, beq_iff_eq, e1, e2, e3]
                          omega)
                        clear HJ
                        have HC : Hid (∀ n, Calls Try.prog 10 #[.slice ra rl rc, .int .i64 i] (wr.drewN n) fun e w' => e = .returned (.bool (zs.getD i 0 == (t : Int) + 1)) ∧ w' = wr.drewN n) := Lib.hid (fun n => by
                          refine (has_is ra rl rc _ i _ _ (RI.out.below (below_drewN (Below.refl _ _) n))).mono fun _ _ h => ⟨by rw [← HBI.out]; exact h.1, h.2.symm⟩)
                        generalize zs.getD i 0 = z at hc HC
                        go_wp2_with fail
                        go_quiet ((first | (go_at_call 10; exact Calls.quiet_of_same (HC.out _))))
                        have S5 := Lib.hid (S.out.drewN nq)
                        clear hc
                        generalize wr.drewN nq = w6 at *
                        go_wp2_with fail
                        go_roundw
                        case rel => exact ⟨i + 1, by omega, by first | go_num | rfl | simp, S5.out⟩
                        case measure => simp [intOf]; omega
                      · obtain rfl : i = j := by omega
                        by_cases g0 : i < len
                        · have g2 : decide ((i : Int) < 19) = false := by have := HJI.out i; simp; omega
                          go_wp2_with fail
                          go_roundw
                          case rel => exact ⟨t + 1, _, _, by omega, by first | go_num | rfl | simp, S.out⟩
                          case measure => simp [intOf]; omega
                        · go_wp2_with fail
                          go_roundw
                          case rel => exact ⟨t + 1, _, _, by omega, by first | go_num | rfl | simp, S.out⟩
                          case measure => simp [intOf]; omega
                  · obtain rfl : t = 400 := by omega
                    have HNN : Hid (Wl.after (dA k zs j A) (k + 400) 19 = none) := Wl.after_none.2 fun a ha => by rw [dA_19] at ha; simp at ha; omega
                    go_wp2_with fail
                    refine (wdleft_no S.out 19 (by omega) HNN.out).mono ?_
                    rintro e w4 ⟨rfl, rfl⟩
                    go_wp2_with fail
                    go_ret
                    exact ⟨rfl, B1.out.trans (S.out.bl.mono B1.out.size)⟩
              · have HZ : Hid (((19 : Int) < 0 ∨ 19 < (19 : Int)) ∨ ah < 1 ∨ 400 < ah) := Lib.hid (by omega)
                have HO : Hid (ah < 1 ∨ 400 < ah) := Lib.hid (by omega)
                clear hA
                refine (wstart_no _ _ _ _ HZ.out).mono ?_
                rintro e w3 ⟨rfl, rfl⟩
                go_wp2_with fail
                refine (in_out _ _ _ _ HO.out).mono ?_
                rintro e w3 ⟨rfl, rfl⟩
                go_wp2_with fail
                go_ret
                exact ⟨rfl, B1.out.trans (S.out.bl.mono B1.out.size)⟩
            · have g1 : decide ((j : Int) < (len : Int)) = false := by simp; omega
              have g3 : ¬ j < len := by omega
              clear hlt g0
              go_wp2_with fail
              clear g1 g3
              by_cases hA : 1 ≤ ah ∧ ah ≤ 400
              · obtain ⟨A, rfl⟩ : ∃ A : Nat, ah = (A : Int) := ⟨ah.toNat, by omega⟩
                have HNN : Hid (Wl.after (dO k zs j) k 19 = none) := Wl.after_none.2 fun a ha => by rw [dO_none hj19] at ha; simp at ha
                refine (wdstart_yes S.out 19 A (by omega) (by omega) (by omega) HNN.out (by omega) (by omega)).mono ?_
                rintro e w3 ⟨rfl, h3⟩
                have S3 : Hid (WD w1 wb w1.heap.size (w1.heap.size + 2) w3 (dA k zs j A) (k + 0) (nm + 1) x xl) := h3
                clear h3 S HNN
                go_wp2_with fail
                go_loopw [11] (fun v11 wx => ∃ (t : Nat) (x : Value) (xl : List Nat), t ≤ 400 ∧ v11 = .int .i64 ((t : Int) + 1) ∧ WD w1 wb w1.heap.size (w1.heap.size + 2) wx (dA k zs j A) (k + t) (nm + 1) x xl) (fun v11 _ => 401 - (intOf v11).toNat)
                case atStart => exact ⟨0, _, _, by omega, rfl, S3.out⟩
                case round =>
                  clear S3
                  obtain ⟨t, x, xl, ht, rfl, hS⟩ := hrel
                  have S := Lib.hid hS; clear hS
                  by_cases hlt : t < 400
                  · have g1 : decide ((t : Int) + 1 ≤ 400) = true := by simp; omega
                    go_wp2_with fail
                    refine (wdtick S.out (by omega)).mono ?_
                    rintro e w4 ⟨ra, rc, rs, rfl, h4, hm, hnd, -, hrl, hr19⟩
                    have S4 : Hid (WD w1 wb w1.heap.size (w1.heap.size + 2) w4 (dA k zs j A) (k + (t + 1)) (nm + 1) (.slice ra rs.length rc) rs) := h4
                    have RI : Hid (Ints w4 w4.heap.size ra rs.length (rs.map fun i : Nat => (i : Int))) := nats_ints h4.row (by omega) (fun x hx => by have := hr19 x hx; omega)
                    have HB : Hid (∀ y, y ∈ rs ↔ dA k zs j A y = some (k + (t + 1))) := hm
                    have H19 : Hid (decide ((19 : Int) ∈ rs.map fun i : Nat => (i : Int)) = ((t : Int) + 1 == (A : Int))) := Lib.hid (by
                      have e1 : (19 : Int) ∈ rs.map (fun i : Nat => (i : Int)) ↔ 19 ∈ rs := mem_cast (n := 19)
                      have e2 := hm 19
                      rw [dA_19] at e2
                      simp only [Option.some.injEq] at e2
                      rw [Bool.eq_iff_iff, decide_eq_true_eq, beq_iff_eq, e1, e2]
                      omega)
                    obtain ⟨rl, hrl2⟩ : ∃ rl, rl = rs.length := ⟨_, rfl⟩
                    rw [← hrl2] at S4 RI ⊢
                    have HRL := Lib.hid hrl2
                    have HRM := Lib.hid hrl
                    have HRN := Lib.hid hr19
                    clear h4 hm hnd hrl hr19 g1 S hrl2
                    go_wp2_with fail
                    refine (has_is _ _ _ _ _ _ _ RI.out).mono ?_
                    rintro e w5 ⟨rfl, rfl⟩
                    rw [H19.out]
                    clear H19
                    go_wp2_with fail
                    go_loopw [13] (fun v13 wx => ∃ i : Nat, i ≤ j ∧ v13 = .int .i64 (i : Int) ∧ WD w1 wb w1.heap.size (w1.heap.size + 2) wx (dA k zs j A) (k + (t + 1)) (nm + 1) (.slice ra rl rc) rs) (fun v13 _ => 19 - (intOf v13).toNat)
                    case atStart => exact ⟨0, by omega, rfl, S4.out⟩
                    case round =>
                      clear S4
                      obtain ⟨i, hij, rfl, hS⟩ := hrel
                      have S := Lib.hid hS; clear hS
                      by_cases hlt2 : i < j
                      · obtain ⟨hl1, hl2⟩ := (HJI.out i).2 hlt2
                        have g1 : decide ((i : Int) < (len : Int)) = true := by simp; omega
                        have g2 : decide ((i : Int) < 19) = true := by simp; omega
                        have HJ := Lib.hid (I1.out.later S.out.bl)
                        obtain ⟨b, off, rfl, hb, hc⟩ := HJ.out.cell i hl1
                        have RI : Hid (Ints wr wr.heap.size ra rl (rs.map fun i : Nat => (i : Int))) := Lib.hid (by
                          have Z := S.out.row
                          rw [HRL.out] at Z ⊢
                          exact nats_ints Z (by have := HRM.out; omega) (fun x hx => by have := HRN.out x hx; omega))
                        have HBI : Hid (decide ((i : Int) ∈ rs.map fun i : Nat => (i : Int)) = (zs.getD i 0 == (t : Int) + 1)) := Lib.hid (by
                          have e1 : (i : Int) ∈ rs.map (fun i : Nat => (i : Int)) ↔ i ∈ rs := mem_cast
                          have e2 := HB.out i
                          have e3 := dA_at (T := k) (zs := zs) (A := A) hlt2 hj19 (t := t + 1) (by omega) (by omega)
                          rw [Bool.eq_iff_iff, decide_eq_true_eq, beq_iff_eq, e1, e2, e3]
                          omega)
                        clear HJ
                        have HC : Hid (∀ n, Calls Try.prog 10 #[.slice ra rl rc, .int .i64 i] (wr.drewN n) fun e w' => e = .returned (.bool (zs.getD i 0 == (t : Int) + 1)) ∧ w' = wr.drewN n) := Lib.hid (fun n => by
                          refine (has_is ra rl rc _ i _ _ (RI.out.below (below_drewN (Below.refl _ _) n))).mono fun _ _ h => ⟨by rw [← HBI.out]; exact h.1, h.2.symm⟩)
                        generalize zs.getD i 0 = z at hc HC
                        go_wp2_with fail
                        go_quiet ((first | (go_at_call 10; exact Calls.quiet_of_same (HC.out _))))
                        have S5 := Lib.hid (S.out.drewN nq)
                        clear hc
                        generalize wr.drewN nq = w6 at *
                        go_wp2_with fail
                        go_roundw
                        case rel => exact ⟨i + 1, by omega, by first | go_num | rfl | simp, S5.out⟩
                        case measure => simp [intOf]; omega
                      · obtain rfl : i = j := by omega
                        by_cases g0 : i < len
                        · have g2 : decide ((i : Int) < 19) = false := by have := HJI.out i; simp; omega
                          go_wp2_with fail
                          go_roundw
                          case rel => exact ⟨t + 1, _, _, by omega, by first | go_num | rfl | simp, S.out⟩
                          case measure => simp [intOf]; omega
                        · go_wp2_with fail
                          go_roundw
                          case rel => exact ⟨t + 1, _, _, by omega, by first | go_num | rfl | simp, S.out⟩
                          case measure => simp [intOf]; omega
                  · obtain rfl : t = 400 := by omega
                    have HNN : Hid (Wl.after (dA k zs j A) (k + 400) 19 = none) := Wl.after_none.2 fun a ha => by rw [dA_19] at ha; simp at ha; omega
                    go_wp2_with fail
                    refine (wdleft_no S.out 19 (by omega) HNN.out).mono ?_
                    rintro e w4 ⟨rfl, rfl⟩
                    go_wp2_with fail
                    go_ret
                    exact ⟨rfl, B1.out.trans (S.out.bl.mono B1.out.size)⟩
              · have HZ : Hid (((19 : Int) < 0 ∨ 19 < (19 : Int)) ∨ ah < 1 ∨ 400 < ah) := Lib.hid (by omega)
                have HO : Hid (ah < 1 ∨ 400 < ah) := Lib.hid (by omega)
                clear hA
                refine (wstart_no _ _ _ _ HZ.out).mono ?_
                rintro e w3 ⟨rfl, rfl⟩
                go_wp2_with fail
                refine (in_out _ _ _ _ HO.out).mono ?_
                rintro e w3 ⟨rfl, rfl⟩
                go_wp2_with fail
                go_ret
                exact ⟨rfl, B1.out.trans (S.out.bl.mono B1.out.size)⟩
      · have g1 : decide ((k : Int) < wt) = false := by simp; omega
        clear hlt g0
        go_wp2_with fail
        clear g1
        go_loopw [10] (fun v10 wx => ∃ (j nm : Nat) (x : Value) (xl : List Nat), j ≤ 19 ∧ j ≤ len ∧ nm ≤ j ∧ v10 = .int .i64 (j : Int) ∧ WD w1 wb w1.heap.size (w1.heap.size + 2) wx (dO k zs j) k nm x xl) (fun v10 _ => 19 - (intOf v10).toNat)
        case atStart => exact ⟨0, 0, _, _, by omega, by omega, by omega, rfl, S0.out⟩
        case round =>
          clear S0
          obtain ⟨j, nm, x, xl, hj19, hjl, hnm, rfl, hS⟩ := hrel
          have S := Lib.hid hS; clear hS
          by_cases hlt : j < len ∧ j < 19
          · obtain ⟨hl1, hl2⟩ := hlt
            have g1 : decide ((j : Int) < (len : Int)) = true := by simp; omega
            have g2 : decide ((j : Int) < 19) = true := by simp; omega
            have HJ := Lib.hid (I1.out.later S.out.bl)
            obtain ⟨b, off, rfl, hb, hc⟩ := HJ.out.cell j hl1
            have hfit := HJ.out.fits j
            by_cases hz : 1 ≤ zs.getD j 0 ∧ zs.getD j 0 ≤ 400
            · have HST : Hid (dO k zs (j + 1) = Wl.upd (dO k zs j) j (some (k + (zs.getD j 0).toNat))) := dO_step hz
              obtain ⟨m, hm⟩ : ∃ m : Nat, zs.getD j 0 = (m : Int) := ⟨(zs.getD j 0).toNat, by omega⟩
              rw [hm] at hz hc
              have HST2 : Hid (dO k zs (j + 1) = Wl.upd (dO k zs j) j (some (k + m))) := Lib.hid (by rw [HST.out, hm]; rfl)
              have HNN : Hid (Wl.after (dO k zs j) k j = none) := Wl.after_none.2 fun a ha => by rw [dO_none (Nat.le_refl _)] at ha; simp at ha
              clear HST hm hfit HJ
              go_wp2_with fail
              refine (wdstart_yes S.out j m (by omega) (by omega) (by omega) HNN.out (by omega) (by omega)).mono ?_
              rintro e w3 ⟨rfl, h3⟩
              have S3 : Hid (WD w1 wb w1.heap.size (w1.heap.size + 2) w3 (dO k zs (j + 1)) k (nm + 1) x xl) := Lib.hid (by rw [HST2.out]; exact h3)
              clear h3 S hc g1 g2
              go_wp2_with fail
              go_roundw
              case rel => exact ⟨j + 1, nm + 1, _, _, by omega, by omega, by omega, by first | go_num | rfl | simp, S3.out⟩
              case measure => simp [intOf]; omega
            · have S3 : Hid (WD w1 wb w1.heap.size (w1.heap.size + 2) wr (dO k zs (j + 1)) k nm x xl) := Lib.hid (by rw [dO_skip hz]; exact S.out)
              have HZ : Hid (((j : Int) < 0 ∨ 19 < (j : Int)) ∨ zs.getD j 0 < 1 ∨ 400 < zs.getD j 0) := Lib.hid (by omega)
              clear hz S HJ
              generalize zs.getD j 0 = z at hc hfit HZ
              go_wp2_with fail
              refine (wstart_no _ _ _ _ HZ.out).mono ?_
              rintro e w3 ⟨rfl, rfl⟩
              clear g1 g2 hc hfit HZ
              go_wp2_with fail
              go_roundw
              case rel => exact ⟨j + 1, nm, _, _, by omega, by omega, by omega, by first | go_num | rfl | simp, S3.out⟩
              case measure => simp [intOf]; omega
          · have hji : ∀ i : Nat, (i < len ∧ i < 19) ↔ i < j := fun i => by omega
            have HJI := Lib.hid hji
            clear hji
            by_cases g0 : (j : Int) < (len : Int)
            · have g1 : decide ((j : Int) < (len : Int)) = true := by simp; omega
              have g2 : decide ((j : Int) < 19) = false := by simp; omega
              have g3 : j < len := by omega
              clear hlt g0
              go_wp2_with fail
              clear g1 g2 g3
              by_cases hA : 1 ≤ ah ∧ ah ≤ 400
              · obtain ⟨A, rfl⟩ : ∃ A : Nat, ah = (A : Int) := ⟨ah.toNat, by omega⟩
                have HNN : Hid (Wl.after (dO k zs j) k 19 = none) := Wl.after_none.2 fun a ha => by rw [dO_none hj19] at ha; simp at ha
                refine (wdstart_yes S.out 19 A (by omega) (by omega) (by omega) HNN.out (by omega) (by omega)).mono ?_
                rintro e w3 ⟨rfl, h3⟩
                have S3 : Hid (WD w1 wb w1.heap.size (w1.heap.size + 2) w3 (dA k zs j A) (k + 0) (nm + 1) x xl) := h3
                clear h3 S HNN
                go_wp2_with fail
                go_loopw [11] (fun v11 wx => ∃ (t : Nat) (x : Value) (xl : List Nat), t ≤ 400 ∧ v11 = .int .i64 ((t : Int) + 1) ∧ WD w1 wb w1.heap.size (w1.heap.size + 2) wx (dA k zs j A) (k + t) (nm + 1) x xl) (fun v11 _ => 401 - (intOf v11).toNat)
                case atStart => exact ⟨0, _, _, by omega, rfl, S3.out⟩
                case round =>
                  clear S3
                  obtain ⟨t, x, xl, ht, rfl, hS⟩ := hrel
                  have S := Lib.hid hS; clear hS
                  by_cases hlt : t < 400
                  · have g1 : decide ((t : Int) + 1 ≤ 400) = true := by simp; omega
                    go_wp2_with fail
                    refine (wdtick S.out (by omega)).mono ?_
                    rintro e w4 ⟨ra, rc, rs, rfl, h4, hm, hnd, -, hrl, hr19⟩
                    have S4 : Hid (WD w1 wb w1.heap.size (w1.heap.size + 2) w4 (dA k zs j A) (k + (t + 1)) (nm + 1) (.slice ra rs.length rc) rs) := h4
                    have RI : Hid (Ints w4 w4.heap.size ra rs.length (rs.map fun i : Nat => (i : Int))) := nats_ints h4.row (by omega) (fun x hx => by have := hr19 x hx; omega)
                    have HB : Hid (∀ y, y ∈ rs ↔ dA k zs j A y = some (k + (t + 1))) := hm
                    have H19 : Hid (decide ((19 : Int) ∈ rs.map fun i : Nat => (i : Int)) = ((t : Int) + 1 == (A : Int))) := Lib.hid (by
                      have e1 : (19 : Int) ∈ rs.map (fun i : Nat => (i : Int)) ↔ 19 ∈ rs := mem_cast (n := 19)
                      have e2 := hm 19
                      rw [dA_19] at e2
                      simp only [Option.some.injEq] at e2
                      rw [Bool.eq_iff_iff, decide_eq_true_eq, beq_iff_eq, e1, e2]
                      omega)
                    obtain ⟨rl, hrl2⟩ : ∃ rl, rl = rs.length := ⟨_, rfl⟩
                    rw [← hrl2] at S4 RI ⊢
                    have HRL := Lib.hid hrl2
                    have HRM := Lib.hid hrl
                    have HRN := Lib.hid hr19
                    clear h4 hm hnd hrl hr19 g1 S hrl2
                    go_wp2_with fail
                    refine (has_is _ _ _ _ _ _ _ RI.out).mono ?_
                    rintro e w5 ⟨rfl, rfl⟩
                    rw [H19.out]
                    clear H19
                    go_wp2_with fail
                    go_loopw [13] (fun v13 wx => ∃ i : Nat, i ≤ j ∧ v13 = .int .i64 (i : Int) ∧ WD w1 wb w1.heap.size (w1.heap.size + 2) wx (dA k zs j A) (k + (t + 1)) (nm + 1) (.slice ra rl rc) rs) (fun v13 _ => 19 - (intOf v13).toNat)
                    case atStart => exact ⟨0, by omega, rfl, S4.out⟩
                    case round =>
                      clear S4
                      obtain ⟨i, hij, rfl, hS⟩ := hrel
                      have S := Lib.hid hS; clear hS
                      by_cases hlt2 : i < j
                      · obtain ⟨hl1, hl2⟩ := (HJI.out i).2 hlt2
                        have g1 : decide ((i : Int) < (len : Int)) = true := by simp; omega
                        have g2 : decide ((i : Int) < 19) = true := by simp; omega
                        have HJ := Lib.hid (I1.out.later S.out.bl)
                        obtain ⟨b, off, rfl, hb, hc⟩ := HJ.out.cell i hl1
                        have RI : Hid (Ints wr wr.heap.size ra rl (rs.map fun i : Nat => (i : Int))) := Lib.hid (by
                          have Z := S.out.row
                          rw [HRL.out] at Z ⊢
                          exact nats_ints Z (by have := HRM.out; omega) (fun x hx => by have := HRN.out x hx; omega))
                        have HBI : Hid (decide ((i : Int) ∈ rs.map fun i : Nat => (i : Int)) = (zs.getD i 0 == (t : Int) + 1)) := Lib.hid (by
                          have e1 : (i : Int) ∈ rs.map (fun i : Nat => (i : Int)) ↔ i ∈ rs := mem_cast
                          have e2 := HB.out i
                          have e3 := dA_at (T := k) (zs := zs) (A := A) hlt2 hj19 (t := t + 1) (by omega) (by omega)
                          rw [Bool.eq_iff_iff, decide_eq_true_eq, beq_iff_eq, e1, e2, e3]
                          omega)
                        clear HJ
                        have HC : Hid (∀ n, Calls Try.prog 10 #[.slice ra rl rc, .int .i64 i] (wr.drewN n) fun e w' => e = .returned (.bool (zs.getD i 0 == (t : Int) + 1)) ∧ w' = wr.drewN n) := Lib.hid (fun n => by
                          refine (has_is ra rl rc _ i _ _ (RI.out.below (below_drewN (Below.refl _ _) n))).mono fun _ _ h => ⟨by rw [← HBI.out]; exact h.1, h.2.symm⟩)
                        generalize zs.getD i 0 = z at hc HC
                        go_wp2_with fail
                        go_quiet ((first | (go_at_call 10; exact Calls.quiet_of_same (HC.out _))))
                        have S5 := Lib.hid (S.out.drewN nq)
                        clear hc
                        generalize wr.drewN nq = w6 at *
                        go_wp2_with fail
                        go_roundw
                        case rel => exact ⟨i + 1, by omega, by first | go_num | rfl | simp, S5.out⟩
                        case measure => simp [intOf]; omega
                      · obtain rfl : i = j := by omega
                        by_cases g0 : i < len
                        · have g2 : decide ((i : Int) < 19) = false := by have := HJI.out i; simp; omega
                          go_wp2_with fail
                          go_roundw
                          case rel => exact ⟨t + 1, _, _, by omega, by first | go_num | rfl | simp, S.out⟩
                          case measure => simp [intOf]; omega
                        · go_wp2_with fail
                          go_roundw
                          case rel => exact ⟨t + 1, _, _, by omega, by first | go_num | rfl | simp, S.out⟩
                          case measure => simp [intOf]; omega
                  · obtain rfl : t = 400 := by omega
                    have HNN : Hid (Wl.after (dA k zs j A) (k + 400) 19 = none) := Wl.after_none.2 fun a ha => by rw [dA_19] at ha; simp at ha; omega
                    go_wp2_with fail
                    refine (wdleft_no S.out 19 (by omega) HNN.out).mono ?_
                    rintro e w4 ⟨rfl, rfl⟩
                    go_wp2_with fail
                    go_ret
                    exact ⟨rfl, B1.out.trans (S.out.bl.mono B1.out.size)⟩
              · have HZ : Hid (((19 : Int) < 0 ∨ 19 < (19 : Int)) ∨ ah < 1 ∨ 400 < ah) := Lib.hid (by omega)
                have HO : Hid (ah < 1 ∨ 400 < ah) := Lib.hid (by omega)
                clear hA
                refine (wstart_no _ _ _ _ HZ.out).mono ?_
                rintro e w3 ⟨rfl, rfl⟩
                go_wp2_with fail
                refine (in_out _ _ _ _ HO.out).mono ?_
                rintro e w3 ⟨rfl, rfl⟩
                go_wp2_with fail
                go_ret
                exact ⟨rfl, B1.out.trans (S.out.bl.mono B1.out.size)⟩
            · have g1 : decide ((j : Int) < (len : Int)) = false := by simp; omega
              have g3 : ¬ j < len := by omega
              clear hlt g0
              go_wp2_with fail
              clear g1 g3
              by_cases hA : 1 ≤ ah ∧ ah ≤ 400
              · obtain ⟨A, rfl⟩ : ∃ A : Nat, ah = (A : Int) := ⟨ah.toNat, by omega⟩
                have HNN : Hid (Wl.after (dO k zs j) k 19 = none) := Wl.after_none.2 fun a ha => by rw [dO_none hj19] at ha; simp at ha
                refine (wdstart_yes S.out 19 A (by omega) (by omega) (by omega) HNN.out (by omega) (by omega)).mono ?_
                rintro e w3 ⟨rfl, h3⟩
                have S3 : Hid (WD w1 wb w1.heap.size (w1.heap.size + 2) w3 (dA k zs j A) (k + 0) (nm + 1) x xl) := h3
                clear h3 S HNN
                go_wp2_with fail
                go_loopw [11] (fun v11 wx => ∃ (t : Nat) (x : Value) (xl : List Nat), t ≤ 400 ∧ v11 = .int .i64 ((t : Int) + 1) ∧ WD w1 wb w1.heap.size (w1.heap.size + 2) wx (dA k zs j A) (k + t) (nm + 1) x xl) (fun v11 _ => 401 - (intOf v11).toNat)
                case atStart => exact ⟨0, _, _, by omega, rfl, S3.out⟩
                case round =>
                  clear S3
                  obtain ⟨t, x, xl, ht, rfl, hS⟩ := hrel
                  have S := Lib.hid hS; clear hS
                  by_cases hlt : t < 400
                  · have g1 : decide ((t : Int) + 1 ≤ 400) = true := by simp; omega
                    go_wp2_with fail
                    refine (wdtick S.out (by omega)).mono ?_
                    rintro e w4 ⟨ra, rc, rs, rfl, h4, hm, hnd, -, hrl, hr19⟩
                    have S4 : Hid (WD w1 wb w1.heap.size (w1.heap.size + 2) w4 (dA k zs j A) (k + (t + 1)) (nm + 1) (.slice ra rs.length rc) rs) := h4
                    have RI : Hid (Ints w4 w4.heap.size ra rs.length (rs.map fun i : Nat => (i : Int))) := nats_ints h4.row (by omega) (fun x hx => by have := hr19 x hx; omega)
                    have HB : Hid (∀ y, y ∈ rs ↔ dA k zs j A y = some (k + (t + 1))) := hm
                    have H19 : Hid (decide ((19 : Int) ∈ rs.map fun i : Nat => (i : Int)) = ((t : Int) + 1 == (A : Int))) := Lib.hid (by
                      have e1 : (19 : Int) ∈ rs.map (fun i : Nat => (i : Int)) ↔ 19 ∈ rs := mem_cast (n := 19)
                      have e2 := hm 19
                      rw [dA_19] at e2
                      simp only [Option.some.injEq] at e2
                      rw [Bool.eq_iff_iff, decide_eq_true_eq, beq_iff_eq, e1, e2]
                      omega)
                    obtain ⟨rl, hrl2⟩ : ∃ rl, rl = rs.length := ⟨_, rfl⟩
                    rw [← hrl2] at S4 RI ⊢
                    have HRL := Lib.hid hrl2
                    have HRM := Lib.hid hrl
                    have HRN := Lib.hid hr19
                    clear h4 hm hnd hrl hr19 g1 S hrl2
                    go_wp2_with fail
                    refine (has_is _ _ _ _ _ _ _ RI.out).mono ?_
                    rintro e w5 ⟨rfl, rfl⟩
                    rw [H19.out]
                    clear H19
                    go_wp2_with fail
                    go_loopw [13] (fun v13 wx => ∃ i : Nat, i ≤ j ∧ v13 = .int .i64 (i : Int) ∧ WD w1 wb w1.heap.size (w1.heap.size + 2) wx (dA k zs j A) (k + (t + 1)) (nm + 1) (.slice ra rl rc) rs) (fun v13 _ => 19 - (intOf v13).toNat)
                    case atStart => exact ⟨0, by omega, rfl, S4.out⟩
                    case round =>
                      clear S4
                      obtain ⟨i, hij, rfl, hS⟩ := hrel
                      have S := Lib.hid hS; clear hS
                      by_cases hlt2 : i < j
                      · obtain ⟨hl1, hl2⟩ := (HJI.out i).2 hlt2
                        have g1 : decide ((i : Int) < (len : Int)) = true := by simp; omega
                        have g2 : decide ((i : Int) < 19) = true := by simp; omega
                        have HJ := Lib.hid (I1.out.later S.out.bl)
                        obtain ⟨b, off, rfl, hb, hc⟩ := HJ.out.cell i hl1
                        have RI : Hid (Ints wr wr.heap.size ra rl (rs.map fun i : Nat => (i : Int))) := Lib.hid (by
                          have Z := S.out.row
                          rw [HRL.out] at Z ⊢
                          exact nats_ints Z (by have := HRM.out; omega) (fun x hx => by have := HRN.out x hx; omega))
                        have HBI : Hid (decide ((i : Int) ∈ rs.map fun i : Nat => (i : Int)) = (zs.getD i 0 == (t : Int) + 1)) := Lib.hid (by
                          have e1 : (i : Int) ∈ rs.map (fun i : Nat => (i : Int)) ↔ i ∈ rs := mem_cast
                          have e2 := HB.out i
                          have e3 := dA_at (T := k) (zs := zs) (A := A) hlt2 hj19 (t := t + 1) (by omega) (by omega)
                          rw [Bool.eq_iff_iff, decide_eq_true_eq, beq_iff_eq, e1, e2, e3]
                          omega)
                        clear HJ
                        have HC : Hid (∀ n, Calls Try.prog 10 #[.slice ra rl rc, .int .i64 i] (wr.drewN n) fun e w' => e = .returned (.bool (zs.getD i 0 == (t : Int) + 1)) ∧ w' = wr.drewN n) := Lib.hid (fun n => by
                          refine (has_is ra rl rc _ i _ _ (RI.out.below (below_drewN (Below.refl _ _) n))).mono fun _ _ h => ⟨by rw [← HBI.out]; exact h.1, h.2.symm⟩)
                        generalize zs.getD i 0 = z at hc HC
                        go_wp2_with fail
                        go_quiet ((first | (go_at_call 10; exact Calls.quiet_of_same (HC.out _))))
                        have S5 := Lib.hid (S.out.drewN nq)
                        clear hc
                        generalize wr.drewN nq = w6 at *
                        go_wp2_with fail
                        go_roundw
                        case rel => exact ⟨i + 1, by omega, by first | go_num | rfl | simp, S5.out⟩
                        case measure => simp [intOf]; omega
                      · obtain rfl : i = j := by omega
                        by_cases g0 : i < len
                        · have g2 : decide ((i : Int) < 19) = false := by have := HJI.out i; simp; omega
                          go_wp2_with fail
                          go_roundw
                          case rel => exact ⟨t + 1, _, _, by omega, by first | go_num | rfl | simp, S.out⟩
                          case measure => simp [intOf]; omega
                        · go_wp2_with fail
                          go_roundw
                          case rel => exact ⟨t + 1, _, _, by omega, by first | go_num | rfl | simp, S.out⟩
                          case measure => simp [intOf]; omega
                  · obtain rfl : t = 400 := by omega
                    have HNN : Hid (Wl.after (dA k zs j A) (k + 400) 19 = none) := Wl.after_none.2 fun a ha => by rw [dA_19] at ha; simp at ha; omega
                    go_wp2_with fail
                    refine (wdleft_no S.out 19 (by omega) HNN.out).mono ?_
                    rintro e w4 ⟨rfl, rfl⟩
                    go_wp2_with fail
                    go_ret
                    exact ⟨rfl, B1.out.trans (S.out.bl.mono B1.out.size)⟩
              · have HZ : Hid (((19 : Int) < 0 ∨ 19 < (19 : Int)) ∨ ah < 1 ∨ 400 < ah) := Lib.hid (by omega)
                have HO : Hid (ah < 1 ∨ 400 < ah) := Lib.hid (by omega)
                clear hA
                refine (wstart_no _ _ _ _ HZ.out).mono ?_
                rintro e w3 ⟨rfl, rfl⟩
                go_wp2_with fail
                refine (in_out _ _ _ _ HO.out).mono ?_
                rintro e w3 ⟨rfl, rfl⟩
                go_wp2_with fail
                go_ret
                exact ⟨rfl, B1.out.trans (S.out.bl.mono B1.out.size)⟩
end Go.Proofs.Ytmmoolcnpbebhaa.wheelDue
