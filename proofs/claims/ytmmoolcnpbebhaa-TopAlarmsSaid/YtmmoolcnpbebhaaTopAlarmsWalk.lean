/- TopAlarms returns true for every input: the walk. -/
import Derived.Test.YtmmoolcnpbebhaaWheelF
import Derived.Test.YtmmoolcnpbebhaaTopIn
import Derived.Test.YtmmoolcnpbebhaaRttC
namespace Go.Proofs.Ytmmoolcnpbebhaa.topAlarms
open Go.RowKit
set_option linter.unusedSimpArgs false
set_option linter.unusedVariables false

/-- The world as it was of old, with today's blocks. -/
def cutW (w : World) (n : Nat) : World := { w with heap := w.heap.extract 0 n }
theorem cutW_size {w : World} {n : Nat} (h : n ≤ w.heap.size) : (cutW w n).heap.size = n := by
  show (w.heap.extract 0 n).size = n
  simp; omega
theorem cutW_at {w : World} {n k : Nat} (hk : k < n) : (cutW w n).heap[k]? = w.heap[k]? := by
  show (w.heap.extract 0 n)[k]? = _
  rw [Array.getElem?_extract]
  simp; intro h; omega
theorem cutW_below {w : World} {n : Nat} (h : n ≤ w.heap.size) : Below n (cutW w n) w :=
  ⟨rfl, rfl, rfl, by rw [cutW_size h]; exact h, fun k hk => (cutW_at hk).symm⟩
theorem below_cutW {w w' : World} {B n : Nat} (h : Below B w w') (hB : B ≤ n) (hn : n ≤ w'.heap.size) (hw : w.heap.size ≤ n) : Below B w (cutW w' n) :=
  ⟨h.os, h.tape, h.output, by rw [cutW_size hn]; exact hw, fun k hk => (cutW_at (by omega)).trans (h.block k hk)⟩
/-- Something of old is written: the wheel stands. -/
theorem rebase {w0 w w' : World} {wb mb B T nm tb : Nat} {d : Nat → Option Nat} {x : Value} {xl : List Nat} (h : WD w0 wb mb B w d T nm x xl) (hg : w.grownBy w' (some tb)) (ht : tb < w0.heap.size) :
    w0.heap.size ≤ w'.heap.size ∧ WD (cutW w' w0.heap.size) wb mb B w' d T nm x xl := by
  obtain ⟨vs, s, D, h1, h2, h3, h4⟩ := h
  have b1 := h1.b1; have b2 := h1.b2; have b3 := h1.b3; have b4 := h1.b4
  have hsz : w0.heap.size ≤ w'.heap.size := Nat.le_trans h1.bl.size hg.size
  refine ⟨hsz, vs, s, D, ⟨by rw [cutW_size hsz]; exact b1, b2, b3, Nat.le_trans b4 hg.size, h1.ob.kept hg (by simp; omega), fun i hi => own_keep (h1.rows i hi) hg (fun g e e' => ?_), h1.dj, own_keep h1.xr hg (fun g e e' => ?_), h1.xd, h1.mp.kept hg (by simp; omega), h1.dm, by rw [cutW_size hsz]; exact cutW_below hsz⟩, h2, h3, h4⟩
  · have := ((h1.rows i hi).lt g e).1; simp at e'; omega
  · have := (h1.xr.lt g e).1; simp at e'; omega
theorem tim_bel {w w' : World} {b B : Nat} {s p t : Int} (h : Tim w b s p t) (hb : Below B w w') (hlt : b < B) : Tim w' b s p t := by
  unfold Tim at *
  show w'.heap[b]? = _
  rw [hb.block b hlt]; exact h
def d1 (m : Nat) : Nat → Option Nat := Wl.upd (fun _ => none) 1 (some (0 + m))
theorem d1_is (m y a : Nat) : d1 m y = some a ↔ y = 1 ∧ a = m := by
  unfold d1 Wl.upd
  by_cases h : y = 1
  · rw [if_pos h]; simp [h]; omega
  · rw [if_neg h]; simp [h]

set_option maxHeartbeats 16000000 in
set_option maxRecDepth 100000 in
theorem walk (tk late : Int) (w : World) (htk : -9223372036854775808 ≤ tk ∧ tk ≤ 9223372036854775807) (hlate : -9223372036854775808 ≤ late ∧ late ≤ 9223372036854775807) :
    Calls Try.prog 4 #[.int .i64 tk, .int .i64 late] w fun e w' => e = .returned (.bool true) ∧ Below w.heap.size w w' := by
  go_enter Try.func4, Try.ntmps4
  go_wp2_with fail
  refine (new_yes 3 w (by omega) (by omega)).mono ?_
  rintro e w1 ⟨rfl, hT, hg⟩
  have B1 : Hid (Below w.heap.size w w1) := below_new hg
  have T1 := Lib.hid hT
  obtain ⟨tb, htb⟩ : ∃ tb, tb = w.heap.size := ⟨_, rfl⟩
  rw [← htb] at T1 ⊢
  have HTB := Lib.hid htb
  clear hT hg htb
  go_wp2_with fail
  refine (wait_any _ _ _ _ _ T1.out).mono ?_
  rintro e w2 ⟨rfl, rfl⟩
  go_wp2_with fail
  by_cases hv : 0 ≤ tk ∧ tk ≤ 100000
  · obtain ⟨hv1, hv2⟩ := hv
    refine (take_first _ _ _ _ tk _ T1.out (by omega) hv1 hv2).mono ?_
    rintro e w2 ⟨rfl, hT, hg⟩
    have hbd : 1 ≤ min (tk + max 1 (4 * (tk / 2))) 100000 ∧ min (tk + max 1 (4 * (tk / 2))) 100000 ≤ 100000 := by omega
    have B2 : Hid (Below w.heap.size w w2) := B1.out.trans (below_grown hg (by rw [HTB.out]; exact Nat.le_refl _) T1.out.lt)
    generalize min (tk + max 1 (4 * (tk / 2))) 100000 = t0 at hT hbd
    generalize tk / 2 = p0 at hT
    have T2 := Lib.hid hT
    obtain ⟨ht1, ht2⟩ := hbd
    clear hT hg T1 B1
    go_wp2_with fail
    go_loopw [7] (fun v7 wx => ∃ (k : Nat) (t : Int), k ≤ 3 ∧ v7 = .int .i64 (k : Int) ∧ 1 ≤ t ∧ t ≤ 100000 ∧ Tim wx tb tk p0 t ∧ Below w.heap.size w wx) (fun v7 _ => 3 - (intOf v7).toNat)
    case atStart => exact ⟨0, t0, by omega, rfl, ht1, ht2, T2.out, B2.out⟩
    case round =>
      clear T2 B2 ht1 ht2
      obtain ⟨k, t, hk, rfl, ht1, ht2, hT, hB⟩ := hrel
      have T := Lib.hid hT
      have B := Lib.hid hB
      clear hT hB
      by_cases hlt : (k : Int) < late ∧ k < 3
      · obtain ⟨hl1, hl2⟩ := hlt
        have g1 : decide ((k : Int) < late) = true := by simp; omega
        have g2 : decide ((k : Int) < 3) = true := by simp; omega
        go_wp2_with fail
        refine (late_any _ _ _ t _ T.out (by omega) ht2).mono ?_
        rintro e w3 ⟨rfl, hT, hg⟩
        have T3 := Lib.hid hT
        have B3 : Hid (Below w.heap.size w w3) := B.out.trans (below_grown hg (by rw [HTB.out]; exact Nat.le_refl _) T.out.lt)
        clear hT hg g1 g2
        go_wp2_with fail
        go_roundw
        case rel => exact ⟨k + 1, _, by omega, by first | go_num | rfl | simp, by omega, by omega, T3.out, B3.out⟩
        case measure => simp [intOf]; omega
      · by_cases g0 : (k : Int) < late
        · have g1 : decide ((k : Int) < late) = true := by simp; omega
          have g2 : decide ((k : Int) < 3) = false := by simp; omega
          have g3 : ¬ k < 3 := by omega
          clear hlt g0
          go_wp2_with fail
          clear g1 g2 g3
          obtain ⟨wo, hwo⟩ : ∃ wo : World, wo = wr := ⟨_, rfl⟩
          subst hwo
          have htl := T.out.lt
          refine (wdnew wo).mono ?_
          rintro e w3 ⟨rfl, h3⟩
          have S3 := Lib.hid h3
          have T3 : Hid (Tim w3 tb tk p0 t) := tim_bel T.out h3.bl htl
          clear h3
          obtain ⟨wb, hwb⟩ : ∃ wb, wb = wo.heap.size + 1 := ⟨_, rfl⟩
          rw [← hwb] at S3 ⊢
          clear hwb
          go_wp2_with fail
          refine (wait_any _ _ _ _ _ T3.out).mono ?_
          rintro e w4 ⟨rfl, rfl⟩
          go_wp2_with fail
          by_cases h400 : t ≤ 400
          · obtain ⟨m, rfl⟩ : ∃ m : Nat, t = (m : Int) := ⟨t.toNat, by omega⟩
            refine (wdstart_yes S3.out 1 m (by omega) (by omega) (by omega) rfl (by omega) (by omega)).mono ?_
            rintro e w5 ⟨rfl, h5⟩
            have S5 : Hid (WD wo wb wo.heap.size (wo.heap.size + 2) w5 (d1 m) 0 1 (.slice none 0 0) []) := h5
            clear h5 S3 T3
            go_wp2_with fail
            go_loopw [10] (fun v10 wx => ∃ (i : Nat) (x : Value) (xl : List Nat), i + 1 ≤ m ∧ v10 = .int .i64 ((i : Int) + 1) ∧ WD wo wb wo.heap.size (wo.heap.size + 2) wx (d1 m) i 1 x xl) (fun v10 _ => m + 1 - (intOf v10).toNat)
            case atStart => exact ⟨0, _, _, by omega, rfl, S5.out⟩
            case round =>
              clear S5
              obtain ⟨i, x, xl, him, rfl, hS⟩ := hrel
              have S := Lib.hid hS; clear hS
              by_cases hlt : i + 1 < m
              · have g1 : decide ((i : Int) + 1 < (m : Int)) = true := by simp; omega
                go_wp2_with fail
                refine (wdtick S.out (by omega)).mono ?_
                rintro e w6 ⟨a, c, rs, rfl, h6, hm, -⟩
                have hrs : rs = [] := List.eq_nil_iff_forall_not_mem.2 fun y hy => by
                  have := (d1_is m y _).1 ((hm y).1 hy)
                  omega
                subst hrs
                have S6 := Lib.hid h6
                clear h6 hm S g1
                go_wp2_with fail
                go_roundw
                case rel => exact ⟨i + 1, _, _, by omega, by first | go_num | rfl | simp, S6.out⟩
                case measure => simp [intOf]; omega
              · have hmi : m = i + 1 := by omega
                have g1 : decide ((i : Int) + 1 < (m : Int)) = false := by simp; omega
                have T6 : Hid (Tim wr tb tk p0 m) := tim_bel T.out S.out.bl htl
                go_wp2_with fail
                refine (wait_any _ _ _ _ _ T6.out).mono ?_
                rintro e w6 ⟨rfl, rfl⟩
                clear g1
                go_wp2_with fail
                refine (late_any _ _ _ (m : Int) _ T6.out (by omega) ht2).mono ?_
                rintro e w7 ⟨rfl, hT, hg⟩
                obtain ⟨hsz, h7⟩ := rebase S.out hg htl
                rw [show min (2 * (m : Int)) 100000 = 2 * (m : Int) from by omega] at hT
                have T7 := Lib.hid hT
                have S7 := Lib.hid h7
                have B7 : Hid (Below w.heap.size w w7) := (B.out.trans (S.out.bl.mono B.out.size)).trans (below_grown hg (by rw [HTB.out]; exact Nat.le_refl _) T6.out.lt)
                have C7 : Hid (Below w.heap.size w (cutW w7 wo.heap.size)) := below_cutW B7.out B.out.size hsz B.out.size
                have HCS : Hid ((cutW w7 wo.heap.size).heap.size = wo.heap.size) := cutW_size hsz
                clear hT hg h7 hsz
                go_wp2_with fail
                refine (wdtick S7.out (by omega)).mono ?_
                rintro e w8 ⟨a, c, rs, rfl, h8, hm, hnd, -⟩
                have hrs : rs = [1] := Wl.only_one hnd fun y => by
                  rw [hm, d1_is]; omega
                subst hrs
                have S8 := Lib.hid h8
                have I8 : Hid (Ints w8 w8.heap.size a 1 [1]) := nats_ints h8.row (by simp) (by simp)
                have T8 : Hid (Tim (w8.alloc (.cells #[.int .i64 1] 3 (0, 0))) tb tk p0 (2 * (m : Int))) := by
                  have z := h8.bl
                  have y := S7.out.bl
                  rw [HCS.out] at z y
                  have q1 : w8.heap[tb]? = w7.heap[tb]? := (z.block tb htl).trans (y.block tb htl).symm
                  have q2 : Tim w8 tb tk p0 (2 * (m : Int)) := by
                    unfold Tim at *
                    show w8.heap[tb]? = _
                    rw [q1]; exact T7.out
                  exact Obj.alloc q2 _
                clear h8 hm S7 hnd
                have I9 : Hid (Ints (w8.alloc (.cells #[.int .i64 1] 3 (0, 0))) (w8.alloc (.cells #[.int .i64 1] 3 (0, 0))).heap.size (some ⟨w8.heap.size, 0, none⟩) 1 [1]) := intsLit (zs := [1]) (Obj.new w8 [.int .i64 1] 3) (by decide) (fits_of (M := 1) (by decide) (by simp))
                go_wp2_with fail
                refine (same_yes a _ 1 c 1 [1] _ _ _ (I8.out.alloc _) I9.out).mono ?_
                rintro e w9 ⟨rfl, n, rfl⟩
                go_wp2_with fail
                refine (wait_any _ _ _ _ _ (T8.out.drewN n)).mono ?_
                rintro e w9 ⟨rfl, rfl⟩
                have hwr : IntKind.i64.wrap (2 * (m : Int)) = 2 * (m : Int) := IntWalk.i64_in _ (by omega)
                go_wp2_with fail
                go_ret
                exact ⟨rfl, below_drewN ((C7.out.trans (S8.out.bl.mono (by rw [HCS.out]; exact B.out.size))).alloc (Nat.le_trans C7.out.size S8.out.bl.size) _) n⟩
          · have HZ : Hid (((1 : Int) < 0 ∨ 19 < (1 : Int)) ∨ t < 1 ∨ 400 < t) := Lib.hid (by omega)
            have g4 : decide (400 < t) = true := by simp; omega
            refine (wstart_no _ _ _ _ HZ.out).mono ?_
            rintro e w5 ⟨rfl, rfl⟩
            go_wp2_with fail
            go_ret
            exact ⟨rfl, B.out.trans (S3.out.bl.mono B.out.size)⟩
        · have g1 : decide ((k : Int) < late) = false := by simp; omega
          clear hlt g0
          go_wp2_with fail
          clear g1
          obtain ⟨wo, hwo⟩ : ∃ wo : World, wo = wr := ⟨_, rfl⟩
          subst hwo
          have htl := T.out.lt
          refine (wdnew wo).mono ?_
          rintro e w3 ⟨rfl, h3⟩
          have S3 := Lib.hid h3
          have T3 : Hid (Tim w3 tb tk p0 t) := tim_bel T.out h3.bl htl
          clear h3
          obtain ⟨wb, hwb⟩ : ∃ wb, wb = wo.heap.size + 1 := ⟨_, rfl⟩
          rw [← hwb] at S3 ⊢
          clear hwb
          go_wp2_with fail
          refine (wait_any _ _ _ _ _ T3.out).mono ?_
          rintro e w4 ⟨rfl, rfl⟩
          go_wp2_with fail
          by_cases h400 : t ≤ 400
          · obtain ⟨m, rfl⟩ : ∃ m : Nat, t = (m : Int) := ⟨t.toNat, by omega⟩
            refine (wdstart_yes S3.out 1 m (by omega) (by omega) (by omega) rfl (by omega) (by omega)).mono ?_
            rintro e w5 ⟨rfl, h5⟩
            have S5 : Hid (WD wo wb wo.heap.size (wo.heap.size + 2) w5 (d1 m) 0 1 (.slice none 0 0) []) := h5
            clear h5 S3 T3
            go_wp2_with fail
            go_loopw [10] (fun v10 wx => ∃ (i : Nat) (x : Value) (xl : List Nat), i + 1 ≤ m ∧ v10 = .int .i64 ((i : Int) + 1) ∧ WD wo wb wo.heap.size (wo.heap.size + 2) wx (d1 m) i 1 x xl) (fun v10 _ => m + 1 - (intOf v10).toNat)
            case atStart => exact ⟨0, _, _, by omega, rfl, S5.out⟩
            case round =>
              clear S5
              obtain ⟨i, x, xl, him, rfl, hS⟩ := hrel
              have S := Lib.hid hS; clear hS
              by_cases hlt : i + 1 < m
              · have g1 : decide ((i : Int) + 1 < (m : Int)) = true := by simp; omega
                go_wp2_with fail
                refine (wdtick S.out (by omega)).mono ?_
                rintro e w6 ⟨a, c, rs, rfl, h6, hm, -⟩
                have hrs : rs = [] := List.eq_nil_iff_forall_not_mem.2 fun y hy => by
                  have := (d1_is m y _).1 ((hm y).1 hy)
                  omega
                subst hrs
                have S6 := Lib.hid h6
                clear h6 hm S g1
                go_wp2_with fail
                go_roundw
                case rel => exact ⟨i + 1, _, _, by omega, by first | go_num | rfl | simp, S6.out⟩
                case measure => simp [intOf]; omega
              · have hmi : m = i + 1 := by omega
                have g1 : decide ((i : Int) + 1 < (m : Int)) = false := by simp; omega
                have T6 : Hid (Tim wr tb tk p0 m) := tim_bel T.out S.out.bl htl
                go_wp2_with fail
                refine (wait_any _ _ _ _ _ T6.out).mono ?_
                rintro e w6 ⟨rfl, rfl⟩
                clear g1
                go_wp2_with fail
                refine (late_any _ _ _ (m : Int) _ T6.out (by omega) ht2).mono ?_
                rintro e w7 ⟨rfl, hT, hg⟩
                obtain ⟨hsz, h7⟩ := rebase S.out hg htl
                rw [show min (2 * (m : Int)) 100000 = 2 * (m : Int) from by omega] at hT
                have T7 := Lib.hid hT
                have S7 := Lib.hid h7
                have B7 : Hid (Below w.heap.size w w7) := (B.out.trans (S.out.bl.mono B.out.size)).trans (below_grown hg (by rw [HTB.out]; exact Nat.le_refl _) T6.out.lt)
                have C7 : Hid (Below w.heap.size w (cutW w7 wo.heap.size)) := below_cutW B7.out B.out.size hsz B.out.size
                have HCS : Hid ((cutW w7 wo.heap.size).heap.size = wo.heap.size) := cutW_size hsz
                clear hT hg h7 hsz
                go_wp2_with fail
                refine (wdtick S7.out (by omega)).mono ?_
                rintro e w8 ⟨a, c, rs, rfl, h8, hm, hnd, -⟩
                have hrs : rs = [1] := Wl.only_one hnd fun y => by
                  rw [hm, d1_is]; omega
                subst hrs
                have S8 := Lib.hid h8
                have I8 : Hid (Ints w8 w8.heap.size a 1 [1]) := nats_ints h8.row (by simp) (by simp)
                have T8 : Hid (Tim (w8.alloc (.cells #[.int .i64 1] 3 (0, 0))) tb tk p0 (2 * (m : Int))) := by
                  have z := h8.bl
                  have y := S7.out.bl
                  rw [HCS.out] at z y
                  have q1 : w8.heap[tb]? = w7.heap[tb]? := (z.block tb htl).trans (y.block tb htl).symm
                  have q2 : Tim w8 tb tk p0 (2 * (m : Int)) := by
                    unfold Tim at *
                    show w8.heap[tb]? = _
                    rw [q1]; exact T7.out
                  exact Obj.alloc q2 _
                clear h8 hm S7 hnd
                have I9 : Hid (Ints (w8.alloc (.cells #[.int .i64 1] 3 (0, 0))) (w8.alloc (.cells #[.int .i64 1] 3 (0, 0))).heap.size (some ⟨w8.heap.size, 0, none⟩) 1 [1]) := intsLit (zs := [1]) (Obj.new w8 [.int .i64 1] 3) (by decide) (fits_of (M := 1) (by decide) (by simp))
                go_wp2_with fail
                refine (same_yes a _ 1 c 1 [1] _ _ _ (I8.out.alloc _) I9.out).mono ?_
                rintro e w9 ⟨rfl, n, rfl⟩
                go_wp2_with fail
                refine (wait_any _ _ _ _ _ (T8.out.drewN n)).mono ?_
                rintro e w9 ⟨rfl, rfl⟩
                have hwr : IntKind.i64.wrap (2 * (m : Int)) = 2 * (m : Int) := IntWalk.i64_in _ (by omega)
                go_wp2_with fail
                go_ret
                exact ⟨rfl, below_drewN ((C7.out.trans (S8.out.bl.mono (by rw [HCS.out]; exact B.out.size))).alloc (Nat.le_trans C7.out.size S8.out.bl.size) _) n⟩
          · have HZ : Hid (((1 : Int) < 0 ∨ 19 < (1 : Int)) ∨ t < 1 ∨ 400 < t) := Lib.hid (by omega)
            have g4 : decide (400 < t) = true := by simp; omega
            refine (wstart_no _ _ _ _ HZ.out).mono ?_
            rintro e w5 ⟨rfl, rfl⟩
            go_wp2_with fail
            go_ret
            exact ⟨rfl, B.out.trans (S3.out.bl.mono B.out.size)⟩
  · have HO : Hid (tk < 0 ∨ 100000 < tk) := Lib.hid (by omega)
    clear hv
    refine (take_no _ (-1) 0 3 tk _ HO.out).mono ?_
    rintro e w2 ⟨rfl, rfl⟩
    go_wp2_with fail
    refine (tin_out _ _ _ _ HO.out).mono ?_
    rintro e w2 ⟨rfl, rfl⟩
    go_wp2_with fail
    go_ret
    exact ⟨rfl, B1.out⟩
end Go.Proofs.Ytmmoolcnpbebhaa.topAlarms
