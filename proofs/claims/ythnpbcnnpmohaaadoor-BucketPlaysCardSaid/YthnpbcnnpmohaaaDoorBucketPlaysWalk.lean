/- BucketPlays returns true for every input: the walk. -/
import Derived.Test.YthnpbcnnpmohaaaDoorBuckRef
import Derived.Test.YthnpbcnnpmohaaaDoorTold
import Derived.Deep.RegionHeld3
import Derived.Deep.RegionLaw
namespace Go.Proofs.YthnpbcnnpmohaaaDoor.bucketPlays
open Go.RowKit
set_option linter.unusedSimpArgs false
set_option linter.unusedVariables false

theorem Xb.kept {w w' : World} {b c : Nat} {r d h l : Int} (ho : Xb w b r d h l) (hg : w.grownBy w' (some c)) (hr : b ≠ c) : Xb w' b r d h l := Obj.kept ho hg (by simpa using hr)
theorem Xb.below {w w' : World} {b : Nat} {r d h l : Int} (ho : Xb w b r d h l) (hb : Below w.heap.size w w') : Xb w' b r d h l := (hb.block b ho.lt).trans ho
theorem Buck.other {w : World} {b c j : Nat} {r d h l : Int} {u : Value} (ho : Buck w b r d h l) (hne : b ≠ c) : Buck (w.setCell ⟨c, j, none⟩ u) b r d h l := (Below.heap_setCell _ _ _ _ hne).trans ho
theorem Buck.bel {w w' : World} {b : Nat} {r d h l : Int} (ho : Buck w b r d h l) (hb : Below w.heap.size w w') : Buck w' b r d h l := (hb.block b ho.lt).trans ho

set_option maxHeartbeats 16000000 in
set_option maxRecDepth 100000 in
theorem walk (r d : Int) (a : Option Addr) (len cap : Nat) (A : Nat → Option Addr) (L C : Nat → Nat) (Z : Nat → List Int) (w : World) (hr : -9223372036854775808 ≤ r ∧ r ≤ 9223372036854775807) (hdd : -9223372036854775808 ≤ d ∧ d ≤ 9223372036854775807) (hI : Grid w w.heap.size a len A L C Z) (hd : Hd w) :
    Calls Tryd.prog 4 #[.int .i64 r, .int .i64 d, .slice a len cap] w fun e w' => e = .returned (.bool true) ∧ Below w.heap.size w w' := by
  have hroom := hI.room
  have HI := Lib.hid hI; clear hI
  have HD := Lib.hid hd; clear hd
  by_cases hv : (0 ≤ r ∧ r ≤ 20) ∧ (0 ≤ d ∧ d ≤ 100)
  · obtain ⟨⟨r0, r1⟩, d0, d1⟩ := hv
    clear hr hdd
    go_enter Tryd.func4, Tryd.ntmps4
    go_wp2_with fail
    refine (bnew_yes _ _ _ r0 r1 d0 d1).mono ?_
    rintro e w2 ⟨rfl, ho, hg⟩
    have H2 := Lib.hid ho; clear ho
    have B2 : Hid (Below w.heap.size w w2) := below_new hg
    clear hg
    have hbx : w.heap.size < w2.heap.size := H2.out.lt
    obtain ⟨b, hb⟩ : ∃ b, b = w.heap.size := ⟨_, rfl⟩
    have hwb : w.heap.size ≤ b := by omega
    rw [← hb] at H2 hbx ⊢
    have HEQ := Lib.hid hb; clear hb
    go_wp2_with fail
    refine (in_in _ _ _ _ r0 r1).mono ?_
    rintro e w' ⟨rfl, rfl⟩
    go_wp2_with fail
    refine (in_in _ _ _ _ d0 d1).mono ?_
    rintro e w' ⟨rfl, rfl⟩
    obtain ⟨xb, hxe⟩ : ∃ xb, xb = w2.heap.size := ⟨_, rfl⟩
    have X2 : Hid (Xb (w2.alloc (.cells #[.int .i64 r, .int .i64 d, .int .i64 d, .int .i64 0] 43 (0, 0))) xb r d d 0) := by
      rw [hxe]; exact Obj.new _ _ _
    have P2 : Hid (Buck (w2.alloc (.cells #[.int .i64 r, .int .i64 d, .int .i64 d, .int .i64 0] 43 (0, 0))) b r d d 0) := Obj.alloc H2.out _
    have B3 : Hid (Below w.heap.size w (w2.alloc (.cells #[.int .i64 r, .int .i64 d, .int .i64 d, .int .i64 0] 43 (0, 0)))) := B2.out.alloc B2.out.size _
    rw [← hxe] at hbx
    have hne : b ≠ xb := by omega
    have hwx : w.heap.size ≤ xb := by omega
    clear hbx
    go_wp2_with fail
    rw [← hxe]
    clear hxe
    go_loopw [10] (fun v10 wr => ∃ (k : Nat) (h l : Int), k ≤ len ∧ k ≤ 60 ∧ v10 = .int .i64 k ∧ BkOk r d h l ∧ Buck wr b r d h l ∧ Xb wr xb r d h l ∧ Below w.heap.size w wr)
      (fun v10 _ => len - (intOf v10).toNat)
    case atStart => exact ⟨0, d, 0, by omega, by omega, rfl, ⟨r0, r1, d0, d1, d0, by omega, by omega, by omega⟩, P2.out, X2.out, B3.out⟩
    case round =>
      clear H2 B2 X2 P2 B3 r0 r1 d0 d1
      obtain ⟨k, h, l, hk, hk60, rfl, hK, hP, hX, hB⟩ := hrel
      have HB := Lib.hid hB; clear hB
      have HP := Lib.hid hP; clear hP
      have HX := Lib.hid hX; clear hX
      have HK := Lib.hid hK; clear hK
      by_cases hlt : k < len ∧ k < 60
      · obtain ⟨hl1, hl2⟩ := hlt
        obtain ⟨gb, goff, rfl, hgb, hgc⟩ := HI.out.cell k hl1
        have hrow := HI.out.row k hl1
        have hcx := (HB.out.cell (p := ⟨gb, goff + k, none⟩) hgb).trans hgc
        clear hgc
        generalize A k = ak at *
        generalize L k = lk at *
        generalize C k = ck at *
        generalize Z k = zk at *
        by_cases h2 : lk = 2
        · subst h2
          obtain ⟨ib, ioff, rfl, hib, hi0⟩ := hrow.cell 0 (by omega)
          obtain ⟨ib', ioff', he, hib', hi1⟩ := hrow.cell 1 (by omega)
          simp only [Option.some.injEq, Addr.mk.injEq, and_true] at he
          obtain ⟨rfl, rfl⟩ := he
          have fi0 := hrow.fits 0
          have fi1 := hrow.fits 1
          have hc0 := (HB.out.cell (p := ⟨ib, ioff, none⟩) hib).trans hi0
          have hc1 := (HB.out.cell (p := ⟨ib, ioff + 1, none⟩) hib).trans hi1
          have HI0 := Lib.hid hi0; clear hi0
          have HI1 := Lib.hid hi1; clear hi1
          clear hrow hib'
          generalize zk.getD 0 0 = at_ at *
          generalize zk.getD 1 0 = n at *
          have x0 := HX.out.cell 0
          have x1 := HX.out.cell 1
          have x2 := HX.out.cell 2
          have x3 := HX.out.cell 3
          have f0 := HX.out.free 0
          have f1 := HX.out.free 1
          have f2 := HX.out.free 2
          have f3 := HX.out.free 3
          simp only [List.getElem?_cons_zero, List.getElem?_cons_succ] at x0 x1 x2 x3
          by_cases hv : 0 ≤ at_ ∧ at_ ≤ 1000
          · obtain ⟨v0, v1⟩ := hv
            by_cases hw : 0 ≤ n ∧ n ≤ 100
            · obtain ⟨v2, v3⟩ := hw
              by_cases hla : l ≤ at_
              · obtain ⟨fl0, fl1⟩ := fill_ok HK.out hla v1
                by_cases hn : n ≤ fillB r d h l at_
                · have hn' := hn
                  have C := Lib.hid (fun w' (ho : Buck w' b r d h l) => btake_yes b r d h l at_ n w' ho HK.out v0 v1 v2 v3 hla hn')
                  have D := Lib.hid (fun w' => mbtake_yes r d h l at_ n w' HK.out v0 v1 v2 v3 hla hn')
                  have hO2 : BkOk r d (fillB r d h l at_ - n) at_ := ⟨HK.out.r0, HK.out.r1, HK.out.d0, HK.out.d1, by omega, by omega, v0, v1⟩
                  have HO2 := Lib.hid hO2; clear hO2
                  obtain ⟨h9, hh9⟩ : ∃ h9, h9 = fillB r d h l at_ - n := ⟨_, rfl⟩
                  rw [← hh9] at C D HO2
                  clear hh9 hn hn' fl0 fl1
                  go_wp2_with fail
                  refine (in_in _ _ _ _ v0 v1).mono ?_
                  rintro e w' ⟨rfl, rfl⟩
                  go_wp2_with fail
                  refine (in_in _ _ _ _ v2 v3).mono ?_
                  rintro e w' ⟨rfl, rfl⟩
                  go_wp2_with fail
                  go_quiet (fail)
                  have x0' : (wr.drewN nq).cell? ⟨xb, 0, none⟩ = _ := x0
                  have x1' : (wr.drewN nq).cell? ⟨xb, 1, none⟩ = _ := x1
                  have x2' : (wr.drewN nq).cell? ⟨xb, 2, none⟩ = _ := x2
                  have x3' : (wr.drewN nq).cell? ⟨xb, 3, none⟩ = _ := x3
                  have y0' : (wr.drewN nq).cell? ⟨ib, ioff, none⟩ = _ := hc0
                  have y1' : (wr.drewN nq).cell? ⟨ib, ioff + 1, none⟩ = _ := hc1
                  have HP2 := Lib.hid (HP.out.drewN nq)
                  have HX2 : Hid (Xb (wr.drewN nq) xb r d h l) := HX.out
                  have HB2 := Lib.hid (below_drewN HB.out nq)
                  clear x0 x1 x2 x3 f0 f1 f2 f3 hc0 hc1 HP HX HB hcx
                  generalize wr.drewN nq = w3 at *
                  go_wp2_with fail
                  go_region_law (first | (go_simp; go_at_call 14; refine (D.out _).mono ?_; rintro e w4 ⟨rfl, hB0⟩; have P4 : Hid (Buck w4 b r d h l) := Buck.bel (w := w3) HP2.out ⟨hB0.os, hB0.tape, hB0.output, hB0.size, hB0.block⟩; have X4 : Hid (Xb w4 xb r d h l) := Xb.below (w := w3) HX2.out ⟨hB0.os, hB0.tape, hB0.output, hB0.size, hB0.block⟩; have B4 : Hid (Below w.heap.size w w4) := HB2.out.trans (Below.mono (w := w3) ⟨hB0.os, hB0.tape, hB0.output, hB0.size, hB0.block⟩ HB2.out.size); clear hB0; have x0 := Obj.cell X4.out 0; have x1 := Obj.cell X4.out 1; have x2 := Obj.cell X4.out 2; have x3 := Obj.cell X4.out 3; have f0 := Obj.free X4.out 0; have f1 := Obj.free X4.out 1; have f2 := Obj.free X4.out 2; have f3 := Obj.free X4.out 3; simp only [List.getElem?_cons_zero, List.getElem?_cons_succ] at x0 x1 x2 x3))
                  all_goals
                    clear x0' x1' x2' x3' y0' y1'
                    go_wp2_with fail
                    have P5 : Hid (Buck ((((w4.setCell ⟨xb, 0, none⟩ (.int .i64 r)).setCell ⟨xb, 1, none⟩ (.int .i64 d)).setCell ⟨xb, 2, none⟩ (.int .i64 h9)).setCell ⟨xb, 3, none⟩ (.int .i64 at_)) b r d h l) := Buck.other (Buck.other (Buck.other (Buck.other P4.out hne) hne) hne) hne
                    have X5 : Hid (Xb ((((w4.setCell ⟨xb, 0, none⟩ (.int .i64 r)).setCell ⟨xb, 1, none⟩ (.int .i64 d)).setCell ⟨xb, 2, none⟩ (.int .i64 h9)).setCell ⟨xb, 3, none⟩ (.int .i64 at_)) xb r d h9 at_) := Obj.set (Obj.set (Obj.set (Obj.set X4.out 0 _) 1 _) 2 _) 3 _
                    have B5 : Hid (Below w.heap.size w ((((w4.setCell ⟨xb, 0, none⟩ (.int .i64 r)).setCell ⟨xb, 1, none⟩ (.int .i64 d)).setCell ⟨xb, 2, none⟩ (.int .i64 h9)).setCell ⟨xb, 3, none⟩ (.int .i64 at_))) := (((B4.out.setCell hwx _).setCell hwx _).setCell hwx _).setCell hwx _
                    generalize ((((w4.setCell ⟨xb, 0, none⟩ (.int .i64 r)).setCell ⟨xb, 1, none⟩ (.int .i64 d)).setCell ⟨xb, 2, none⟩ (.int .i64 h9)).setCell ⟨xb, 3, none⟩ (.int .i64 at_)) = w5 at *
                    clear x0 x1 x2 x3 f0 f1 f2 f3
                    simp only [Act.put, List.setIfInBounds_toArray, List.set_cons_succ, List.set_cons_zero]
                    have hc0 := (B5.out.cell (p := ⟨ib, ioff, none⟩) hib).trans HI0.out
                    have hc1 := (B5.out.cell (p := ⟨ib, ioff + 1, none⟩) hib).trans HI1.out
                    go_region_held3 (fun w' => w'.cell? ⟨ib, ioff, none⟩ = some (.int .i64 at_) ∧ w'.cell? ⟨ib, ioff + 1, none⟩ = some (.int .i64 n)) (first | go_keep | exact ⟨hy0, hy1⟩) ((first | (go_at_call 15; refine (C.out _ (Buck.drew P5.out)).mono ?_; rintro e w6 ⟨rfl, ho, hg⟩; have P6 := Lib.hid ho; clear ho; have X6 : Hid (Xb w6 xb r d (h9) (at_)) := Xb.kept (w := w5.drew) X5.out hg (Ne.symm hne); have B6 : Hid (Below w.heap.size w w6) := B5.out.drew.trans (below_grown hg hwb (Buck.drew P5.out).lt); have hy0 := (B6.out.cell (p := ⟨ib, ioff, none⟩) hib).trans HI0.out; have hy1 := (B6.out.cell (p := ⟨ib, ioff + 1, none⟩) hib).trans HI1.out; clear hg)))
                    clear hc0 hc1
                    go_wp2_with fail
                    refine (has_any _ _ _ _ _ _ P6.out).mono ?_
                    rintro e w7 ⟨rfl, nd, rfl⟩
                    have P7 := Lib.hid (P6.out.drewN nd)
                    have X7 : Hid (Xb (w6.drewN nd) xb r d (h9) (at_)) := X6.out
                    have B7 := Lib.hid (below_drewN B6.out nd)
                    generalize w6.drewN nd = w7 at *
                    have E := Lib.hid (err_same 0 w7 (HD.out.later B7.out))
                    have e0 : errOr 0 = .nilIface := rfl
                    rw [e0] at E
                    clear e0
                    go_wp2_with fail
                    refine E.out.mono ?_
                    clear E
                    rintro e w8 ⟨rfl, hB⟩
                    have P8 := Lib.hid (Buck.bel P7.out hB)
                    have X8 := Lib.hid (Xb.below X7.out hB)
                    have B8 : Hid (Below w.heap.size w w8) := B7.out.trans (hB.mono B7.out.size)
                    clear hB
                    have z2 := X8.out.cell 2
                    have z3 := X8.out.cell 3
                    simp only [List.getElem?_cons_zero, List.getElem?_cons_succ] at z2 z3
                    go_wp2_with fail
                    go_roundw
                    case rel => exact ⟨k + 1, h9, at_, by omega, by omega, by go_num, HO2.out, P8.out, X8.out, B8.out⟩
                    case measure => simp [intOf]; omega
                · have hn2 : fillB r d h l at_ < n := by omega
                  have C := Lib.hid (fun w' (ho : Buck w' b r d h l) => btake_short b r d h l at_ n w' ho HK.out v0 v1 v2 v3 hla hn2)
                  have D := Lib.hid (fun w' => mbtake_short r d h l at_ n w' HK.out v0 v1 v2 v3 hla hn2)
                  have hO2 : BkOk r d (fillB r d h l at_) at_ := ⟨HK.out.r0, HK.out.r1, HK.out.d0, HK.out.d1, by omega, by omega, v0, v1⟩
                  have HO2 := Lib.hid hO2; clear hO2
                  obtain ⟨h9, hh9⟩ : ∃ h9, h9 = fillB r d h l at_ := ⟨_, rfl⟩
                  rw [← hh9] at C D HO2
                  clear hh9 hn hn2 fl0 fl1
                  go_wp2_with fail
                  refine (in_in _ _ _ _ v0 v1).mono ?_
                  rintro e w' ⟨rfl, rfl⟩
                  go_wp2_with fail
                  refine (in_in _ _ _ _ v2 v3).mono ?_
                  rintro e w' ⟨rfl, rfl⟩
                  go_wp2_with fail
                  go_quiet (fail)
                  have x0' : (wr.drewN nq).cell? ⟨xb, 0, none⟩ = _ := x0
                  have x1' : (wr.drewN nq).cell? ⟨xb, 1, none⟩ = _ := x1
                  have x2' : (wr.drewN nq).cell? ⟨xb, 2, none⟩ = _ := x2
                  have x3' : (wr.drewN nq).cell? ⟨xb, 3, none⟩ = _ := x3
                  have y0' : (wr.drewN nq).cell? ⟨ib, ioff, none⟩ = _ := hc0
                  have y1' : (wr.drewN nq).cell? ⟨ib, ioff + 1, none⟩ = _ := hc1
                  have HP2 := Lib.hid (HP.out.drewN nq)
                  have HX2 : Hid (Xb (wr.drewN nq) xb r d h l) := HX.out
                  have HB2 := Lib.hid (below_drewN HB.out nq)
                  clear x0 x1 x2 x3 f0 f1 f2 f3 hc0 hc1 HP HX HB hcx
                  generalize wr.drewN nq = w3 at *
                  go_wp2_with fail
                  go_region_law (first | (go_simp; go_at_call 14; refine (D.out _).mono ?_; rintro e w4 ⟨rfl, hB0⟩; have P4 : Hid (Buck w4 b r d h l) := Buck.bel (w := w3) HP2.out ⟨hB0.os, hB0.tape, hB0.output, hB0.size, hB0.block⟩; have X4 : Hid (Xb w4 xb r d h l) := Xb.below (w := w3) HX2.out ⟨hB0.os, hB0.tape, hB0.output, hB0.size, hB0.block⟩; have B4 : Hid (Below w.heap.size w w4) := HB2.out.trans (Below.mono (w := w3) ⟨hB0.os, hB0.tape, hB0.output, hB0.size, hB0.block⟩ HB2.out.size); clear hB0; have x0 := Obj.cell X4.out 0; have x1 := Obj.cell X4.out 1; have x2 := Obj.cell X4.out 2; have x3 := Obj.cell X4.out 3; have f0 := Obj.free X4.out 0; have f1 := Obj.free X4.out 1; have f2 := Obj.free X4.out 2; have f3 := Obj.free X4.out 3; simp only [List.getElem?_cons_zero, List.getElem?_cons_succ] at x0 x1 x2 x3))
                  all_goals
                    clear x0' x1' x2' x3' y0' y1'
                    go_wp2_with fail
                    have P5 : Hid (Buck ((((w4.setCell ⟨xb, 0, none⟩ (.int .i64 r)).setCell ⟨xb, 1, none⟩ (.int .i64 d)).setCell ⟨xb, 2, none⟩ (.int .i64 h9)).setCell ⟨xb, 3, none⟩ (.int .i64 at_)) b r d h l) := Buck.other (Buck.other (Buck.other (Buck.other P4.out hne) hne) hne) hne
                    have X5 : Hid (Xb ((((w4.setCell ⟨xb, 0, none⟩ (.int .i64 r)).setCell ⟨xb, 1, none⟩ (.int .i64 d)).setCell ⟨xb, 2, none⟩ (.int .i64 h9)).setCell ⟨xb, 3, none⟩ (.int .i64 at_)) xb r d h9 at_) := Obj.set (Obj.set (Obj.set (Obj.set X4.out 0 _) 1 _) 2 _) 3 _
                    have B5 : Hid (Below w.heap.size w ((((w4.setCell ⟨xb, 0, none⟩ (.int .i64 r)).setCell ⟨xb, 1, none⟩ (.int .i64 d)).setCell ⟨xb, 2, none⟩ (.int .i64 h9)).setCell ⟨xb, 3, none⟩ (.int .i64 at_))) := (((B4.out.setCell hwx _).setCell hwx _).setCell hwx _).setCell hwx _
                    generalize ((((w4.setCell ⟨xb, 0, none⟩ (.int .i64 r)).setCell ⟨xb, 1, none⟩ (.int .i64 d)).setCell ⟨xb, 2, none⟩ (.int .i64 h9)).setCell ⟨xb, 3, none⟩ (.int .i64 at_)) = w5 at *
                    clear x0 x1 x2 x3 f0 f1 f2 f3
                    simp only [Act.put, List.setIfInBounds_toArray, List.set_cons_succ, List.set_cons_zero]
                    have hc0 := (B5.out.cell (p := ⟨ib, ioff, none⟩) hib).trans HI0.out
                    have hc1 := (B5.out.cell (p := ⟨ib, ioff + 1, none⟩) hib).trans HI1.out
                    go_region_held3 (fun w' => w'.cell? ⟨ib, ioff, none⟩ = some (.int .i64 at_) ∧ w'.cell? ⟨ib, ioff + 1, none⟩ = some (.int .i64 n)) (first | go_keep | exact ⟨hy0, hy1⟩) ((first | (go_at_call 15; refine (C.out _ (Buck.drew P5.out)).mono ?_; rintro e w6 ⟨rfl, ho, hg⟩; have P6 := Lib.hid ho; clear ho; have X6 : Hid (Xb w6 xb r d (h9) (at_)) := Xb.kept (w := w5.drew) X5.out hg (Ne.symm hne); have B6 : Hid (Below w.heap.size w w6) := B5.out.drew.trans (below_grown hg hwb (Buck.drew P5.out).lt); have hy0 := (B6.out.cell (p := ⟨ib, ioff, none⟩) hib).trans HI0.out; have hy1 := (B6.out.cell (p := ⟨ib, ioff + 1, none⟩) hib).trans HI1.out; clear hg)))
                    clear hc0 hc1
                    go_wp2_with fail
                    refine (has_any _ _ _ _ _ _ P6.out).mono ?_
                    rintro e w7 ⟨rfl, nd, rfl⟩
                    have P7 := Lib.hid (P6.out.drewN nd)
                    have X7 : Hid (Xb (w6.drewN nd) xb r d (h9) (at_)) := X6.out
                    have B7 := Lib.hid (below_drewN B6.out nd)
                    generalize w6.drewN nd = w7 at *
                    have E := Lib.hid (err_same 0 w7 (HD.out.later B7.out))
                    have e0 : errOr 0 = .nilIface := rfl
                    rw [e0] at E
                    clear e0
                    go_wp2_with fail
                    refine E.out.mono ?_
                    clear E
                    rintro e w8 ⟨rfl, hB⟩
                    have P8 := Lib.hid (Buck.bel P7.out hB)
                    have X8 := Lib.hid (Xb.below X7.out hB)
                    have B8 : Hid (Below w.heap.size w w8) := B7.out.trans (hB.mono B7.out.size)
                    clear hB
                    have z2 := X8.out.cell 2
                    have z3 := X8.out.cell 3
                    simp only [List.getElem?_cons_zero, List.getElem?_cons_succ] at z2 z3
                    go_wp2_with fail
                    go_roundw
                    case rel => exact ⟨k + 1, h9, at_, by omega, by omega, by go_num, HO2.out, P8.out, X8.out, B8.out⟩
                    case measure => simp [intOf]; omega
              · have hla2 : at_ < l := by omega
                clear hla
                have C : Hid (∀ w', Buck w' b r d h l → Calls Tryd.prog 15 #[.pointer (some ⟨b, 0, none⟩), .int .i64 at_, .int .i64 n] w' fun e w'' => e = .returned (.tuple #[.bool false, errV 7]) ∧ Buck w'' b r d h l ∧ w'.grownBy w'' (some b)) :=
                  fun w' ho => (btake_state b r d h l at_ n w' ho v0 v1 v2 v3 hla2).mono fun e w'' ⟨h1, h2⟩ => ⟨h1, by subst h2; exact ho, by subst h2; exact grown_refl _ _⟩
                have HO2 := HK
                go_wp2_with fail
                refine (in_in _ _ _ _ v0 v1).mono ?_
                rintro e w' ⟨rfl, rfl⟩
                go_wp2_with fail
                refine (in_in _ _ _ _ v2 v3).mono ?_
                rintro e w' ⟨rfl, rfl⟩
                go_wp2_with fail
                go_quiet (fail)
                have P5 := Lib.hid (HP.out.drewN nq)
                have X5 : Hid (Xb (wr.drewN nq) xb r d h l) := HX.out
                have B5 := Lib.hid (below_drewN HB.out nq)
                clear x0 x1 x2 x3 f0 f1 f2 f3 hc0 hc1 HP HX HB hcx
                generalize wr.drewN nq = w5 at *
                go_wp2_with fail
                have hc0 := (B5.out.cell (p := ⟨ib, ioff, none⟩) hib).trans HI0.out
                have hc1 := (B5.out.cell (p := ⟨ib, ioff + 1, none⟩) hib).trans HI1.out
                go_region_held3 (fun w' => w'.cell? ⟨ib, ioff, none⟩ = some (.int .i64 at_) ∧ w'.cell? ⟨ib, ioff + 1, none⟩ = some (.int .i64 n)) (first | go_keep | exact ⟨hy0, hy1⟩) ((first | (go_at_call 15; refine (C.out _ (Buck.drew P5.out)).mono ?_; rintro e w6 ⟨rfl, ho, hg⟩; have P6 := Lib.hid ho; clear ho; have X6 : Hid (Xb w6 xb r d (h) (l)) := Xb.kept (w := w5.drew) X5.out hg (Ne.symm hne); have B6 : Hid (Below w.heap.size w w6) := B5.out.drew.trans (below_grown hg hwb (Buck.drew P5.out).lt); have hy0 := (B6.out.cell (p := ⟨ib, ioff, none⟩) hib).trans HI0.out; have hy1 := (B6.out.cell (p := ⟨ib, ioff + 1, none⟩) hib).trans HI1.out; clear hg)))
                clear hc0 hc1
                go_wp2_with fail
                refine (has_any _ _ _ _ _ _ P6.out).mono ?_
                rintro e w7 ⟨rfl, nd, rfl⟩
                have P7 := Lib.hid (P6.out.drewN nd)
                have X7 : Hid (Xb (w6.drewN nd) xb r d (h) (l)) := X6.out
                have B7 := Lib.hid (below_drewN B6.out nd)
                generalize w6.drewN nd = w7 at *
                have E := Lib.hid (err_same 7 w7 (HD.out.later B7.out))
                have e0 : errOr 7 = errV 7 := rfl
                rw [e0] at E
                clear e0
                go_wp2_with fail
                refine E.out.mono ?_
                clear E
                rintro e w8 ⟨rfl, hB⟩
                have P8 := Lib.hid (Buck.bel P7.out hB)
                have X8 := Lib.hid (Xb.below X7.out hB)
                have B8 : Hid (Below w.heap.size w w8) := B7.out.trans (hB.mono B7.out.size)
                clear hB
                have z2 := X8.out.cell 2
                have z3 := X8.out.cell 3
                simp only [List.getElem?_cons_zero, List.getElem?_cons_succ] at z2 z3
                go_wp2_with fail
                go_roundw
                case rel => exact ⟨k + 1, h, l, by omega, by omega, by go_num, HO2.out, P8.out, X8.out, B8.out⟩
                case measure => simp [intOf]; omega
            · have HV := Lib.hid (show n < 0 ∨ 100 < n by omega)
              clear hw
              have C : Hid (∀ w', Buck w' b r d h l → Calls Tryd.prog 15 #[.pointer (some ⟨b, 0, none⟩), .int .i64 at_, .int .i64 n] w' fun e w'' => e = .returned (.tuple #[.bool false, errV 1]) ∧ Buck w'' b r d h l ∧ w'.grownBy w'' (some b)) :=
                fun w' ho => (btake_no b at_ n w' (.inr HV.out)).mono fun e w'' ⟨h1, h2⟩ => ⟨h1, by subst h2; exact ho, by subst h2; exact grown_refl _ _⟩
              have HO2 := HK
              go_wp2_with fail
              refine (in_in _ _ _ _ v0 v1).mono ?_
              rintro e w' ⟨rfl, rfl⟩
              go_wp2_with fail
              refine (in_out _ _ _ _ HV.out).mono ?_
              rintro e w' ⟨rfl, rfl⟩
              go_wp2_with fail
              have P5 := HP
              have X5 := HX
              have B5 := HB
              clear x0 x1 x2 x3 f0 f1 f2 f3 hc0 hc1 HP HX HB hcx
              obtain ⟨w5, hw5⟩ : ∃ w5 : World, w5 = wr := ⟨_, rfl⟩
              subst hw5
              have hc0 := (B5.out.cell (p := ⟨ib, ioff, none⟩) hib).trans HI0.out
              have hc1 := (B5.out.cell (p := ⟨ib, ioff + 1, none⟩) hib).trans HI1.out
              go_region_held3 (fun w' => w'.cell? ⟨ib, ioff, none⟩ = some (.int .i64 at_) ∧ w'.cell? ⟨ib, ioff + 1, none⟩ = some (.int .i64 n)) (first | go_keep | exact ⟨hy0, hy1⟩) ((first | (go_at_call 15; refine (C.out _ (Buck.drew P5.out)).mono ?_; rintro e w6 ⟨rfl, ho, hg⟩; have P6 := Lib.hid ho; clear ho; have X6 : Hid (Xb w6 xb r d (h) (l)) := Xb.kept (w := w5.drew) X5.out hg (Ne.symm hne); have B6 : Hid (Below w.heap.size w w6) := B5.out.drew.trans (below_grown hg hwb (Buck.drew P5.out).lt); have hy0 := (B6.out.cell (p := ⟨ib, ioff, none⟩) hib).trans HI0.out; have hy1 := (B6.out.cell (p := ⟨ib, ioff + 1, none⟩) hib).trans HI1.out; clear hg)))
              clear hc0 hc1
              go_wp2_with fail
              refine (has_any _ _ _ _ _ _ P6.out).mono ?_
              rintro e w7 ⟨rfl, nd, rfl⟩
              have P7 := Lib.hid (P6.out.drewN nd)
              have X7 : Hid (Xb (w6.drewN nd) xb r d (h) (l)) := X6.out
              have B7 := Lib.hid (below_drewN B6.out nd)
              generalize w6.drewN nd = w7 at *
              have E := Lib.hid (err_same 1 w7 (HD.out.later B7.out))
              have e0 : errOr 1 = errV 1 := rfl
              rw [e0] at E
              clear e0
              go_wp2_with fail
              refine E.out.mono ?_
              clear E
              rintro e w8 ⟨rfl, hB⟩
              have P8 := Lib.hid (Buck.bel P7.out hB)
              have X8 := Lib.hid (Xb.below X7.out hB)
              have B8 : Hid (Below w.heap.size w w8) := B7.out.trans (hB.mono B7.out.size)
              clear hB
              have z2 := X8.out.cell 2
              have z3 := X8.out.cell 3
              simp only [List.getElem?_cons_zero, List.getElem?_cons_succ] at z2 z3
              go_wp2_with fail
              go_roundw
              case rel => exact ⟨k + 1, h, l, by omega, by omega, by go_num, HO2.out, P8.out, X8.out, B8.out⟩
              case measure => simp [intOf]; omega
          · have HV := Lib.hid (show at_ < 0 ∨ 1000 < at_ by omega)
            clear hv
            have C : Hid (∀ w', Buck w' b r d h l → Calls Tryd.prog 15 #[.pointer (some ⟨b, 0, none⟩), .int .i64 at_, .int .i64 n] w' fun e w'' => e = .returned (.tuple #[.bool false, errV 1]) ∧ Buck w'' b r d h l ∧ w'.grownBy w'' (some b)) :=
              fun w' ho => (btake_no b at_ n w' (.inl HV.out)).mono fun e w'' ⟨h1, h2⟩ => ⟨h1, by subst h2; exact ho, by subst h2; exact grown_refl _ _⟩
            have HO2 := HK
            go_wp2_with fail
            refine (in_out _ _ _ _ HV.out).mono ?_
            rintro e w' ⟨rfl, rfl⟩
            go_wp2_with fail
            have P5 := HP
            have X5 := HX
            have B5 := HB
            clear x0 x1 x2 x3 f0 f1 f2 f3 hc0 hc1 HP HX HB hcx
            obtain ⟨w5, hw5⟩ : ∃ w5 : World, w5 = wr := ⟨_, rfl⟩
            subst hw5
            have hc0 := (B5.out.cell (p := ⟨ib, ioff, none⟩) hib).trans HI0.out
            have hc1 := (B5.out.cell (p := ⟨ib, ioff + 1, none⟩) hib).trans HI1.out
            go_region_held3 (fun w' => w'.cell? ⟨ib, ioff, none⟩ = some (.int .i64 at_) ∧ w'.cell? ⟨ib, ioff + 1, none⟩ = some (.int .i64 n)) (first | go_keep | exact ⟨hy0, hy1⟩) ((first | (go_at_call 15; refine (C.out _ (Buck.drew P5.out)).mono ?_; rintro e w6 ⟨rfl, ho, hg⟩; have P6 := Lib.hid ho; clear ho; have X6 : Hid (Xb w6 xb r d (h) (l)) := Xb.kept (w := w5.drew) X5.out hg (Ne.symm hne); have B6 : Hid (Below w.heap.size w w6) := B5.out.drew.trans (below_grown hg hwb (Buck.drew P5.out).lt); have hy0 := (B6.out.cell (p := ⟨ib, ioff, none⟩) hib).trans HI0.out; have hy1 := (B6.out.cell (p := ⟨ib, ioff + 1, none⟩) hib).trans HI1.out; clear hg)))
            clear hc0 hc1
            go_wp2_with fail
            refine (has_any _ _ _ _ _ _ P6.out).mono ?_
            rintro e w7 ⟨rfl, nd, rfl⟩
            have P7 := Lib.hid (P6.out.drewN nd)
            have X7 : Hid (Xb (w6.drewN nd) xb r d (h) (l)) := X6.out
            have B7 := Lib.hid (below_drewN B6.out nd)
            generalize w6.drewN nd = w7 at *
            have E := Lib.hid (err_same 1 w7 (HD.out.later B7.out))
            have e0 : errOr 1 = errV 1 := rfl
            rw [e0] at E
            clear e0
            go_wp2_with fail
            refine E.out.mono ?_
            clear E
            rintro e w8 ⟨rfl, hB⟩
            have P8 := Lib.hid (Buck.bel P7.out hB)
            have X8 := Lib.hid (Xb.below X7.out hB)
            have B8 : Hid (Below w.heap.size w w8) := B7.out.trans (hB.mono B7.out.size)
            clear hB
            have z2 := X8.out.cell 2
            have z3 := X8.out.cell 3
            simp only [List.getElem?_cons_zero, List.getElem?_cons_succ] at z2 z3
            go_wp2_with fail
            go_roundw
            case rel => exact ⟨k + 1, h, l, by omega, by omega, by go_num, HO2.out, P8.out, X8.out, B8.out⟩
            case measure => simp [intOf]; omega
        · have h2b : ((lk : Int) != 2) = true := by simp; omega
          clear h2 hrow
          go_wp2_with fail
          go_roundw
          case rel => exact ⟨k + 1, h, l, by omega, by omega, by go_num, HK.out, HP.out, HX.out, HB.out⟩
          case measure => simp [intOf]; omega
      · go_wp2_with fail
        all_goals
          go_ret
          exact ⟨rfl, HB.out⟩
  · have HV := Lib.hid (show (r < 0 ∨ 20 < r) ∨ (d < 0 ∨ 100 < d) by omega)
    have E := Lib.hid (err_same 1 w HD.out)
    have e0 : errOr 1 = errV 1 := rfl
    rw [e0] at E
    clear e0
    by_cases hr2 : 0 ≤ r ∧ r ≤ 20
    · obtain ⟨r0, r1⟩ := hr2
      have HW := Lib.hid (show d < 0 ∨ 100 < d by omega)
      clear hv
      go_enter Tryd.func4, Tryd.ntmps4
      go_wp2_with fail
      refine (bnew_no _ _ _ HV.out).mono ?_
      rintro e w' ⟨rfl, rfl⟩
      go_wp2_with fail
      refine (in_in _ _ _ _ r0 r1).mono ?_
      rintro e w' ⟨rfl, rfl⟩
      go_wp2_with fail
      refine (in_out _ _ _ _ HW.out).mono ?_
      rintro e w' ⟨rfl, rfl⟩
      go_wp2_with fail
      refine E.out.mono ?_
      rintro e w3 ⟨rfl, hB⟩
      have B3 := Lib.hid hB; clear hB
      go_wp2
      go_ret
      exact ⟨rfl, B3.out⟩
    · have HW := Lib.hid (show r < 0 ∨ 20 < r by omega)
      clear hv hr2
      go_enter Tryd.func4, Tryd.ntmps4
      go_wp2_with fail
      refine (bnew_no _ _ _ HV.out).mono ?_
      rintro e w' ⟨rfl, rfl⟩
      go_wp2_with fail
      refine (in_out _ _ _ _ HW.out).mono ?_
      rintro e w' ⟨rfl, rfl⟩
      go_wp2_with fail
      refine E.out.mono ?_
      rintro e w3 ⟨rfl, hB⟩
      have B3 := Lib.hid hB; clear hB
      go_wp2
      go_ret
      exact ⟨rfl, B3.out⟩
end Go.Proofs.YthnpbcnnpmohaaaDoor.bucketPlays
