/- CurveMore returns true for every input: the walk. -/
import Derived.Test.YtikdpjedlbkkjaaCurveL
namespace Go.Proofs.Ytikdpjedlbkkjaa.curveMore
open Go.RowKit
set_option linter.unusedSimpArgs false
set_option linter.unusedVariables false

theorem more_at (fs : List Int) (by_ : Int) (k : Nat) (hk : k < fs.length) : (fs.map (· + by_)).getD k 0 = fs.getD k 0 + by_ := by
  simp [List.getD_eq_getElem?_getD, hk]
theorem take_more (fs : List Int) (by_ : Int) (k : Nat) (hk : k < fs.length) : (fs.take (k + 1)).map (· + by_) = (fs.take k).map (· + by_) ++ [fs.getD k 0 + by_] := by
  rw [List.take_succ_eq_append_getElem hk, List.map_append]
  simp [List.getD_eq_getElem?_getD, hk]
/-- More is a curve as well, unless its last is too much. -/
theorem more_curve {fs : List Int} (h : Curve fs) {by_ : Int} (hb : 0 ≤ by_) (hl : fs.getD (fs.length - 1) 0 + by_ ≤ 1000) : Curve (fs.map (· + by_)) := by
  refine ⟨by simpa using h.some, by simpa using h.few, fun k hk => ?_, fun k hk => ?_⟩
  · rw [List.length_map] at hk
    rw [more_at fs by_ k hk]
    have h1 := h.fits k hk
    have h2 := h.mono k (fs.length - 1) (by omega) (by have := h.some; omega)
    simp only at h2
    omega
  · rw [List.length_map] at hk
    rw [more_at fs by_ k (by omega), more_at fs by_ (k + 1) hk]
    have := h.rise k hk; omega
theorem more_last {fs gs : List Int} (h : Curve fs) (hg : Curve gs) (hl : fs.length = gs.length) {by_ : Int} (hb : 0 ≤ by_) (he : bothE (fs.map (· + by_)) gs ≠ 0) : 1000 < fs.getD (fs.length - 1) 0 + by_ := by
  apply Classical.byContradiction
  intro hn
  exact he (both_mk (more_curve h hb (by omega)) hg (by simpa using hl))
theorem more_fold (fs gs : List Int) (by_ : Int) (n t : Nat) (ht : t < n) (hn : n = fs.length) : (foldL (fs.map (· + by_)) gs n).getD t 0 = (foldL fs gs n).getD t 0 + by_ := by
  rw [foldL_at _ _ _ _ ht, foldL_at _ _ _ _ ht, ← Cv.fld_more]
  exact Cv.fld_congr (fun s hs => more_at fs by_ s (by omega)) (fun s hs => rfl)
theorem more_back (fs gs : List Int) {by_ : Int} (hb : 0 ≤ by_) (n : Nat) (hn : n = fs.length) : Cv.bkN (gD fs) (gD gs) n ≤ Cv.bkN (gD (fs.map (· + by_))) (gD gs) n ∧ Cv.bkN (gD (fs.map (· + by_))) (gD gs) n ≤ Cv.bkN (gD fs) (gD gs) n + by_ := by
  have h1 := Cv.bkN_ge (gD fs) (gD gs) n
  have h2 := Cv.bkN_ge (gD (fs.map (· + by_))) (gD gs) n
  refine ⟨Cv.bkN_le h2.1 fun t ht => ?_, Cv.bkN_le (by omega) fun t ht => ?_⟩
  · have h3 := h2.2 t ht
    have h4 := more_at fs by_ t (by omega)
    unfold gD at h3 ⊢
    rw [h4] at h3; omega
  · have h3 := h1.2 t ht
    have h4 := more_at fs by_ t (by omega)
    unfold gD at h3 ⊢
    rw [h4]; omega

set_option maxHeartbeats 8000000 in
set_option maxRecDepth 100000 in
theorem walk (aF : Option Addr) (lF cF : Nat) (fs : List Int) (aG : Option Addr) (lG cG : Nat) (gs : List Int) (by_ : Int) (w : World) (hF : Ints w w.heap.size aF lF fs) (hG : Ints w w.heap.size aG lG gs) (hby : -9223372036854775808 ≤ by_ ∧ by_ ≤ 9223372036854775807) :
    Calls Try.prog 4 #[.slice aF lF cF, .slice aG lG cG, .int .i64 by_] w fun e w' => e = .returned (.bool true) ∧ Below w.heap.size w w' := by
  have HF := Lib.hid hF; clear hF
  have HG := Lib.hid hG; clear hG
  obtain ⟨i0, hi, hz0, hz1, hz2⟩ := info_parts cvInt
  go_enter Try.func4, Try.ntmps4
  go_wp2_with fail
  refine (cfact_any _).mono ?_
  rintro e w1 ⟨rfl, hb1⟩
  have B1 := Lib.hid hb1; clear hb1
  have F1 := Lib.hid (HF.out.later B1.out)
  have G1 := Lib.hid (HG.out.later B1.out)
  by_cases h1 : bothE fs gs = 0
  · obtain ⟨kf, kg, hll⟩ := both_zero h1
    have hll2 := hll
    rw [HF.out.size, HG.out.size] at hll2
    subst hll2
    have hone : 1 ≤ lF := by rw [← HF.out.size]; exact kf.some
    have hlen : lF ≤ 16 := by rw [← HF.out.size]; exact kf.few
    have hfb : Hid (∀ k, k < lF → 0 ≤ fs.getD k 0 ∧ fs.getD k 0 ≤ 1000) := by show ∀ k, _; rw [← HF.out.size]; exact kf.fits
    have hfl : Hid (fs.length = lF) := HF.out.size
    have HH1 := Lib.hid h1
    have HKF := Lib.hid kf
    have HKG := Lib.hid kg
    have HLL := Lib.hid hll
    have hbk0 := Cv.bkN_bounds (n := lF) (M := 1000) (by decide) (f := gD fs) (g := gD gs) hfb.out (fun k hk => (kg.fits k (by rw [← hll, hfl.out]; exact hk)).1) lF (Nat.le_refl _)
    clear h1 kf kg hll
    go_wp2_with fail
    refine (fold_yes aF aG lF cF cG fs gs w1 F1.out G1.out HH1.out).mono ?_
    rintro e w2 ⟨g, c, rfl, hgi, hB⟩
    have A2 := Lib.hid hgi
    have B2 : Hid (Below w.heap.size w w2) := B1.out.trans (hB.mono B1.out.size)
    have F2 := Lib.hid (F1.out.later hB)
    have G2 := Lib.hid (G1.out.later hB)
    clear hgi hB
    go_wp2_with fail
    refine (backlog_yes aF aG lF cF cG fs gs _ _ w2 F2.out G2.out HH1.out).mono ?_
    rintro e w3 ⟨rfl, hd⟩
    have hdb : Below w2.heap.size w2 w3 := Drawn.below hd
    have B3 : Hid (Below w.heap.size w w3) := B2.out.trans (hdb.mono B2.out.size)
    have A3 := Lib.hid (A2.out.later hdb)
    have F3 := Lib.hid (F2.out.later hdb)
    have G3 := Lib.hid (G2.out.later hdb)
    clear hd hdb A2
    by_cases hb : 0 ≤ by_ ∧ by_ ≤ 1000
    · obtain ⟨y0, y1⟩ := hb
      clear hby
      have HBK := Lib.hid (more_back fs gs y0 lF hfl.out.symm)
      have HFO := Lib.hid (fun t ht => more_fold fs gs by_ lF t ht hfl.out.symm)
      generalize Cv.bkN (gD fs) (gD gs) lF = bk at *
      go_wp2_with fail
      refine (in_in _ _ _ _ y0 y1).mono ?_
      rintro e w' ⟨rfl, rfl⟩
      go_wp2_with fail
      go_loopw [12, 13] (fun v12 v13 wr => ∃ k : Nat, k ≤ lF ∧ v13 = .int .i64 k ∧ wr.ownsRow w3.heap.size 3 1 v12 k (((fs.take k).map (· + by_)).map (.int .i64)) ∧ Below w3.heap.size w3 wr) (fun _ v13 _ => lF - (intOf v13).toNat)
      case atStart => exact ⟨0, by omega, rfl, World.ownsRow_nil _ _ _ _, Below.refl _ _⟩
      case round =>
        obtain ⟨k, hk, rfl, hown, hB⟩ := hrel
        have HOW := Lib.hid hown; clear hown
        have HB := Lib.hid hB; clear hB
        have hsz := HB.out.size
        by_cases hkl : k < lF
        · obtain ⟨fb, fo, rfl, hfbl, hc⟩ := F3.out.cell k hkl
          have hcx := (HB.out.cell (p := ⟨fb, fo + k, none⟩) hfbl).trans hc
          clear hc
          have hbx := hfb.out k hkl
          have HTK := Lib.hid (take_more fs by_ k (by rw [hfl.out]; exact hkl))
          generalize fs.getD k 0 = x at *
          go_wp2_with (first | (at_builtin; go_loud (refine wpList_append_lies _ rfl _ _ 22 rfl w3.heap.size 3 i0 (.int .i64 0) 1 8 Try.underlying22 hi hz0 hz1 hz2 rfl (by decide) _ _ _ rfl (HOW.out.alloc _) ⟨wr.heap.size, 0, none⟩ 1 1 [.int .i64 (x + by_)] rfl rfl (cell_one_new _ _ _) (by intro u hu; simp at hu; subst hu; rfl) (by decide) (by unfold maxLen; omega) (by omega) (by simp; omega) _ rfl ?_)))
          intro g9 c9 w4 hown1 hgrow1 hat1 hlt1
          have HB4 : Hid (Below w3.heap.size w3 w4) := below_row (HB.out.alloc hsz _) hgrow1 (Nat.le_refl _) (by simp; omega) (HOW.out.alloc _)
          have HOW4 := Lib.hid hown1
          clear hown1 hgrow1 hat1 hlt1 hcx
          go_wp2_with fail
          go_roundw
          case rel => exact ⟨k + 1, by omega, by go_num, by have := HOW4.out; rw [HTK.out]; simpa using this, HB4.out⟩
          case measure => simp [intOf] <;> omega
        · have HOW3 := HOW.out
          rw [show k = lF from by omega, List.take_of_length_le (by rw [hfl.out]; exact Nat.le_refl _)] at HOW3
          obtain ⟨m9, c9, hv9, hcel, _⟩ := Cel.form HOW3 hone
          subst hv9
          have hmf : ∀ y ∈ fs.map (· + by_), 0 ≤ y ∧ y ≤ 2000 := fun y hy => by
            obtain ⟨j, hj, rfl⟩ := List.getElem_of_mem hy
            rw [List.length_map] at hj
            have h9 := more_at fs by_ j hj
            have h8 := hfb.out j (by rw [← hfl.out]; exact hj)
            simp only [List.getD_eq_getElem?_getD, List.getElem?_eq_getElem hj, List.getElem?_eq_getElem (show j < (fs.map (· + by_)).length by simpa using hj), Option.some.injEq, Option.getD_some] at h9 h8
            omega
          have M4 := Lib.hid (hcel.ints (n := lF) (by rw [List.length_map]; exact hfl.out) (by omega) (fits_of (M := 2000) (by decide) hmf))
          have B4 : Hid (Below w.heap.size w wr) := B3.out.trans (HB.out.mono B3.out.size)
          have A4 := Lib.hid (A3.out.later HB.out)
          have G4 := Lib.hid (G3.out.later HB.out)
          clear hcel HOW3 HOW hmf
          by_cases h2 : bothE (fs.map (· + by_)) gs = 0
          · have HH2 := Lib.hid h2
            have hmb := Cv.bkN_bounds (n := lF) (M := 1000) (by decide) (f := gD (fs.map (· + by_))) (g := gD gs) (fun j hj => (both_zero h2).1.fits j (by rw [List.length_map, hfl.out]; exact hj)) (fun j hj => (HKG.out.fits j (by rw [← HLL.out, hfl.out]; exact hj)).1) lF (Nat.le_refl _)
            have HAB : Hid (∀ t, t < lF → 0 ≤ (foldL fs gs lF).getD t 0 ∧ (foldL fs gs lF).getD t 0 ≤ 2000) := fun t ht => by
              rw [foldL_at _ _ _ _ ht]
              exact Cv.fldN_bounds (f := gD fs) (g := gD gs) hfb.out (fun j hj => HKG.out.fits j (by rw [← HLL.out, hfl.out]; exact hj)) t (t + 1) ht (Nat.le_refl _)
            clear h2
            go_wp2_with fail
            refine (fold_yes (some ⟨m9, 0, none⟩) aG lF c9 cG (fs.map (· + by_)) gs wr M4.out G4.out HH2.out).mono ?_
            rintro e w5 ⟨g5, c5, rfl, hgi, hB⟩
            have C5 := Lib.hid hgi
            have B5 : Hid (Below w.heap.size w w5) := B4.out.trans (hB.mono B4.out.size)
            have A5 := Lib.hid (A4.out.later hB)
            have M5 := Lib.hid (M4.out.later hB)
            have G5 := Lib.hid (G4.out.later hB)
            clear hgi hB
            go_wp2_with fail
            refine (backlog_yes (some ⟨m9, 0, none⟩) aG lF c9 cG (fs.map (· + by_)) gs _ _ w5 M5.out G5.out HH2.out).mono ?_
            rintro e w6 ⟨rfl, hd⟩
            have hdb : Below w5.heap.size w5 w6 := Drawn.below hd
            have B6 : Hid (Below w.heap.size w w6) := B5.out.trans (hdb.mono B5.out.size)
            have A6 := Lib.hid (A5.out.later hdb)
            have C6 := Lib.hid (C5.out.later hdb)
            clear hd hdb
            obtain ⟨bk1, bk2⟩ := HBK.out
            generalize Cv.bkN (gD (fs.map (· + by_))) (gD gs) lF = bm at *
            obtain ⟨l0, l1⟩ := hbk0
            go_wp2_with fail
            go_loopw [16] (fun v16 wr => ∃ t : Nat, t ≤ lF ∧ v16 = .int .i64 t ∧ Drawn w6 wr) (fun v16 _ => lF - (intOf v16).toNat)
            case atStart => exact ⟨0, by omega, rfl, Drawn.refl _⟩
            case round =>
              obtain ⟨t, ht, rfl, hdw⟩ := hrel
              have HW := Lib.hid hdw; clear hdw
              by_cases hlt : t < lF
              · obtain ⟨ab, ao, he, _, hc⟩ := A6.out.cell t hlt
                simp only [Option.some.injEq, Addr.mk.injEq, and_true] at he
                obtain ⟨rfl, rfl⟩ := he
                obtain ⟨db, do_, he, _, hc2⟩ := C6.out.cell t hlt
                simp only [Option.some.injEq, Addr.mk.injEq, and_true] at he
                obtain ⟨rfl, rfl⟩ := he
                have hc := HW.out.cell hc
                have hc2 := HW.out.cell hc2
                rw [HFO.out t hlt] at hc2
                rw [Nat.zero_add] at hc hc2
                have hab := HAB.out t hlt
                generalize (foldL fs gs lF).getD t 0 = x at *
                have q1 : (0 : Int) ≤ (t : Int) := by omega
                have q2 : (t : Int) < (lF : Int) := by omega
                have q6 : IntKind.i64.wrap (x + by_) = x + by_ := IntWalk.i64_in _ (by omega)
                go_wp2_with fail
                go_quiet (fail)
                clear q6
                go_wp2_with fail
                go_roundw
                case rel => exact ⟨t + 1, by omega, by go_num, HW.out.more _⟩
                case measure => simp [intOf] <;> omega
              · go_wp2_with fail
                go_ret
                exact ⟨rfl, B6.out.trans HW.out.below⟩
          · have hlast := more_last HKF.out HKG.out HLL.out y0 h2
            rw [← more_at fs by_ (fs.length - 1) (by rw [hfl.out]; omega), hfl.out] at hlast
            have hE1 := Lib.hid (fold_no (some ⟨m9, 0, none⟩) aG lF c9 lF cG (fs.map (· + by_)) gs _ _ wr M4.out G4.out h2)
            have hE2 := Lib.hid (fun w' h h' => backlog_no (some ⟨m9, 0, none⟩) aG lF c9 lF cG (fs.map (· + by_)) gs wr.heap.size wr.heap.size w' h h' h2)
            obtain ⟨lb, lo, he, _, hlc⟩ := M4.out.cell (lF - 1) (by omega)
            simp only [Option.some.injEq, Addr.mk.injEq, and_true] at he
            obtain ⟨rfl, rfl⟩ := he
            have hlc' : wr.cell? ⟨m9, lF - 1, none⟩ = some (.int .i64 ((fs.map (· + by_)).getD (lF - 1) 0)) := by rw [Nat.zero_add] at hlc; exact hlc
            clear h2 hlc
            generalize bothE (fs.map (· + by_)) gs = n at *
            generalize (fs.map (· + by_)).getD (lF - 1) 0 = z at *
            go_wp2_with fail
            refine hE1.out.mono ?_
            rintro e w5 ⟨rfl, hd⟩
            have hdd : Drawn wr w5 := hd
            have hdb : Below wr.heap.size wr w5 := Drawn.below hdd
            have M5 := Lib.hid (M4.out.below hdb)
            have G5 := Lib.hid (G4.out.below hdb)
            have hl5 := hdd.cell hlc'
            have B5 : Hid (Below w.heap.size w w5) := B4.out.trans (hdb.mono B4.out.size)
            clear hd hdd hdb hlc'
            go_wp2_with fail
            refine (hE2.out w5 M5.out G5.out).mono ?_
            rintro e w6 ⟨rfl, hd⟩
            have hdd : Drawn w5 w6 := hd
            have hl6 := hdd.cell hl5
            have B6 : Hid (Below w.heap.size w w6) := B5.out.trans (Drawn.below hdd)
            clear hd hdd hl5
            have q1 : (0 : Int) ≤ (lF : Int) - 1 := by omega
            have q2 : (lF : Int) - 1 < (lF : Int) := by omega
            have q3 : ((lF : Int) - 1).toNat = lF - 1 := by omega
            go_wp2_with fail
            go_ret
            exact ⟨by simp [hlast], B6.out⟩
    · have HV := Lib.hid (show by_ < 0 ∨ 1000 < by_ by omega)
      clear hb
      generalize Cv.bkN (gD fs) (gD gs) lF = bk at *
      go_wp2_with fail
      refine (in_out _ _ _ _ HV.out).mono ?_
      rintro e w' ⟨rfl, rfl⟩
      go_wp2_with fail
      go_ret
      exact ⟨rfl, B3.out⟩
  · have hE1 := Lib.hid (fold_no aF aG lF cF lG cG fs gs _ _ w1 F1.out G1.out h1)
    have hE2 := Lib.hid (fun w' h h' => backlog_no aF aG lF cF lG cG fs gs w1.heap.size w1.heap.size w' h h' h1)
    clear h1
    generalize bothE fs gs = n at *
    go_wp2_with fail
    refine hE1.out.mono ?_
    rintro e w2 ⟨rfl, hd⟩
    have hdb : Below w1.heap.size w1 w2 := Drawn.below hd
    have F2 := Lib.hid (F1.out.below hdb)
    have G2 := Lib.hid (G1.out.below hdb)
    have B2 : Hid (Below w.heap.size w w2) := B1.out.trans (hdb.mono B1.out.size)
    clear hd hdb
    go_wp2_with fail
    refine (hE2.out w2 F2.out G2.out).mono ?_
    rintro e w3 ⟨rfl, hd⟩
    have B3 : Hid (Below w.heap.size w w3) := B2.out.trans (Drawn.below hd)
    clear hd
    go_wp2_with fail
    go_ret
    exact ⟨rfl, B3.out⟩
end Go.Proofs.Ytikdpjedlbkkjaa.curveMore
