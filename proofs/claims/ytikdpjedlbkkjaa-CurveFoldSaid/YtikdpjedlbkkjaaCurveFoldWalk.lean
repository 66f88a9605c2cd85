/- CurveFold returns true for every input: the walk. -/
import Derived.Test.YtikdpjedlbkkjaaCurveL
namespace Go.Proofs.Ytikdpjedlbkkjaa.curveFold
open Go.RowKit
set_option linter.unusedSimpArgs false
set_option linter.unusedVariables false

theorem list_ext {l m : List Int} (hl : l.length = m.length) (h : ∀ k, k < l.length → l.getD k 0 = m.getD k 0) : l = m := by
  apply List.ext_getElem hl
  intro i h1 h2
  have := h i h1
  simpa [List.getD_eq_getElem?_getD, h1, h2] using this
theorem foldL_comm (fs gs : List Int) (n : Nat) : foldL gs fs n = foldL fs gs n :=
  list_ext (by rw [foldL_len, foldL_len]) fun k hk => by
    rw [foldL_len] at hk
    rw [foldL_at _ _ _ _ hk, foldL_at _ _ _ _ hk, Cv.fld_comm]
theorem foldL_assoc (fs gs hs : List Int) (n : Nat) : foldL (foldL fs gs n) hs n = foldL fs (foldL gs hs n) n :=
  list_ext (by rw [foldL_len, foldL_len]) fun k hk => by
    rw [foldL_len] at hk
    rw [foldL_at _ _ _ _ hk, foldL_at _ _ _ _ hk]
    have h1 : Cv.fld (gD (foldL fs gs n)) (gD hs) k = Cv.fld (Cv.fld (gD fs) (gD gs)) (gD hs) k := Cv.fld_congr (fun s hs' => foldL_at fs gs n s (by omega)) (fun _ _ => rfl)
    have h2 : Cv.fld (gD fs) (gD (foldL gs hs n)) k = Cv.fld (gD fs) (Cv.fld (gD gs) (gD hs)) k := Cv.fld_congr (fun _ _ => rfl) (fun s hs' => foldL_at gs hs n s (by omega))
    rw [h1, h2, Cv.fld_assoc]
theorem both_flip {fs gs : List Int} (h : bothE fs gs ≠ 0) : bothE gs fs ≠ 0 := fun h' => by
  obtain ⟨a, b, c⟩ := both_zero h'
  exact h (both_mk b a c.symm)

set_option maxHeartbeats 8000000 in
set_option maxRecDepth 100000 in
theorem walk (aF : Option Addr) (lF cF : Nat) (fs : List Int) (aG : Option Addr) (lG cG : Nat) (gs : List Int) (aH : Option Addr) (lH cH : Nat) (hs : List Int) (w : World) (hF : Ints w w.heap.size aF lF fs) (hG : Ints w w.heap.size aG lG gs) (hH : Ints w w.heap.size aH lH hs) :
    Calls Try.prog 3 #[.slice aF lF cF, .slice aG lG cG, .slice aH lH cH] w fun e w' => e = .returned (.bool true) ∧ Below w.heap.size w w' := by
  have HF := Lib.hid hF; clear hF
  have HG := Lib.hid hG; clear hG
  have HH := Lib.hid hH; clear hH
  go_enter Try.func3, Try.ntmps3
  go_wp2_with fail
  refine (cfact_any _).mono ?_
  rintro e w1 ⟨rfl, hb1⟩
  have B1 := Lib.hid hb1; clear hb1
  have F1 := Lib.hid (HF.out.later B1.out)
  have G1 := Lib.hid (HG.out.later B1.out)
  have H1 := Lib.hid (HH.out.later B1.out)
  by_cases h1 : bothE fs gs = 0
  · obtain ⟨kf, kg, hll⟩ := both_zero h1
    have hll2 := hll
    rw [HF.out.size, HG.out.size] at hll2
    subst hll2
    have hone : 1 ≤ lF := by rw [← HF.out.size]; exact kf.some
    have hlen : lF ≤ 16 := by rw [← HF.out.size]; exact kf.few
    have hfb : Hid (∀ k, k < lF → 0 ≤ fs.getD k 0 ∧ fs.getD k 0 ≤ 1000) := by show ∀ k, _; rw [← HF.out.size]; exact kf.fits
    have hgb : Hid (∀ k, k < lF → 0 ≤ gs.getD k 0 ∧ gs.getD k 0 ≤ 1000) := by show ∀ k, _; rw [← HG.out.size]; exact kg.fits
    have hfl : Hid (fs.length = lF) := HF.out.size
    have hgl : Hid (gs.length = lF) := HG.out.size
    have HA1 : Hid (∀ t, t < lF → (foldL fs gs lF).getD t 0 ≤ fs.getD t 0 + gs.getD 0 0 ∧ (foldL fs gs lF).getD t 0 ≤ gs.getD t 0 + fs.getD 0 0) := fun t ht => by
      rw [foldL_at _ _ _ _ ht]
      have e1 := Cv.fld_le (gD fs) (gD gs) t t (Nat.le_refl _)
      have e2 := Cv.fld_le (gD fs) (gD gs) t 0 (Nat.zero_le _)
      rw [Nat.sub_self] at e1
      rw [Nat.sub_zero] at e2
      unfold gD at e1 e2 ⊢
      omega
    have HA2 : Hid (∀ t, t + 1 < lF → (foldL fs gs lF).getD t 0 ≤ (foldL fs gs lF).getD (t + 1) 0) := fun t ht => by
      rw [foldL_at _ _ _ _ ht, foldL_at _ _ _ _ (show t < lF by omega)]
      have m1 := kf.mono
      have m2 := kg.mono
      rw [hfl.out] at m1
      rw [hgl.out] at m2
      exact Cv.fld_mono m1 m2 t ht
    have HAB : Hid (∀ t, t < lF → 0 ≤ (foldL fs gs lF).getD t 0 ∧ (foldL fs gs lF).getD t 0 ≤ 2000) := fun t ht => by
      rw [foldL_at _ _ _ _ ht]
      exact Cv.fldN_bounds (f := gD fs) (g := gD gs) hfb.out hgb.out t (t + 1) ht (Nat.le_refl _)
    have HH1 := Lib.hid h1
    have HH2 : Hid (bothE gs fs = 0) := both_mk kg kf hll.symm
    have HKF := Lib.hid kf
    clear h1 kf kg hll
    go_wp2_with fail
    refine (fold_yes aF aG lF cF cG fs gs w1 F1.out G1.out HH1.out).mono ?_
    rintro e w2 ⟨g, c, rfl, hgi, hB⟩
    have A2 := Lib.hid hgi
    have B2 : Hid (Below w.heap.size w w2) := B1.out.trans (hB.mono B1.out.size)
    have F2 := Lib.hid (F1.out.later hB)
    have G2 := Lib.hid (G1.out.later hB)
    have H2 := Lib.hid (H1.out.later hB)
    clear hgi hB
    go_wp2_with fail
    refine (fold_yes aG aF lF cG cF gs fs w2 G2.out F2.out HH2.out).mono ?_
    rintro e w3 ⟨gb, cb, rfl, hgi, hB⟩
    rw [foldL_comm] at hgi
    have D3 := Lib.hid hgi
    have B3 : Hid (Below w.heap.size w w3) := B2.out.trans (hB.mono B2.out.size)
    have A3 := Lib.hid (A2.out.later hB)
    have F3 := Lib.hid (F2.out.later hB)
    have G3 := Lib.hid (G2.out.later hB)
    have H3 := Lib.hid (H2.out.later hB)
    clear hgi hB
    go_wp2_with fail
    refine (same_yes _ _ lF _ _ (foldL fs gs lF) _ _ w3 A3.out D3.out).mono ?_
    rintro e w4 ⟨rfl, hd⟩
    have hdb : Below w3.heap.size w3 w4 := Drawn.below hd
    have B4 : Hid (Below w.heap.size w w4) := B3.out.trans (hdb.mono B3.out.size)
    have A4 := Lib.hid (A3.out.later hdb)
    have F4 := Lib.hid (F3.out.later hdb)
    have G4 := Lib.hid (G3.out.later hdb)
    have H4 := Lib.hid (H3.out.later hdb)
    clear hd hdb D3
    have hnb : ((lF : Int) == 0) = false := by simp; omega
    obtain ⟨fb, fo, rfl, _, hf0⟩ := F4.out.cell 0 (by omega)
    obtain ⟨gb', go_, rfl, _, hg0⟩ := G4.out.cell 0 (by omega)
    rw [Nat.add_zero] at hf0 hg0
    have hbf0 := hfb.out 0 (by omega)
    have hbg0 := hgb.out 0 (by omega)
    have HF0 := Lib.hid hf0; clear hf0
    have HG0 := Lib.hid hg0; clear hg0
    go_wp2_with fail
    go_loopw [12] (fun v12 wr => ∃ t : Nat, t ≤ lF ∧ v12 = .int .i64 t ∧ Drawn w4 wr) (fun v12 _ => lF - (intOf v12).toNat)
    case atStart => exact ⟨0, by omega, rfl, Drawn.refl _⟩
    case round =>
      obtain ⟨t, ht, rfl, hdw⟩ := hrel
      have HW := Lib.hid hdw; clear hdw
      by_cases hlt : t < lF
      · obtain ⟨b1, o1, he, _, hc⟩ := A4.out.cell t hlt
        simp only [Option.some.injEq, Addr.mk.injEq, and_true] at he
        obtain ⟨rfl, rfl⟩ := he
        obtain ⟨b2, o2, he, _, hc2⟩ := F4.out.cell t hlt
        simp only [Option.some.injEq, Addr.mk.injEq, and_true] at he
        obtain ⟨rfl, rfl⟩ := he
        obtain ⟨b3, o3, he, _, hc3⟩ := G4.out.cell t hlt
        simp only [Option.some.injEq, Addr.mk.injEq, and_true] at he
        obtain ⟨rfl, rfl⟩ := he
        have hc := HW.out.cell hc
        have hc2 := HW.out.cell hc2
        have hc3 := HW.out.cell hc3
        have hf0 := HW.out.cell HF0.out
        have hg0 := HW.out.cell HG0.out
        rw [Nat.zero_add] at hc
        obtain ⟨a1, a2⟩ := HA1.out t hlt
        have ab := HAB.out t hlt
        have fb1 := hfb.out t hlt
        have gb1 := hgb.out t hlt
        have q1 : (0 : Int) ≤ (t : Int) := by omega
        have q2 : (t : Int) < (lF : Int) := by omega
        have q0 : (0 : Int) < (lF : Int) := by omega
        by_cases h0 : t = 0
        · subst h0
          generalize (foldL fs gs lF).getD 0 0 = x at *
          generalize fs.getD 0 0 = u at *
          generalize gs.getD 0 0 = v at *
          have p1 : IntKind.i64.wrap (u + v) = u + v := IntWalk.i64_in _ (by omega)
          have p2 : IntKind.i64.wrap (v + u) = v + u := IntWalk.i64_in _ (by omega)
          have d1 : decide (u + v < x) = false := by simp; omega
          have d2 : decide (v + u < x) = false := by simp; omega
          go_wp2_with fail
          go_quiet (fail)
          clear p1 p2
          go_wp2_with fail
          go_roundw
          case rel => exact ⟨0 + 1, by omega, by go_num, HW.out.more _⟩
          case measure => simp [intOf] <;> omega
        · obtain ⟨b4, o4, he, _, hc4⟩ := A4.out.cell (t - 1) (by omega)
          simp only [Option.some.injEq, Addr.mk.injEq, and_true] at he
          obtain ⟨rfl, rfl⟩ := he
          have hc4 := HW.out.cell hc4
          rw [Nat.zero_add] at hc4
          have a3 := HA2.out (t - 1) (by omega)
          rw [show t - 1 + 1 = t from by omega] at a3
          have ab2 := HAB.out (t - 1) (by omega)
          generalize (foldL fs gs lF).getD (t - 1) 0 = x2 at *
          generalize (foldL fs gs lF).getD t 0 = x at *
          generalize fs.getD 0 0 = u0 at *
          generalize gs.getD 0 0 = v0 at *
          generalize fs.getD t 0 = u at *
          generalize gs.getD t 0 = v at *
          have h0p : 0 < t := by omega
          have q3 : (0 : Int) ≤ (t : Int) - 1 := by omega
          have q4 : (t : Int) - 1 < (lF : Int) := by omega
          have q5 : ((t : Int) - 1).toNat = t - 1 := by omega
          have p1 : IntKind.i64.wrap (u + v0) = u + v0 := IntWalk.i64_in _ (by omega)
          have p2 : IntKind.i64.wrap (v + u0) = v + u0 := IntWalk.i64_in _ (by omega)
          have p3 : IntKind.i64.wrap ((t : Int) - 1) = (t : Int) - 1 := IntWalk.i64_in _ (by omega)
          have d1 : decide (u + v0 < x) = false := by simp; omega
          have d2 : decide (v + u0 < x) = false := by simp; omega
          have d3 : decide ((0 : Int) < (t : Int)) = true := by simp; omega
          have d4 : decide (x < x2) = false := by simp; omega
          clear h0
          go_wp2_with fail
          go_quiet (fail)
          clear p1 p2 p3
          go_wp2_with fail
          go_roundw
          case rel => exact ⟨t + 1, by omega, by go_num, HW.out.more _⟩
          case measure => simp [intOf] <;> omega
      · have hdb : Below w4.heap.size w4 wr := HW.out.below
        have B5 : Hid (Below w.heap.size w wr) := B4.out.trans (hdb.mono B4.out.size)
        have A5 := Lib.hid (A4.out.later hdb)
        have F5 := Lib.hid (F4.out.later hdb)
        have G5 := Lib.hid (G4.out.later hdb)
        have H5 := Lib.hid (H4.out.later hdb)
        clear hdb HF0 HG0
        obtain ⟨wq, hwq⟩ : ∃ wq : World, wq = wr := ⟨_, rfl⟩
        subst hwq
        by_cases h2 : bothE gs hs = 0
        · obtain ⟨kg, kh, hlh⟩ := both_zero h2
          rw [hgl.out, HH.out.size] at hlh
          subst hlh
          have hhl : Hid (hs.length = lF) := HH.out.size
          have HH3 := Lib.hid h2
          have HKH := Lib.hid kh
          clear h2 kg kh
          go_wp2_with fail
          refine (fold_yes (some ⟨gb', go_, none⟩) aH lF cG cH gs hs wq G5.out H5.out HH3.out).mono ?_
          rintro e w6 ⟨g6, c6, rfl, hgi, hB⟩
          have C6 := Lib.hid hgi
          have B6 : Hid (Below w.heap.size w w6) := B5.out.trans (hB.mono B5.out.size)
          have A6 := Lib.hid (A5.out.later hB)
          have F6 := Lib.hid (F5.out.later hB)
          have H6 := Lib.hid (H5.out.later hB)
          clear hgi hB
          have hK := Lib.hid (cvcheck_any (some ⟨g, 0, none⟩) lF c (foldL fs gs lF) _ w6 A6.out)
          by_cases k1 : cvE (foldL fs gs lF) = 0
          · rw [k1] at hK
            have e0 : cvErr 0 = .nilIface := rfl
            rw [e0] at hK
            clear e0
            have HK1 := Lib.hid k1; clear k1
            go_wp2_with fail
            refine hK.out.mono ?_
            rintro e w7 ⟨rfl, hd⟩
            have hdb : Below w6.heap.size w6 w7 := Drawn.below hd
            have B7 : Hid (Below w.heap.size w w7) := B6.out.trans (hdb.mono B6.out.size)
            have A7 := Lib.hid (A6.out.later hdb)
            have C7 := Lib.hid (C6.out.later hdb)
            have F7 := Lib.hid (F6.out.later hdb)
            have H7 := Lib.hid (H6.out.later hdb)
            clear hd hdb hK
            have hK := Lib.hid (cvcheck_any (some ⟨g6, 0, none⟩) lF c6 (foldL gs hs lF) _ w7 C7.out)
            by_cases k2 : cvE (foldL gs hs lF) = 0
            · rw [k2] at hK
              have e0 : cvErr 0 = .nilIface := rfl
              rw [e0] at hK
              clear e0
              have HK2 := Lib.hid k2; clear k2
              have HB1 : Hid (bothE (foldL fs gs lF) hs = 0) := both_mk (cv_zero HK1.out) HKH.out (by rw [foldL_len, hhl.out])
              have HB2 : Hid (bothE fs (foldL gs hs lF) = 0) := both_mk HKF.out (cv_zero HK2.out) (by rw [foldL_len, hfl.out])
              go_wp2_with fail
              refine hK.out.mono ?_
              rintro e w8 ⟨rfl, hd⟩
              have hdb : Below w7.heap.size w7 w8 := Drawn.below hd
              have B8 : Hid (Below w.heap.size w w8) := B7.out.trans (hdb.mono B7.out.size)
              have A8 := Lib.hid (A7.out.later hdb)
              have C8 := Lib.hid (C7.out.later hdb)
              have F8 := Lib.hid (F7.out.later hdb)
              have H8 := Lib.hid (H7.out.later hdb)
              clear hd hdb hK
              go_wp2_with fail
              refine (fold_yes (some ⟨g, 0, none⟩) aH lF c cH (foldL fs gs lF) hs w8 A8.out H8.out HB1.out).mono ?_
              rintro e w9 ⟨g9, c9, rfl, hgi, hB⟩
              rw [foldL_assoc] at hgi
              have X9 := Lib.hid hgi
              have B9 : Hid (Below w.heap.size w w9) := B8.out.trans (hB.mono B8.out.size)
              have F9 := Lib.hid (F8.out.later hB)
              have C9 := Lib.hid (C8.out.later hB)
              clear hgi hB
              go_wp2_with fail
              refine (fold_yes (some ⟨fb, fo, none⟩) (some ⟨g6, 0, none⟩) lF cF c6 fs (foldL gs hs lF) w9 F9.out C9.out HB2.out).mono ?_
              rintro e w10 ⟨g10, c10, rfl, hgi, hB⟩
              have Y10 := Lib.hid hgi
              have X10 := Lib.hid (X9.out.later hB)
              have B10 : Hid (Below w.heap.size w w10) := B9.out.trans (hB.mono B9.out.size)
              clear hgi hB
              go_wp2_with fail
              refine (same_yes _ _ lF _ _ (foldL fs (foldL gs hs lF) lF) _ _ w10 X10.out Y10.out).mono ?_
              rintro e w11 ⟨rfl, hd⟩
              have B11 : Hid (Below w.heap.size w w11) := B10.out.trans (Drawn.below hd)
              clear hd
              go_wp2_with fail
              go_ret
              exact ⟨rfl, B11.out⟩
            · rw [cv_bad k2] at hK
              clear k2
              generalize cvE (foldL gs hs lF) = n at *
              go_wp2_with fail
              refine hK.out.mono ?_
              rintro e w8 ⟨rfl, hd⟩
              have B8 : Hid (Below w.heap.size w w8) := B7.out.trans (Drawn.below hd)
              clear hd hK
              go_wp2_with fail
              go_ret
              exact ⟨rfl, B8.out⟩
          · rw [cv_bad k1] at hK
            clear k1
            generalize cvE (foldL fs gs lF) = n at *
            go_wp2_with fail
            refine hK.out.mono ?_
            rintro e w8 ⟨rfl, hd⟩
            have B8 : Hid (Below w.heap.size w w8) := B6.out.trans (Drawn.below hd)
            clear hd hK
            go_wp2_with fail
            go_ret
            exact ⟨rfl, B8.out⟩
        · have hE := Lib.hid (fold_no (some ⟨gb', go_, none⟩) aH lF cG lH cH gs hs _ _ wq G5.out H5.out h2)
          clear h2
          generalize bothE gs hs = n at *
          go_wp2_with fail
          refine hE.out.mono ?_
          rintro e w6 ⟨rfl, hd⟩
          have B6 : Hid (Below w.heap.size w w6) := B5.out.trans (Drawn.below hd)
          clear hd
          go_wp2_with fail
          go_ret
          exact ⟨rfl, B6.out⟩
  · have hE1 := Lib.hid (fold_no aF aG lF cF lG cG fs gs _ _ w1 F1.out G1.out h1)
    have hE2 := Lib.hid (fun w' h h' => fold_no aG aF lG cG lF cF gs fs w1.heap.size w1.heap.size w' h h' (both_flip h1))
    clear h1
    generalize bothE fs gs = n at *
    generalize bothE gs fs = n2 at *
    go_wp2_with fail
    refine hE1.out.mono ?_
    rintro e w2 ⟨rfl, hd⟩
    have hdb : Below w1.heap.size w1 w2 := Drawn.below hd
    have F2 := Lib.hid (F1.out.below hdb)
    have G2 := Lib.hid (G1.out.below hdb)
    have B2 : Hid (Below w.heap.size w w2) := B1.out.trans (hdb.mono B1.out.size)
    clear hd hdb
    go_wp2_with fail
    refine (hE2.out w2 G2.out F2.out).mono ?_
    rintro e w3 ⟨rfl, hd⟩
    have B3 : Hid (Below w.heap.size w w3) := B2.out.trans (Drawn.below hd)
    clear hd
    go_wp2_with fail
    go_ret
    exact ⟨rfl, B3.out⟩
end Go.Proofs.Ytikdpjedlbkkjaa.curveFold
