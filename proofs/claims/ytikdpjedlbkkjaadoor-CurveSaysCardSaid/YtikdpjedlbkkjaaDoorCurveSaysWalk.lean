/- CurveSays returns true for every input: the walk. -/
import Derived.Test.YtikdpjedlbkkjaaDoorCurveRef3
import Derived.Test.YtikdpjedlbkkjaaDoorTold
namespace Go.Proofs.YtikdpjedlbkkjaaDoor.curveSays
open Go.RowKit
set_option linter.unusedSimpArgs false
set_option linter.unusedVariables false

theorem ints_nil (w : World) (B : Nat) : Ints w B none 0 [] := ⟨rfl, by decide, fun k hk => by omega, fun k => by simp⟩
theorem fits_both (a b : Option Addr) (len ca cb : Nat) (fs gs : List Int) (h0 : bothE fs gs = 0) : ∃ bf : Bool, (∀ w : World, Ints w w.heap.size a len fs → Ints w w.heap.size b len gs → Calls Tryd.prog 10 #[.slice a len ca, .slice b len cb] w fun e w' => e = .returned (.bool bf) ∧ Drawn w w') ∧ (∀ w : World, Ints w w.heap.size a len fs → Ints w w.heap.size b len gs → Calls Tryd.prog 16 #[.slice a len ca, .slice b len cb] w fun e w' => e = .returned (.tuple #[.bool bf, errOr 0]) ∧ Drawn w w') := by
  by_cases h : Cv.Fits (gD fs) (gD gs) len
  · exact ⟨true, fun w h1 h2 => mfits_yes a b len ca cb fs gs w h1 h2 h0 h, fun w h1 h2 => fits_yes a b len ca cb fs gs _ _ w h1 h2 h0 h⟩
  · exact ⟨false, fun w h1 h2 => mfits_no a b len ca cb fs gs w h1 h2 h0 h, fun w h1 h2 => fits_no a b len ca cb fs gs _ _ w h1 h2 h0 h⟩
theorem delay_both (a b : Option Addr) (len ca cb : Nat) (fs gs : List Int) (h0 : bothE fs gs = 0) (hcap : len ≤ cb) : ∃ d n : Int, (∀ w : World, Ints w w.heap.size a len fs → Ints w w.heap.size b len gs → Calls Tryd.prog 11 #[.slice a len ca, .slice b len cb] w fun e w' => e = .returned (.tuple #[.int .i64 d, .int .i64 n]) ∧ Drawn w w') ∧ (∀ w : World, Ints w w.heap.size a len fs → Ints w w.heap.size b len gs → Calls Tryd.prog 15 #[.slice a len ca, .slice b len cb] w fun e w' => e = .returned (.tuple #[.int .i64 d, errOr n]) ∧ Below w.heap.size w w') := by
  rcases h : Cv.dlN (gD fs) (gD gs) len len with _ | m
  · refine ⟨0, 5, fun w h1 h2 => (mdelay_yes a b len ca cb fs gs w h1 h2 h0).mono fun e w' => ?_, fun w h1 h2 => (delay_yes a b len ca cb fs gs w h1 h2 hcap h0).mono fun e w' => ?_⟩
    · rintro ⟨hd, ⟨_, he⟩ | ⟨m, hm, he⟩⟩
      · exact ⟨he, hd⟩
      · rw [h] at hm; cases hm
    · rintro ⟨hd, ⟨_, he⟩ | ⟨m, hm, he⟩⟩
      · exact ⟨he, hd⟩
      · rw [h] at hm; cases hm
  · refine ⟨(m : Int), 0, fun w h1 h2 => (mdelay_yes a b len ca cb fs gs w h1 h2 h0).mono fun e w' => ?_, fun w h1 h2 => (delay_yes a b len ca cb fs gs w h1 h2 hcap h0).mono fun e w' => ?_⟩
    · rintro ⟨hd, ⟨hm, he⟩ | ⟨m', hm, he⟩⟩
      · rw [h] at hm; cases hm
      · rw [h] at hm; cases hm; exact ⟨he, hd⟩
    · rintro ⟨hd, ⟨hm, he⟩ | ⟨m', hm, he⟩⟩
      · rw [h] at hm; cases hm
      · rw [h] at hm; cases hm; exact ⟨he, hd⟩

set_option maxHeartbeats 16000000 in
set_option maxRecDepth 100000 in
theorem walk (aF : Option Addr) (lF cF : Nat) (fs : List Int) (aG : Option Addr) (lG cG : Nat) (gs : List Int) (w : World) (hF : Ints w w.heap.size aF lF fs) (hG : Ints w w.heap.size aG lG gs) (hcap : lG ≤ cG) (hd : Hd w) :
    Calls Tryd.prog 3 #[.slice aF lF cF, .slice aG lG cG] w fun e w' => e = .returned (.bool true) ∧ Below w.heap.size w w' := by
  have hfl := hF.size
  have hgl := hG.size
  have F0 := Lib.hid hF; clear hF
  have G0 := Lib.hid hG; clear hG
  have D0 := Lib.hid hd; clear hd
  have B0 : Hid (Below w.heap.size w w) := Below.refl _ _
  have w0 : ∃ w0 : World, w0 = w := ⟨w, rfl⟩
  have CK := Lib.hid (fun w' h => cvcheck_any aF lF cF fs w'.heap.size w' h)
  have CM := Lib.hid (fun w' h => mcurve_any aF lF cF fs w'.heap.size w' h)
  have CS := Lib.hid (fun w' h h' => mcurves_any aF aG lF cF lG cG fs gs w'.heap.size w'.heap.size w' h h')
  have hce : cvErr (cvE fs) = errOr (cvE fs) := rfl
  rw [hce] at CK
  clear hce w0
  generalize cvE fs = n1 at *
  by_cases h0 : bothE fs gs = 0
  · have h0 : bothE fs gs = 0 := h0
    have hlen : lG = lF := by
      obtain ⟨_, _, h3⟩ := both_zero h0
      omega
    subst hlen
    obtain ⟨bf, FM, FC⟩ := fits_both aF aG lG cF cG fs gs h0
    obtain ⟨d, dn, DM, DC⟩ := delay_both aF aG lG cF cG fs gs h0 hcap
    have FM := Lib.hid FM
    have FC := Lib.hid FC
    have DM := Lib.hid DM
    have DC := Lib.hid DC
    have LM := Lib.hid (fun w' h h' => mfold_yes aF aG lG cF cG fs gs w' h h' h0)
    have LC := Lib.hid (fun w' h h' => fold_yes aF aG lG cF cG fs gs w' h h' h0)
    have BM := Lib.hid (fun w' h h' => mback_yes aF aG lG cF cG fs gs w' h h' h0)
    have BC := Lib.hid (fun w' h h' => backlog_yes aF aG lG cF cG fs gs w'.heap.size w'.heap.size w' h h' h0)
    rw [h0] at CS
    clear h0 hfl hgl hcap
    have e0 : (Value.nilIface) = errOr 0 := rfl
    rw [e0] at LC BC
    clear e0
    generalize Cv.bkN (gD fs) (gD gs) lG = bk at *
    generalize foldL fs gs lG = fl at *
    go_enter Tryd.func3, Tryd.ntmps3
    go_wp2_with fail
    refine (CK.out w F0.out).mono ?_
    rintro e w1 ⟨rfl, hd⟩
    have hb : Below w.heap.size w w1 := Drawn.below hd
    have B1 : Hid (Below w.heap.size w w1) := B0.out.trans (hb.mono B0.out.size)
    have F1 := Lib.hid (F0.out.later hb)
    have G1 := Lib.hid (G0.out.later hb)
    have D1 := Lib.hid (D0.out.later hb)
    clear hb hd B0 F0 G0 D0
    go_wp2_with fail
    refine (CM.out w1 F1.out).mono ?_
    rintro e w2 ⟨rfl, hd⟩
    have hb : Below w1.heap.size w1 w2 := Drawn.below hd
    have B2 : Hid (Below w.heap.size w w2) := B1.out.trans (hb.mono B1.out.size)
    have F2 := Lib.hid (F1.out.later hb)
    have G2 := Lib.hid (G1.out.later hb)
    have D2 := Lib.hid (D1.out.later hb)
    clear hb hd B1 F1 G1 D1
    go_wp2_with fail
    refine (err_same n1 w2 D2.out).mono ?_
    rintro e w3 ⟨rfl, hd⟩
    have hb : Below w2.heap.size w2 w3 := hd
    have B3 : Hid (Below w.heap.size w w3) := B2.out.trans (hb.mono B2.out.size)
    have F3 := Lib.hid (F2.out.later hb)
    have G3 := Lib.hid (G2.out.later hb)
    have D3 := Lib.hid (D2.out.later hb)
    clear hb hd B2 F2 G2 D2
    go_wp2_with fail
    refine (CS.out w3 F3.out G3.out).mono ?_
    rintro e w4 ⟨rfl, hd⟩
    have hb : Below w3.heap.size w3 w4 := Drawn.below hd
    have B4 : Hid (Below w.heap.size w w4) := B3.out.trans (hb.mono B3.out.size)
    have F4 := Lib.hid (F3.out.later hb)
    have G4 := Lib.hid (G3.out.later hb)
    have D4 := Lib.hid (D3.out.later hb)
    clear hb hd B3 F3 G3 D3
    go_wp2_with fail
    refine (LM.out w4 F4.out G4.out).mono ?_
    rintro e w5 ⟨gX, cX, rfl, hgi, hb0⟩
    have hb : Below w4.heap.size w4 w5 := hb0
    have B5 : Hid (Below w.heap.size w w5) := B4.out.trans (hb.mono B4.out.size)
    have F5 := Lib.hid (F4.out.later hb)
    have G5 := Lib.hid (G4.out.later hb)
    have D5 := Lib.hid (D4.out.later hb)
    have X5 := Lib.hid hgi
    clear hb hgi hb0 B4 F4 G4 D4
    go_wp2_with fail
    refine (BM.out w5 F5.out G5.out).mono ?_
    rintro e w6 ⟨rfl, hd⟩
    have hb : Below w5.heap.size w5 w6 := Drawn.below hd
    have B6 : Hid (Below w.heap.size w w6) := B5.out.trans (hb.mono B5.out.size)
    have F6 := Lib.hid (F5.out.later hb)
    have G6 := Lib.hid (G5.out.later hb)
    have D6 := Lib.hid (D5.out.later hb)
    have X6 := Lib.hid (X5.out.later hb)
    clear hb hd B5 F5 G5 D5 X5
    go_wp2_with fail
    refine (FM.out w6 F6.out G6.out).mono ?_
    rintro e w7 ⟨rfl, hd⟩
    have hb : Below w6.heap.size w6 w7 := Drawn.below hd
    have B7 : Hid (Below w.heap.size w w7) := B6.out.trans (hb.mono B6.out.size)
    have F7 := Lib.hid (F6.out.later hb)
    have G7 := Lib.hid (G6.out.later hb)
    have D7 := Lib.hid (D6.out.later hb)
    have X7 := Lib.hid (X6.out.later hb)
    clear hb hd B6 F6 G6 D6 X6
    go_wp2_with fail
    refine (DM.out w7 F7.out G7.out).mono ?_
    rintro e w8 ⟨rfl, hd⟩
    have hb : Below w7.heap.size w7 w8 := Drawn.below hd
    have B8 : Hid (Below w.heap.size w w8) := B7.out.trans (hb.mono B7.out.size)
    have F8 := Lib.hid (F7.out.later hb)
    have G8 := Lib.hid (G7.out.later hb)
    have D8 := Lib.hid (D7.out.later hb)
    have X8 := Lib.hid (X7.out.later hb)
    clear hb hd B7 F7 G7 D7 X7
    go_wp2_with fail
    refine (LC.out w8 F8.out G8.out).mono ?_
    rintro e w9 ⟨gY, cY, rfl, hgi, hb0⟩
    have hb : Below w8.heap.size w8 w9 := hb0
    have B9 : Hid (Below w.heap.size w w9) := B8.out.trans (hb.mono B8.out.size)
    have F9 := Lib.hid (F8.out.later hb)
    have G9 := Lib.hid (G8.out.later hb)
    have D9 := Lib.hid (D8.out.later hb)
    have X9 := Lib.hid (X8.out.later hb)
    have Y9 := Lib.hid hgi
    clear hb hgi hb0 B8 F8 G8 D8 X8
    go_wp2_with fail
    refine (err_same 0 w9 D9.out).mono ?_
    rintro e w10 ⟨rfl, hd⟩
    have hb : Below w9.heap.size w9 w10 := hd
    have B10 : Hid (Below w.heap.size w w10) := B9.out.trans (hb.mono B9.out.size)
    have F10 := Lib.hid (F9.out.later hb)
    have G10 := Lib.hid (G9.out.later hb)
    have D10 := Lib.hid (D9.out.later hb)
    have X10 := Lib.hid (X9.out.later hb)
    have Y10 := Lib.hid (Y9.out.later hb)
    clear hb hd B9 F9 G9 D9 X9 Y9
    go_wp2_with fail
    refine (same_yes _ _ lG _ _ fl _ _ w10 Y10.out X10.out).mono ?_
    rintro e w11 ⟨rfl, hd⟩
    have hb : Below w10.heap.size w10 w11 := Drawn.below hd
    have B11 : Hid (Below w.heap.size w w11) := B10.out.trans (hb.mono B10.out.size)
    have F11 := Lib.hid (F10.out.later hb)
    have G11 := Lib.hid (G10.out.later hb)
    have D11 := Lib.hid (D10.out.later hb)
    have X11 := Lib.hid (X10.out.later hb)
    have Y11 := Lib.hid (Y10.out.later hb)
    clear hb hd B10 F10 G10 D10 X10 Y10
    clear X11 Y11
    go_wp2_with fail
    refine (BC.out w11 F11.out G11.out).mono ?_
    rintro e w12 ⟨rfl, hd⟩
    have hb : Below w11.heap.size w11 w12 := Drawn.below hd
    have B12 : Hid (Below w.heap.size w w12) := B11.out.trans (hb.mono B11.out.size)
    have F12 := Lib.hid (F11.out.later hb)
    have G12 := Lib.hid (G11.out.later hb)
    have D12 := Lib.hid (D11.out.later hb)
    clear hb hd B11 F11 G11 D11
    go_wp2_with fail
    refine (err_same 0 w12 D12.out).mono ?_
    rintro e w13 ⟨rfl, hd⟩
    have hb : Below w12.heap.size w12 w13 := hd
    have B13 : Hid (Below w.heap.size w w13) := B12.out.trans (hb.mono B12.out.size)
    have F13 := Lib.hid (F12.out.later hb)
    have G13 := Lib.hid (G12.out.later hb)
    have D13 := Lib.hid (D12.out.later hb)
    clear hb hd B12 F12 G12 D12
    go_wp2_with fail
    refine (DC.out w13 F13.out G13.out).mono ?_
    rintro e w14 ⟨rfl, hd⟩
    have hb : Below w13.heap.size w13 w14 := hd
    have B14 : Hid (Below w.heap.size w w14) := B13.out.trans (hb.mono B13.out.size)
    have F14 := Lib.hid (F13.out.later hb)
    have G14 := Lib.hid (G13.out.later hb)
    have D14 := Lib.hid (D13.out.later hb)
    clear hb hd B13 F13 G13 D13
    go_wp2_with fail
    refine (err_same dn w14 D14.out).mono ?_
    rintro e w15 ⟨rfl, hd⟩
    have hb : Below w14.heap.size w14 w15 := hd
    have B15 : Hid (Below w.heap.size w w15) := B14.out.trans (hb.mono B14.out.size)
    have F15 := Lib.hid (F14.out.later hb)
    have G15 := Lib.hid (G14.out.later hb)
    have D15 := Lib.hid (D14.out.later hb)
    clear hb hd B14 F14 G14 D14
    go_wp2_with fail
    refine (FC.out w15 F15.out G15.out).mono ?_
    rintro e w16 ⟨rfl, hd⟩
    have hb : Below w15.heap.size w15 w16 := Drawn.below hd
    have B16 : Hid (Below w.heap.size w w16) := B15.out.trans (hb.mono B15.out.size)
    have F16 := Lib.hid (F15.out.later hb)
    have G16 := Lib.hid (G15.out.later hb)
    have D16 := Lib.hid (D15.out.later hb)
    clear hb hd B15 F15 G15 D15
    go_wp2_with fail
    refine (err_same 0 w16 D16.out).mono ?_
    rintro e w17 ⟨rfl, hd⟩
    have hb : Below w16.heap.size w16 w17 := hd
    have B17 : Hid (Below w.heap.size w w17) := B16.out.trans (hb.mono B16.out.size)
    have F17 := Lib.hid (F16.out.later hb)
    have G17 := Lib.hid (G16.out.later hb)
    have D17 := Lib.hid (D16.out.later hb)
    clear hb hd B16 F16 G16 D16
    go_wp2_with fail
    go_ret
    exact ⟨by simp, B17.out⟩
  · have LC := Lib.hid (fun w' h h' => fold_no aF aG lF cF lG cG fs gs w'.heap.size w'.heap.size w' h h' h0)
    have BC := Lib.hid (fun w' h h' => backlog_no aF aG lF cF lG cG fs gs w'.heap.size w'.heap.size w' h h' h0)
    have DC := Lib.hid (fun w' h h' => delay_no aF aG lF cF lG cG fs gs w' h h' h0)
    have FC := Lib.hid (fun w' h h' => fits_bad aF aG lF cF lG cG fs gs w'.heap.size w'.heap.size w' h h' h0)
    have e0 : errV (bothE fs gs) = errOr (bothE fs gs) := (if_neg h0).symm
    rw [e0] at LC BC DC FC
    have hb0 : (bothE fs gs == 0) = false := by simpa using h0
    clear e0 h0 hfl hgl hcap
    generalize bothE fs gs = n2 at *
    go_enter Tryd.func3, Tryd.ntmps3
    go_wp2_with fail
    refine (CK.out w F0.out).mono ?_
    rintro e w1 ⟨rfl, hd⟩
    have hb : Below w.heap.size w w1 := Drawn.below hd
    have B1 : Hid (Below w.heap.size w w1) := B0.out.trans (hb.mono B0.out.size)
    have F1 := Lib.hid (F0.out.later hb)
    have G1 := Lib.hid (G0.out.later hb)
    have D1 := Lib.hid (D0.out.later hb)
    clear hb hd B0 F0 G0 D0
    go_wp2_with fail
    refine (CM.out w1 F1.out).mono ?_
    rintro e w2 ⟨rfl, hd⟩
    have hb : Below w1.heap.size w1 w2 := Drawn.below hd
    have B2 : Hid (Below w.heap.size w w2) := B1.out.trans (hb.mono B1.out.size)
    have F2 := Lib.hid (F1.out.later hb)
    have G2 := Lib.hid (G1.out.later hb)
    have D2 := Lib.hid (D1.out.later hb)
    clear hb hd B1 F1 G1 D1
    go_wp2_with fail
    refine (err_same n1 w2 D2.out).mono ?_
    rintro e w3 ⟨rfl, hd⟩
    have hb : Below w2.heap.size w2 w3 := hd
    have B3 : Hid (Below w.heap.size w w3) := B2.out.trans (hb.mono B2.out.size)
    have F3 := Lib.hid (F2.out.later hb)
    have G3 := Lib.hid (G2.out.later hb)
    have D3 := Lib.hid (D2.out.later hb)
    clear hb hd B2 F2 G2 D2
    go_wp2_with fail
    refine (CS.out w3 F3.out G3.out).mono ?_
    rintro e w4 ⟨rfl, hd⟩
    have hb : Below w3.heap.size w3 w4 := Drawn.below hd
    have B4 : Hid (Below w.heap.size w w4) := B3.out.trans (hb.mono B3.out.size)
    have F4 := Lib.hid (F3.out.later hb)
    have G4 := Lib.hid (G3.out.later hb)
    have D4 := Lib.hid (D3.out.later hb)
    clear hb hd B3 F3 G3 D3
    go_wp2_with fail
    refine (LC.out w4 F4.out G4.out).mono ?_
    rintro e w5 ⟨rfl, hd⟩
    have hb : Below w4.heap.size w4 w5 := Drawn.below hd
    have B5 : Hid (Below w.heap.size w w5) := B4.out.trans (hb.mono B4.out.size)
    have F5 := Lib.hid (F4.out.later hb)
    have G5 := Lib.hid (G4.out.later hb)
    have D5 := Lib.hid (D4.out.later hb)
    clear hb hd B4 F4 G4 D4
    go_wp2_with fail
    refine (err_same n2 w5 D5.out).mono ?_
    rintro e w6 ⟨rfl, hd⟩
    have hb : Below w5.heap.size w5 w6 := hd
    have B6 : Hid (Below w.heap.size w w6) := B5.out.trans (hb.mono B5.out.size)
    have F6 := Lib.hid (F5.out.later hb)
    have G6 := Lib.hid (G5.out.later hb)
    have D6 := Lib.hid (D5.out.later hb)
    clear hb hd B5 F5 G5 D5
    go_wp2_with fail
    refine (same_yes none none 0 0 0 [] w6.heap.size w6.heap.size w6 (ints_nil _ _) (ints_nil _ _)).mono ?_
    rintro e w7 ⟨rfl, hd⟩
    have hb : Below w6.heap.size w6 w7 := Drawn.below hd
    have B7 : Hid (Below w.heap.size w w7) := B6.out.trans (hb.mono B6.out.size)
    have F7 := Lib.hid (F6.out.later hb)
    have G7 := Lib.hid (G6.out.later hb)
    have D7 := Lib.hid (D6.out.later hb)
    clear hb hd B6 F6 G6 D6
    go_wp2_with fail
    refine (BC.out w7 F7.out G7.out).mono ?_
    rintro e w8 ⟨rfl, hd⟩
    have hb : Below w7.heap.size w7 w8 := Drawn.below hd
    have B8 : Hid (Below w.heap.size w w8) := B7.out.trans (hb.mono B7.out.size)
    have F8 := Lib.hid (F7.out.later hb)
    have G8 := Lib.hid (G7.out.later hb)
    have D8 := Lib.hid (D7.out.later hb)
    clear hb hd B7 F7 G7 D7
    go_wp2_with fail
    refine (err_same n2 w8 D8.out).mono ?_
    rintro e w9 ⟨rfl, hd⟩
    have hb : Below w8.heap.size w8 w9 := hd
    have B9 : Hid (Below w.heap.size w w9) := B8.out.trans (hb.mono B8.out.size)
    have F9 := Lib.hid (F8.out.later hb)
    have G9 := Lib.hid (G8.out.later hb)
    have D9 := Lib.hid (D8.out.later hb)
    clear hb hd B8 F8 G8 D8
    go_wp2_with fail
    refine (DC.out w9 F9.out G9.out).mono ?_
    rintro e w10 ⟨rfl, hd⟩
    have hb : Below w9.heap.size w9 w10 := hd
    have B10 : Hid (Below w.heap.size w w10) := B9.out.trans (hb.mono B9.out.size)
    have F10 := Lib.hid (F9.out.later hb)
    have G10 := Lib.hid (G9.out.later hb)
    have D10 := Lib.hid (D9.out.later hb)
    clear hb hd B9 F9 G9 D9
    go_wp2_with fail
    refine (err_same n2 w10 D10.out).mono ?_
    rintro e w11 ⟨rfl, hd⟩
    have hb : Below w10.heap.size w10 w11 := hd
    have B11 : Hid (Below w.heap.size w w11) := B10.out.trans (hb.mono B10.out.size)
    have F11 := Lib.hid (F10.out.later hb)
    have G11 := Lib.hid (G10.out.later hb)
    have D11 := Lib.hid (D10.out.later hb)
    clear hb hd B10 F10 G10 D10
    go_wp2_with fail
    refine (FC.out w11 F11.out G11.out).mono ?_
    rintro e w12 ⟨rfl, hd⟩
    have hb : Below w11.heap.size w11 w12 := Drawn.below hd
    have B12 : Hid (Below w.heap.size w w12) := B11.out.trans (hb.mono B11.out.size)
    have F12 := Lib.hid (F11.out.later hb)
    have G12 := Lib.hid (G11.out.later hb)
    have D12 := Lib.hid (D11.out.later hb)
    clear hb hd B11 F11 G11 D11
    go_wp2_with fail
    refine (err_same n2 w12 D12.out).mono ?_
    rintro e w13 ⟨rfl, hd⟩
    have hb : Below w12.heap.size w12 w13 := hd
    have B13 : Hid (Below w.heap.size w w13) := B12.out.trans (hb.mono B12.out.size)
    have F13 := Lib.hid (F12.out.later hb)
    have G13 := Lib.hid (G12.out.later hb)
    have D13 := Lib.hid (D12.out.later hb)
    clear hb hd B12 F12 G12 D12
    go_wp2_with fail
    go_ret
    exact ⟨by simp, B13.out⟩
end Go.Proofs.YtikdpjedlbkkjaaDoor.curveSays
