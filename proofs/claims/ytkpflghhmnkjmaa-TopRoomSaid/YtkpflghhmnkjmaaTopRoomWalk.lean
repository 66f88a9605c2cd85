/- TopRoom returns true for every input: the walk. -/
import Derived.Test.YtkpflghhmnkjmaaWin
import Derived.Test.YtkpflghhmnkjmaaReno
import Derived.Test.YtkpflghhmnkjmaaTopIn
namespace Go.Proofs.Ytkpflghhmnkjmaa.topRoom
open Go.RowKit
set_option linter.unusedSimpArgs false
set_option linter.unusedVariables false

theorem Pip.bel {w w' : World} {b c : Nat} {r s l e : Int} (h : Pip w b r s l e) (hg : w.grownBy w' (some c)) (hr : b ≠ c) : Pip w' b r s l e := Obj.kept h hg (by simpa using hr)
theorem Flw.bel {w w' : World} {b : Nat} {x s c : Int} (h : Flw w b x s c) {q : Nat} (hg : w.grownBy w' (some q)) (hr : b ≠ q) : Flw w' b x s c := Obj.kept h hg (by simpa using hr)

set_option maxHeartbeats 16000000 in
set_option maxRecDepth 100000 in
theorem walk (r : Int) (a : Option Addr) (len cap : Nat) (zs : List Int) (w : World) (hr : -9223372036854775808 ≤ r ∧ r ≤ 9223372036854775807) (hI : Ints w w.heap.size a len zs) :
    Calls Try.prog 3 #[.int .i64 r, .slice a len cap] w fun e w' => e = .returned (.bool true) ∧ Below w.heap.size w w' := by
  have hroom := hI.room
  have HI := Lib.hid hI; clear hI
  by_cases hv : 0 ≤ r ∧ r ≤ 100
  · obtain ⟨r0, r1⟩ := hv
    clear hr
    go_enter Try.func3, Try.ntmps3
    go_wp2_with fail
    refine (wnew_yes _ _ r0 r1).mono ?_
    rintro e w1 ⟨rfl, ho, hg⟩
    have P1 := Lib.hid ho; clear ho
    have B1 : Hid (Below w.heap.size w w1) := below_new hg
    clear hg
    have hlt1 := P1.out.lt
    obtain ⟨b, hb⟩ : ∃ b, b = w.heap.size := ⟨_, rfl⟩
    have hwb : w.heap.size ≤ b := by omega
    rw [← hb] at P1 hlt1 ⊢
    clear hb
    go_wp2_with fail
    refine (rnew_any _).mono ?_
    rintro e w2 ⟨rfl, ho, hg⟩
    have F2 := Lib.hid ho; clear ho
    have P2 : Hid (Pip w2 b r 0 r 0) := Obj.kept P1.out hg (by simp)
    have B2 : Hid (Below w.heap.size w w2) := B1.out.trans ((below_new hg).mono B1.out.size)
    clear hg
    have hsz1 := B1.out.size
    obtain ⟨f, hf⟩ : ∃ f, f = w1.heap.size := ⟨_, rfl⟩
    have hwf : w.heap.size ≤ f := by omega
    have hne : b ≠ f := by omega
    rw [← hf] at F2 ⊢
    clear hf hlt1 hsz1
    go_wp2_with fail
    refine (window_any _ _ _ _ _ F2.out).mono ?_
    rintro e w3 ⟨rfl, m, rfl⟩
    have P3 := Lib.hid (P2.out.drewN m)
    have F3 := Lib.hid (F2.out.drewN m)
    have B3 := Lib.hid (below_drewN B2.out m)
    clear P2 F2 B2 P1 B1
    generalize w2.drewN m = w3 at *
    go_wp2_with fail
    go_loopw [10] (fun v10 wr => ∃ (k : Nat) (s d x y c : Int), k ≤ len ∧ k ≤ 60 ∧ v10 = .int .i64 k ∧ 0 ≤ d ∧ d ≤ s ∧ s ≤ d + r ∧ s ≤ 100 * k ∧ RnOk x y c ∧ Pip wr b r s (d + r) d ∧ Flw wr f x y c ∧ Below w.heap.size w wr)
      (fun v10 _ => len - (intOf v10).toNat)
    case atStart => exact ⟨0, 0, 0, 1, 1000, 0, by omega, by omega, rfl, by omega, by omega, by omega, by omega, ⟨by omega, by omega, by omega, by omega, by omega, by omega⟩, by rw [show (0 : Int) + r = r from by omega]; exact P3.out, F3.out, B3.out⟩
    case round =>
      clear P3 F3 B3
      obtain ⟨k, s, d, x, y, c, hk, hk60, rfl, d0, ds, sr, sk, hO, hP, hF, hB⟩ := hrel
      have HP := Lib.hid hP; clear hP
      have HF := Lib.hid hF; clear hF
      have HB := Lib.hid hB; clear hB
      have HO := Lib.hid hO
      have x0 := hO.x0
      have x1 := hO.x1
      clear hO
      by_cases hlt : k < len ∧ k < 60
      · obtain ⟨hl1, hl2⟩ := hlt
        obtain ⟨ab, off, rfl, hab, hcell⟩ := HI.out.cell k hl1
        have HC := Lib.hid hcell; clear hcell
        have hfit := HI.out.fits k
        generalize zs.getD k 0 = n at *
        have HK := Lib.hid (show PipOk r s (d + r) d from ⟨r0, r1, d0, ds, by omega, by omega, by omega⟩)
        have q1 : IntKind.i64.wrap (x - (s - d)) = x - (s - d) := IntWalk.i64_in _ (by omega)
        go_wp2_with fail
        refine (window_any _ _ _ _ _ HF.out).mono ?_
        rintro e w4 ⟨rfl, m, rfl⟩
        have P4 := Lib.hid (HP.out.drewN m)
        have F4 := Lib.hid (HF.out.drewN m)
        have B4 := Lib.hid (below_drewN HB.out m)
        clear HP HF HB
        generalize wr.drewN m = w4 at *
        go_wp2_with fail
        refine (wwaits b r s (d + r) d _ P4.out HK.out).mono ?_
        rintro e w5 ⟨rfl, m, rfl⟩
        have P5 := Lib.hid (P4.out.drewN m)
        have F5 := Lib.hid (F4.out.drewN m)
        have B5 := Lib.hid (below_drewN B4.out m)
        clear P4 F4 B4
        generalize w4.drewN m = w5 at *
        by_cases ha : s - d < x
        · by_cases hc : d + r - s < x - (s - d)
          · have hcase : True := trivial
            have t0 : 0 ≤ d + r - s := by omega
            have t1 : s + (d + r - s) ≤ d + r := by omega
            go_wp2_with fail
            refine (wsend_yes b r s (d + r) d (d + r - s) _ P5.out HK.out t0 (by omega) t1).mono ?_
            rintro e w6 ⟨rfl, ho, hg⟩
            obtain ⟨s2, hs2⟩ : ∃ s2, s2 = s + (d + r - s) := ⟨_, rfl⟩
            rw [← hs2] at ho
            have e1 : d ≤ s2 := by omega
            have e2 : s2 ≤ d + r := by omega
            have e3 : s2 ≤ 100 * (k : Int) + 100 := by omega
            have P6 := Lib.hid ho; clear ho
            have F6 := Lib.hid (Flw.bel F5.out hg (Ne.symm hne))
            have B6 : Hid (Below w.heap.size w w6) := B5.out.trans (below_grown hg hwb P5.out.lt)
            clear hg hs2 t0 t1 P5 F5 B5 hcase
            try clear hc
            try clear ha
            try clear q1
            have hcx := (B6.out.cell (p := ⟨ab, off + k, none⟩) hab).trans HC.out
            have HK2 := Lib.hid (show PipOk r s2 (d + r) d from ⟨r0, r1, d0, e1, e2, by omega, by omega⟩)
            by_cases hz : n = 0
            · subst hz
              have HK3 := Lib.hid (show PipOk r s2 (d + r) s2 from ⟨r0, r1, by omega, by omega, e2, by omega, by omega⟩)
              have HK9 := Lib.hid (show PipOk r s2 (s2 + r) s2 from ⟨r0, r1, by omega, by omega, by omega, by omega, by omega⟩)
              go_wp2_with fail
              refine (wwaits b r s2 (d + r) d _ P6.out HK2.out).mono ?_
              rintro e w7 ⟨rfl, m, rfl⟩
              have P7 := Lib.hid (P6.out.drewN m)
              have F7 := Lib.hid (F6.out.drewN m)
              have B7 := Lib.hid (below_drewN B6.out m)
              clear P6 F6 B6 hcx
              generalize w6.drewN m = w7 at *
              go_wp2_with fail
              refine (weat_yes b r s2 (d + r) d (s2 - d) _ P7.out HK2.out (by omega) (by omega) (by omega)).mono ?_
              rintro e w8 ⟨rfl, ho, hg⟩
              rw [show d + (s2 - d) = s2 from by omega] at ho
              have P8 := Lib.hid ho; clear ho
              have F8 := Lib.hid (Flw.bel F7.out hg (Ne.symm hne))
              have B8 : Hid (Below w.heap.size w w8) := B7.out.trans (below_grown hg hwb P7.out.lt)
              clear hg P7 F7 B7
              go_wp2_with fail
              refine (wgrant b r s2 (d + r) s2 _ P8.out HK3.out).mono ?_
              rintro e w8b ⟨he, ho, hg⟩
              rw [show s2 + r - (d + r) = s2 - d from by omega] at he
              subst he
              have P8b := Lib.hid ho; clear ho
              have F8b := Lib.hid (Flw.bel F8.out hg (Ne.symm hne))
              have B8b : Hid (Below w.heap.size w w8b) := B8.out.trans (below_grown hg hwb P8.out.lt)
              clear hg P8 F8 B8
              have HO2 := Lib.hid (told_ok HO.out)
              have T := Lib.hid (told_any f x y c w8b F8b.out HO.out)
              generalize tX x y c = x9 at *
              generalize tC x y c = c9 at *
              go_wp2_with fail
              refine T.out.mono ?_
              rintro e w9 ⟨rfl, ho, hg⟩
              have F9 := Lib.hid ho; clear ho
              have P9 := Lib.hid (Pip.bel P8b.out hg hne)
              have B9 : Hid (Below w.heap.size w w9) := B8b.out.trans (below_grown hg hwf F8b.out.lt)
              clear hg P8b F8b B8b T
              go_wp2_with fail
              refine (wwaits b r (s2) (s2 + r) (s2) _ P9.out HK9.out).mono ?_
              rintro e wA ⟨rfl, m, rfl⟩
              have PA := Lib.hid (P9.out.drewN m)
              have FA := Lib.hid (F9.out.drewN m)
              have BA := Lib.hid (below_drewN B9.out m)
              clear P9 F9 B9
              generalize w9.drewN m = wA at *
              have q2 : IntKind.i64.wrap (s2 - (s2) + (s2 + r - (s2))) = r := by rw [IntWalk.i64_in _ (by omega)]; omega
              go_wp2_with fail
              go_roundw
              case rel => exact ⟨k + 1, s2, s2, x9, y, c9, by omega, by omega, by go_num, by omega, by omega, by omega, by omega, HO2.out, PA.out, FA.out, BA.out⟩
              case measure => simp [intOf]; omega
            · by_cases hz1 : n = 1
              · subst hz1
                have HK9 := HK2
                have HO2 := Lib.hid (lost_ok x0 x1)
                have T := Lib.hid (lost_any f x y c w6 F6.out x0 x1)
                generalize hlf x = x9 at *
                go_wp2_with fail
                refine T.out.mono ?_
                rintro e w9 ⟨rfl, ho, hg⟩
                have F9 := Lib.hid ho; clear ho
                have P9 := Lib.hid (Pip.bel P6.out hg hne)
                have B9 : Hid (Below w.heap.size w w9) := B6.out.trans (below_grown hg hwf F6.out.lt)
                clear hg P6 F6 B6 T hcx
                go_wp2_with fail
                refine (wwaits b r (s2) (d + r) (d) _ P9.out HK9.out).mono ?_
                rintro e wA ⟨rfl, m, rfl⟩
                have PA := Lib.hid (P9.out.drewN m)
                have FA := Lib.hid (F9.out.drewN m)
                have BA := Lib.hid (below_drewN B9.out m)
                clear P9 F9 B9
                generalize w9.drewN m = wA at *
                have q2 : IntKind.i64.wrap (s2 - (d) + (d + r - (s2))) = r := by rw [IntWalk.i64_in _ (by omega)]; omega
                go_wp2_with fail
                go_roundw
                case rel => exact ⟨k + 1, s2, d, x9, x9, 0, by omega, by omega, by go_num, by omega, by omega, by omega, by omega, HO2.out, PA.out, FA.out, BA.out⟩
                case measure => simp [intOf]; omega
              · have g0 : (n == 0) = false := by simpa using hz
                have g1 : (n == 1) = false := by simpa using hz1
                clear hz hz1
                have HK9 := HK2
                have HO2 := Lib.hid (rlate_ok x0 x1)
                have T := Lib.hid (rlate_any f x y c w6 F6.out x0 x1)
                generalize hlf x = x9 at *
                go_wp2_with fail
                refine T.out.mono ?_
                rintro e w9 ⟨rfl, ho, hg⟩
                have F9 := Lib.hid ho; clear ho
                have P9 := Lib.hid (Pip.bel P6.out hg hne)
                have B9 : Hid (Below w.heap.size w w9) := B6.out.trans (below_grown hg hwf F6.out.lt)
                clear hg P6 F6 B6 T hcx
                go_wp2_with fail
                refine (wwaits b r (s2) (d + r) (d) _ P9.out HK9.out).mono ?_
                rintro e wA ⟨rfl, m, rfl⟩
                have PA := Lib.hid (P9.out.drewN m)
                have FA := Lib.hid (F9.out.drewN m)
                have BA := Lib.hid (below_drewN B9.out m)
                clear P9 F9 B9
                generalize w9.drewN m = wA at *
                have q2 : IntKind.i64.wrap (s2 - (d) + (d + r - (s2))) = r := by rw [IntWalk.i64_in _ (by omega)]; omega
                go_wp2_with fail
                go_roundw
                case rel => exact ⟨k + 1, s2, d, 1, x9, 0, by omega, by omega, by go_num, by omega, by omega, by omega, by omega, HO2.out, PA.out, FA.out, BA.out⟩
                case measure => simp [intOf]; omega
          · have hcase : True := trivial
            have t0 : 0 ≤ x - (s - d) := by omega
            have t1 : s + (x - (s - d)) ≤ d + r := by omega
            go_wp2_with fail
            refine (wsend_yes b r s (d + r) d (x - (s - d)) _ P5.out HK.out t0 (by omega) t1).mono ?_
            rintro e w6 ⟨rfl, ho, hg⟩
            obtain ⟨s2, hs2⟩ : ∃ s2, s2 = s + (x - (s - d)) := ⟨_, rfl⟩
            rw [← hs2] at ho
            have e1 : d ≤ s2 := by omega
            have e2 : s2 ≤ d + r := by omega
            have e3 : s2 ≤ 100 * (k : Int) + 100 := by omega
            have P6 := Lib.hid ho; clear ho
            have F6 := Lib.hid (Flw.bel F5.out hg (Ne.symm hne))
            have B6 : Hid (Below w.heap.size w w6) := B5.out.trans (below_grown hg hwb P5.out.lt)
            clear hg hs2 t0 t1 P5 F5 B5 hcase
            try clear hc
            try clear ha
            try clear q1
            have hcx := (B6.out.cell (p := ⟨ab, off + k, none⟩) hab).trans HC.out
            have HK2 := Lib.hid (show PipOk r s2 (d + r) d from ⟨r0, r1, d0, e1, e2, by omega, by omega⟩)
            by_cases hz : n = 0
            · subst hz
              have HK3 := Lib.hid (show PipOk r s2 (d + r) s2 from ⟨r0, r1, by omega, by omega, e2, by omega, by omega⟩)
              have HK9 := Lib.hid (show PipOk r s2 (s2 + r) s2 from ⟨r0, r1, by omega, by omega, by omega, by omega, by omega⟩)
              go_wp2_with fail
              refine (wwaits b r s2 (d + r) d _ P6.out HK2.out).mono ?_
              rintro e w7 ⟨rfl, m, rfl⟩
              have P7 := Lib.hid (P6.out.drewN m)
              have F7 := Lib.hid (F6.out.drewN m)
              have B7 := Lib.hid (below_drewN B6.out m)
              clear P6 F6 B6 hcx
              generalize w6.drewN m = w7 at *
              go_wp2_with fail
              refine (weat_yes b r s2 (d + r) d (s2 - d) _ P7.out HK2.out (by omega) (by omega) (by omega)).mono ?_
              rintro e w8 ⟨rfl, ho, hg⟩
              rw [show d + (s2 - d) = s2 from by omega] at ho
              have P8 := Lib.hid ho; clear ho
              have F8 := Lib.hid (Flw.bel F7.out hg (Ne.symm hne))
              have B8 : Hid (Below w.heap.size w w8) := B7.out.trans (below_grown hg hwb P7.out.lt)
              clear hg P7 F7 B7
              go_wp2_with fail
              refine (wgrant b r s2 (d + r) s2 _ P8.out HK3.out).mono ?_
              rintro e w8b ⟨he, ho, hg⟩
              rw [show s2 + r - (d + r) = s2 - d from by omega] at he
              subst he
              have P8b := Lib.hid ho; clear ho
              have F8b := Lib.hid (Flw.bel F8.out hg (Ne.symm hne))
              have B8b : Hid (Below w.heap.size w w8b) := B8.out.trans (below_grown hg hwb P8.out.lt)
              clear hg P8 F8 B8
              have HO2 := Lib.hid (told_ok HO.out)
              have T := Lib.hid (told_any f x y c w8b F8b.out HO.out)
              generalize tX x y c = x9 at *
              generalize tC x y c = c9 at *
              go_wp2_with fail
              refine T.out.mono ?_
              rintro e w9 ⟨rfl, ho, hg⟩
              have F9 := Lib.hid ho; clear ho
              have P9 := Lib.hid (Pip.bel P8b.out hg hne)
              have B9 : Hid (Below w.heap.size w w9) := B8b.out.trans (below_grown hg hwf F8b.out.lt)
              clear hg P8b F8b B8b T
              go_wp2_with fail
              refine (wwaits b r (s2) (s2 + r) (s2) _ P9.out HK9.out).mono ?_
              rintro e wA ⟨rfl, m, rfl⟩
              have PA := Lib.hid (P9.out.drewN m)
              have FA := Lib.hid (F9.out.drewN m)
              have BA := Lib.hid (below_drewN B9.out m)
              clear P9 F9 B9
              generalize w9.drewN m = wA at *
              have q2 : IntKind.i64.wrap (s2 - (s2) + (s2 + r - (s2))) = r := by rw [IntWalk.i64_in _ (by omega)]; omega
              go_wp2_with fail
              go_roundw
              case rel => exact ⟨k + 1, s2, s2, x9, y, c9, by omega, by omega, by go_num, by omega, by omega, by omega, by omega, HO2.out, PA.out, FA.out, BA.out⟩
              case measure => simp [intOf]; omega
            · by_cases hz1 : n = 1
              · subst hz1
                have HK9 := HK2
                have HO2 := Lib.hid (lost_ok x0 x1)
                have T := Lib.hid (lost_any f x y c w6 F6.out x0 x1)
                generalize hlf x = x9 at *
                go_wp2_with fail
                refine T.out.mono ?_
                rintro e w9 ⟨rfl, ho, hg⟩
                have F9 := Lib.hid ho; clear ho
                have P9 := Lib.hid (Pip.bel P6.out hg hne)
                have B9 : Hid (Below w.heap.size w w9) := B6.out.trans (below_grown hg hwf F6.out.lt)
                clear hg P6 F6 B6 T hcx
                go_wp2_with fail
                refine (wwaits b r (s2) (d + r) (d) _ P9.out HK9.out).mono ?_
                rintro e wA ⟨rfl, m, rfl⟩
                have PA := Lib.hid (P9.out.drewN m)
                have FA := Lib.hid (F9.out.drewN m)
                have BA := Lib.hid (below_drewN B9.out m)
                clear P9 F9 B9
                generalize w9.drewN m = wA at *
                have q2 : IntKind.i64.wrap (s2 - (d) + (d + r - (s2))) = r := by rw [IntWalk.i64_in _ (by omega)]; omega
                go_wp2_with fail
                go_roundw
                case rel => exact ⟨k + 1, s2, d, x9, x9, 0, by omega, by omega, by go_num, by omega, by omega, by omega, by omega, HO2.out, PA.out, FA.out, BA.out⟩
                case measure => simp [intOf]; omega
              · have g0 : (n == 0) = false := by simpa using hz
                have g1 : (n == 1) = false := by simpa using hz1
                clear hz hz1
                have HK9 := HK2
                have HO2 := Lib.hid (rlate_ok x0 x1)
                have T := Lib.hid (rlate_any f x y c w6 F6.out x0 x1)
                generalize hlf x = x9 at *
                go_wp2_with fail
                refine T.out.mono ?_
                rintro e w9 ⟨rfl, ho, hg⟩
                have F9 := Lib.hid ho; clear ho
                have P9 := Lib.hid (Pip.bel P6.out hg hne)
                have B9 : Hid (Below w.heap.size w w9) := B6.out.trans (below_grown hg hwf F6.out.lt)
                clear hg P6 F6 B6 T hcx
                go_wp2_with fail
                refine (wwaits b r (s2) (d + r) (d) _ P9.out HK9.out).mono ?_
                rintro e wA ⟨rfl, m, rfl⟩
                have PA := Lib.hid (P9.out.drewN m)
                have FA := Lib.hid (F9.out.drewN m)
                have BA := Lib.hid (below_drewN B9.out m)
                clear P9 F9 B9
                generalize w9.drewN m = wA at *
                have q2 : IntKind.i64.wrap (s2 - (d) + (d + r - (s2))) = r := by rw [IntWalk.i64_in _ (by omega)]; omega
                go_wp2_with fail
                go_roundw
                case rel => exact ⟨k + 1, s2, d, 1, x9, 0, by omega, by omega, by go_num, by omega, by omega, by omega, by omega, HO2.out, PA.out, FA.out, BA.out⟩
                case measure => simp [intOf]; omega
        · have hcase : True := trivial
          have t0 : 0 ≤ (0 : Int) := by omega
          have t1 : s + ((0 : Int)) ≤ d + r := by omega
          go_wp2_with fail
          refine (wsend_yes b r s (d + r) d ((0 : Int)) _ P5.out HK.out t0 (by omega) t1).mono ?_
          rintro e w6 ⟨rfl, ho, hg⟩
          obtain ⟨s2, hs2⟩ : ∃ s2, s2 = s + ((0 : Int)) := ⟨_, rfl⟩
          rw [← hs2] at ho
          have e1 : d ≤ s2 := by omega
          have e2 : s2 ≤ d + r := by omega
          have e3 : s2 ≤ 100 * (k : Int) + 100 := by omega
          have P6 := Lib.hid ho; clear ho
          have F6 := Lib.hid (Flw.bel F5.out hg (Ne.symm hne))
          have B6 : Hid (Below w.heap.size w w6) := B5.out.trans (below_grown hg hwb P5.out.lt)
          clear hg hs2 t0 t1 P5 F5 B5 hcase
          try clear hc
          try clear ha
          try clear q1
          have hcx := (B6.out.cell (p := ⟨ab, off + k, none⟩) hab).trans HC.out
          have HK2 := Lib.hid (show PipOk r s2 (d + r) d from ⟨r0, r1, d0, e1, e2, by omega, by omega⟩)
          by_cases hz : n = 0
          · subst hz
            have HK3 := Lib.hid (show PipOk r s2 (d + r) s2 from ⟨r0, r1, by omega, by omega, e2, by omega, by omega⟩)
            have HK9 := Lib.hid (show PipOk r s2 (s2 + r) s2 from ⟨r0, r1, by omega, by omega, by omega, by omega, by omega⟩)
            go_wp2_with fail
            refine (wwaits b r s2 (d + r) d _ P6.out HK2.out).mono ?_
            rintro e w7 ⟨rfl, m, rfl⟩
            have P7 := Lib.hid (P6.out.drewN m)
            have F7 := Lib.hid (F6.out.drewN m)
            have B7 := Lib.hid (below_drewN B6.out m)
            clear P6 F6 B6 hcx
            generalize w6.drewN m = w7 at *
            go_wp2_with fail
            refine (weat_yes b r s2 (d + r) d (s2 - d) _ P7.out HK2.out (by omega) (by omega) (by omega)).mono ?_
            rintro e w8 ⟨rfl, ho, hg⟩
            rw [show d + (s2 - d) = s2 from by omega] at ho
            have P8 := Lib.hid ho; clear ho
            have F8 := Lib.hid (Flw.bel F7.out hg (Ne.symm hne))
            have B8 : Hid (Below w.heap.size w w8) := B7.out.trans (below_grown hg hwb P7.out.lt)
            clear hg P7 F7 B7
            go_wp2_with fail
            refine (wgrant b r s2 (d + r) s2 _ P8.out HK3.out).mono ?_
            rintro e w8b ⟨he, ho, hg⟩
            rw [show s2 + r - (d + r) = s2 - d from by omega] at he
            subst he
            have P8b := Lib.hid ho; clear ho
            have F8b := Lib.hid (Flw.bel F8.out hg (Ne.symm hne))
            have B8b : Hid (Below w.heap.size w w8b) := B8.out.trans (below_grown hg hwb P8.out.lt)
            clear hg P8 F8 B8
            have HO2 := Lib.hid (told_ok HO.out)
            have T := Lib.hid (told_any f x y c w8b F8b.out HO.out)
            generalize tX x y c = x9 at *
            generalize tC x y c = c9 at *
            go_wp2_with fail
            refine T.out.mono ?_
            rintro e w9 ⟨rfl, ho, hg⟩
            have F9 := Lib.hid ho; clear ho
            have P9 := Lib.hid (Pip.bel P8b.out hg hne)
            have B9 : Hid (Below w.heap.size w w9) := B8b.out.trans (below_grown hg hwf F8b.out.lt)
            clear hg P8b F8b B8b T
            go_wp2_with fail
            refine (wwaits b r (s2) (s2 + r) (s2) _ P9.out HK9.out).mono ?_
            rintro e wA ⟨rfl, m, rfl⟩
            have PA := Lib.hid (P9.out.drewN m)
            have FA := Lib.hid (F9.out.drewN m)
            have BA := Lib.hid (below_drewN B9.out m)
            clear P9 F9 B9
            generalize w9.drewN m = wA at *
            have q2 : IntKind.i64.wrap (s2 - (s2) + (s2 + r - (s2))) = r := by rw [IntWalk.i64_in _ (by omega)]; omega
            go_wp2_with fail
            go_roundw
            case rel => exact ⟨k + 1, s2, s2, x9, y, c9, by omega, by omega, by go_num, by omega, by omega, by omega, by omega, HO2.out, PA.out, FA.out, BA.out⟩
            case measure => simp [intOf]; omega
          · by_cases hz1 : n = 1
            · subst hz1
              have HK9 := HK2
              have HO2 := Lib.hid (lost_ok x0 x1)
              have T := Lib.hid (lost_any f x y c w6 F6.out x0 x1)
              generalize hlf x = x9 at *
              go_wp2_with fail
              refine T.out.mono ?_
              rintro e w9 ⟨rfl, ho, hg⟩
              have F9 := Lib.hid ho; clear ho
              have P9 := Lib.hid (Pip.bel P6.out hg hne)
              have B9 : Hid (Below w.heap.size w w9) := B6.out.trans (below_grown hg hwf F6.out.lt)
              clear hg P6 F6 B6 T hcx
              go_wp2_with fail
              refine (wwaits b r (s2) (d + r) (d) _ P9.out HK9.out).mono ?_
              rintro e wA ⟨rfl, m, rfl⟩
              have PA := Lib.hid (P9.out.drewN m)
              have FA := Lib.hid (F9.out.drewN m)
              have BA := Lib.hid (below_drewN B9.out m)
              clear P9 F9 B9
              generalize w9.drewN m = wA at *
              have q2 : IntKind.i64.wrap (s2 - (d) + (d + r - (s2))) = r := by rw [IntWalk.i64_in _ (by omega)]; omega
              go_wp2_with fail
              go_roundw
              case rel => exact ⟨k + 1, s2, d, x9, x9, 0, by omega, by omega, by go_num, by omega, by omega, by omega, by omega, HO2.out, PA.out, FA.out, BA.out⟩
              case measure => simp [intOf]; omega
            · have g0 : (n == 0) = false := by simpa using hz
              have g1 : (n == 1) = false := by simpa using hz1
              clear hz hz1
              have HK9 := HK2
              have HO2 := Lib.hid (rlate_ok x0 x1)
              have T := Lib.hid (rlate_any f x y c w6 F6.out x0 x1)
              generalize hlf x = x9 at *
              go_wp2_with fail
              refine T.out.mono ?_
              rintro e w9 ⟨rfl, ho, hg⟩
              have F9 := Lib.hid ho; clear ho
              have P9 := Lib.hid (Pip.bel P6.out hg hne)
              have B9 : Hid (Below w.heap.size w w9) := B6.out.trans (below_grown hg hwf F6.out.lt)
              clear hg P6 F6 B6 T hcx
              go_wp2_with fail
              refine (wwaits b r (s2) (d + r) (d) _ P9.out HK9.out).mono ?_
              rintro e wA ⟨rfl, m, rfl⟩
              have PA := Lib.hid (P9.out.drewN m)
              have FA := Lib.hid (F9.out.drewN m)
              have BA := Lib.hid (below_drewN B9.out m)
              clear P9 F9 B9
              generalize w9.drewN m = wA at *
              have q2 : IntKind.i64.wrap (s2 - (d) + (d + r - (s2))) = r := by rw [IntWalk.i64_in _ (by omega)]; omega
              go_wp2_with fail
              go_roundw
              case rel => exact ⟨k + 1, s2, d, 1, x9, 0, by omega, by omega, by go_num, by omega, by omega, by omega, by omega, HO2.out, PA.out, FA.out, BA.out⟩
              case measure => simp [intOf]; omega
      · go_wp2_with fail
        all_goals
          go_ret
          exact ⟨rfl, HB.out⟩
  · have HV := Lib.hid (show r < 0 ∨ 100 < r by omega)
    clear hv
    go_enter Try.func3, Try.ntmps3
    go_wp2_with fail
    refine (wnew_no _ _ HV.out).mono ?_
    rintro e w' ⟨rfl, rfl⟩
    go_wp2_with fail
    refine (tin_out _ _ _ _ HV.out).mono ?_
    rintro e w' ⟨rfl, rfl⟩
    go_wp2
    go_ret
    exact ⟨rfl, Below.refl _ _⟩
end Go.Proofs.Ytkpflghhmnkjmaa.topRoom
