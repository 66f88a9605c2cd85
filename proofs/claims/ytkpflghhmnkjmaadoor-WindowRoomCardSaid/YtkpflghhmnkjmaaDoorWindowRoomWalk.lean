/- WindowRoom returns true for every input: the walk. -/
import Derived.Test.YtkpflghhmnkjmaaDoorWinF
namespace Go.Proofs.YtkpflghhmnkjmaaDoor.windowRoom
open Go.RowKit
set_option linter.unusedSimpArgs false
set_option linter.unusedVariables false

set_option maxHeartbeats 4000000 in
theorem wfact_any (w : World) (hd : Hd w) : Calls Tryd.prog 5 #[] w fun e w' => e = .returned (.bool true) ∧ Below w.heap.size w w' := by
  have HD := Lib.hid hd; clear hd
  have K0 : PipOk 5 0 5 0 := ⟨by decide, by decide, by decide, by decide, by decide, by decide, by decide⟩
  have K1 : PipOk 5 5 5 0 := ⟨by decide, by decide, by decide, by decide, by decide, by decide, by decide⟩
  have K2 : PipOk 5 5 5 2 := ⟨by decide, by decide, by decide, by decide, by decide, by decide, by decide⟩
  have K3 : PipOk 5 5 7 2 := ⟨by decide, by decide, by decide, by decide, by decide, by decide, by decide⟩
  have HK0 := Lib.hid K0; clear K0
  have HK1 := Lib.hid K1; clear K1
  have HK2 := Lib.hid K2; clear K2
  have HK3 := Lib.hid K3; clear K3
  have hB0 : w.heap.size ≤ w.heap.size := Nat.le_refl _
  go_enter Tryd.func5, Tryd.ntmps5
  go_wp2_with fail
  refine (wnew_yes 5 _ (by decide) (by decide)).mono ?_
  rintro e w1 ⟨rfl, ho, hg⟩
  have P1 := Lib.hid ho; clear ho
  have B1 : Hid (Below w.heap.size w w1) := below_new hg
  clear hg
  generalize hb : w.heap.size = b at *
  have hbb : b ≤ b := Nat.le_refl _
  go_wp2_with fail
  refine (wsend_yes b 5 0 5 0 5 _ P1.out HK0.out (by decide) (by decide) (by decide)).mono ?_
  rintro e w2 ⟨rfl, ho, hg⟩
  have P2 : Hid (Pip w2 b 5 5 5 0) := ho
  have B2 : Hid (Below b w w2) := B1.out.trans (below_grown hg hbb P1.out.lt)
  clear hg ho
  go_wp2_with fail
  refine (wsend_full b 5 5 5 0 1 _ P2.out HK1.out (by decide) (by decide) (by decide)).mono ?_
  rintro e w3 ⟨rfl, m, rfl⟩
  have P3 := Lib.hid (P2.out.drewN m)
  have B3 := Lib.hid (below_drewN B2.out m)
  generalize w2.drewN m = w3 at *
  go_wp2_with fail
  refine (weat_yes b 5 5 5 0 2 _ P3.out HK1.out (by decide) (by decide) (by decide)).mono ?_
  rintro e w4 ⟨rfl, ho, hg⟩
  have P4 : Hid (Pip w4 b 5 5 5 2) := ho
  have B4 : Hid (Below b w w4) := B3.out.trans (below_grown hg hbb P3.out.lt)
  clear hg ho
  go_wp2_with fail
  refine (wgrant b 5 5 5 2 _ P4.out HK2.out).mono ?_
  rintro e w5 ⟨rfl, ho, hg⟩
  have P5 : Hid (Pip w5 b 5 5 7 2) := ho
  have B5 : Hid (Below b w w5) := B4.out.trans (below_grown hg hbb P4.out.lt)
  clear hg ho
  have hd5 : Hid (Hd w5) := by show Hd w5; rw [← hb] at B5; exact HD.out.later B5.out
  have E := Lib.hid (err_same 4 w5 hd5.out)
  have e0 : errOr 4 = errV 4 := rfl
  rw [e0] at E
  clear e0 hd5
  go_wp2_with fail
  refine E.out.mono ?_
  clear E
  rintro e w6 ⟨rfl, hB⟩
  have P6 : Hid (Pip w6 b 5 5 7 2) := P5.out.below (B := 0) hB
  have B6 : Hid (Below b w w6) := B5.out.trans (hB.mono (Nat.le_of_lt P5.out.lt))
  clear hB
  go_wp2_with fail
  refine (wsend_yes b 5 5 7 2 2 _ P6.out HK3.out (by decide) (by decide) (by decide)).mono ?_
  rintro e w7 ⟨rfl, ho, hg⟩
  have B7 : Hid (Below b w w7) := B6.out.trans (below_grown hg hbb P6.out.lt)
  clear hg ho
  go_wp2
  go_ret
  exact ⟨rfl, by rw [hb]; exact B7.out⟩

set_option maxHeartbeats 8000000 in
set_option maxRecDepth 100000 in
theorem walk (r : Int) (a : Option Addr) (len cap : Nat) (A : Nat → Option Addr) (L C : Nat → Nat) (Z : Nat → List Int) (w : World) (hr : -9223372036854775808 ≤ r ∧ r ≤ 9223372036854775807) (hI : Grid w w.heap.size a len A L C Z) (hd : Hd w) :
    Calls Tryd.prog 3 #[.int .i64 r, .slice a len cap] w fun e w' => e = .returned (.bool true) ∧ Below w.heap.size w w' := by
  have hroom := hI.room
  have HI := Lib.hid hI; clear hI
  have HD := Lib.hid hd; clear hd
  by_cases hv : 0 ≤ r ∧ r ≤ 100
  · obtain ⟨r0, r1⟩ := hv
    clear hr
    go_enter Tryd.func3, Tryd.ntmps3
    go_wp2_with fail
    refine (wfact_any _ HD.out).mono ?_
    rintro e w1 ⟨rfl, hb1⟩
    have B1 := Lib.hid hb1; clear hb1
    go_wp2_with fail
    refine (wnew_yes _ _ r0 r1).mono ?_
    rintro e w2 ⟨rfl, ho, hg⟩
    have H2 := Lib.hid ho; clear ho
    have B2 : Hid (Below w.heap.size w w2) := B1.out.trans ((below_new hg).mono B1.out.size)
    clear hg
    have hsz := B1.out.size
    generalize hb : w1.heap.size = b at *
    clear hb B1
    go_wp2_with fail
    go_loopw [8] (fun v8 wr => ∃ (k : Nat) (s l d : Int), k ≤ len ∧ k ≤ 60 ∧ v8 = .int .i64 k ∧ 0 ≤ d ∧ d ≤ s ∧ s ≤ l ∧ l ≤ d + r ∧ s ≤ 100 * k ∧ Pip wr b r s l d ∧ Below w.heap.size w wr)
      (fun v8 _ => len - (intOf v8).toNat)
    case atStart => exact ⟨0, 0, r, 0, by omega, by omega, rfl, by omega, by omega, by omega, by omega, by omega, H2.out, B2.out⟩
    case round =>
      clear H2 B2
      obtain ⟨k, s, l, d, hk, hk60, rfl, i1, i2, i3, i4, i5, hP, hB⟩ := hrel
      have HB := Lib.hid hB; clear hB
      have HP := Lib.hid hP; clear hP
      have HK := Lib.hid (show PipOk r s l d from ⟨r0, r1, i1, i2, i3, by omega, by omega⟩)
      by_cases hlt : k < len ∧ k < 60
      · obtain ⟨hl1, hl2⟩ := hlt
        obtain ⟨gb, goff, rfl, hgb, hgc⟩ := HI.out.cell k hl1
        have hrow := HI.out.row k hl1
        have hcx := (HB.out.cell (p := ⟨gb, goff + k, none⟩) hgb).trans hgc
        clear hgc
        generalize A k = ak at *
        generalize L k = lk at *
        generalize C k = ck at *
        generalize Z k = zk at *
        by_cases h2 : lk = 2
        · subst h2
          obtain ⟨ib, ioff, rfl, hib, hi0⟩ := hrow.cell 0 (by omega)
          obtain ⟨ib', ioff', he, hib', hi1⟩ := hrow.cell 1 (by omega)
          simp only [Option.some.injEq, Addr.mk.injEq, and_true] at he
          obtain ⟨rfl, rfl⟩ := he
          have hc0 := (HB.out.cell (p := ⟨ib, ioff, none⟩) hib).trans hi0
          have hc1 := (HB.out.cell (p := ⟨ib, ioff + 1, none⟩) hib).trans hi1
          clear hrow hi0 hi1 hib'
          generalize zk.getD 0 0 = x at *
          generalize zk.getD 1 0 = n at *
          by_cases hx0 : x = 0
          · have hxb : (x == 0) = true := by simpa using hx0
            clear hx0
            go_wp2_with fail
            refine (wsend_all b r s l d n _ HP.out HK.out).mono ?_
            rintro e w3 ⟨v, s', rfl, j1, j2, j3, ho, hg⟩
            have P3 := Lib.hid ho; clear ho
            have B3 : Hid (Below w.heap.size w w3) := HB.out.trans (below_grown hg hsz HP.out.lt)
            clear hg hcx hc0 hc1
            have HK3 := Lib.hid (show PipOk r s' l d from ⟨r0, r1, i1, by omega, j3, by omega, by omega⟩)
            go_wp2_with fail
            refine (wwaits b r s' l d _ P3.out HK3.out).mono ?_
            rintro e w4 ⟨rfl, m, rfl⟩
            have P4 := Lib.hid (P3.out.drewN m)
            have B4 := Lib.hid (below_drewN B3.out m)
            generalize w3.drewN m = w4 at *
            go_wp2_with fail
            go_roundw
            case rel => exact ⟨k + 1, s', l, d, by omega, by omega, by go_num, by omega, by omega, by omega, by omega, by omega, P4.out, B4.out⟩
            case measure => simp [intOf]; omega
          · have hxb : (x == 0) = false := by simpa using hx0
            clear hx0
            by_cases hx1 : x = 1
            · have hxb1 : (x == 1) = true := by simpa using hx1
              clear hx1
              go_wp2_with fail
              refine (weat_all b r s l d n _ HP.out HK.out).mono ?_
              rintro e w3 ⟨v, d', rfl, j1, j2, ho, hg⟩
              have P3 := Lib.hid ho; clear ho
              have B3 : Hid (Below w.heap.size w w3) := HB.out.trans (below_grown hg hsz HP.out.lt)
              clear hg hcx hc0 hc1
              have HK3 := Lib.hid (show PipOk r s l d' from ⟨r0, r1, by omega, j2, i3, by omega, by omega⟩)
              go_wp2_with fail
              refine (wwaits b r s l d' _ P3.out HK3.out).mono ?_
              rintro e w4 ⟨rfl, m, rfl⟩
              have P4 := Lib.hid (P3.out.drewN m)
              have B4 := Lib.hid (below_drewN B3.out m)
              generalize w3.drewN m = w4 at *
              go_wp2_with fail
              go_roundw
              case rel => exact ⟨k + 1, s, l, d', by omega, by omega, by go_num, by omega, by omega, by omega, by omega, by omega, P4.out, B4.out⟩
              case measure => simp [intOf]; omega
            · have hxb1 : (x == 1) = false := by simpa using hx1
              clear hx1
              go_wp2_with fail
              refine (wgrant b r s l d _ HP.out HK.out).mono ?_
              rintro e w3 ⟨rfl, ho, hg⟩
              have P3 := Lib.hid ho; clear ho
              have B3 : Hid (Below w.heap.size w w3) := HB.out.trans (below_grown hg hsz HP.out.lt)
              clear hg hcx hc0 hc1
              have HK3 := Lib.hid (show PipOk r s (d + r) d from ⟨r0, r1, by omega, by omega, by omega, by omega, by omega⟩)
              go_wp2_with fail
              refine (wwaits b r s (d + r) d _ P3.out HK3.out).mono ?_
              rintro e w4 ⟨rfl, m, rfl⟩
              have P4 := Lib.hid (P3.out.drewN m)
              have B4 := Lib.hid (below_drewN B3.out m)
              generalize w3.drewN m = w4 at *
              go_wp2_with fail
              go_roundw
              case rel => exact ⟨k + 1, s, d + r, d, by omega, by omega, by go_num, by omega, by omega, by omega, by omega, by omega, P4.out, B4.out⟩
              case measure => simp [intOf]; omega
        · have h2b : ((lk : Int) != 2) = true := by simp; omega
          clear h2 hrow
          go_wp2_with fail
          go_roundw
          case rel => exact ⟨k + 1, s, l, d, by omega, by omega, by go_num, by omega, by omega, by omega, by omega, by omega, HP.out, HB.out⟩
          case measure => simp [intOf]; omega
      · have HK3 := Lib.hid (show PipOk r s (d + r) d from ⟨r0, r1, by omega, by omega, by omega, by omega, by omega⟩)
        have HK4 := Lib.hid (show PipOk r s (d + r) (d + (s - d)) from ⟨r0, r1, by omega, by omega, by omega, by omega, by omega⟩)
        have HK5 := Lib.hid (show PipOk r s (d + (s - d) + r) (d + (s - d)) from ⟨r0, r1, by omega, by omega, by omega, by omega, by omega⟩)
        have C := Lib.hid (wgrant b r s l d wr HP.out HK.out)
        rcases Nat.lt_or_ge k len with hc | hc
        · have hc2 : 60 ≤ k := by omega
          clear hlt
          go_wp2_with fail
          refine C.out.mono ?_
          rintro e w3 ⟨rfl, ho, hg⟩
          have P3 := Lib.hid ho; clear ho
          have B3 : Hid (Below w.heap.size w w3) := HB.out.trans (below_grown hg hsz HP.out.lt)
          clear hg
          go_wp2_with fail
          refine (wwaits b r s (d + r) d _ P3.out HK3.out).mono ?_
          rintro e w4 ⟨rfl, m, rfl⟩
          have P4 := Lib.hid (P3.out.drewN m)
          have B4 := Lib.hid (below_drewN B3.out m)
          generalize w3.drewN m = w4 at *
          go_wp2_with fail
          refine (weat_yes b r s (d + r) d (s - d) _ P4.out HK3.out (by omega) (by omega) (by omega)).mono ?_
          rintro e w5 ⟨rfl, ho, hg⟩
          have P5 := Lib.hid ho; clear ho
          have B5 : Hid (Below w.heap.size w w5) := B4.out.trans (below_grown hg hsz P4.out.lt)
          clear hg
          go_wp2_with fail
          refine (wgrant b r s (d + r) (d + (s - d)) _ P5.out HK4.out).mono ?_
          rintro e w6 ⟨he, ho, hg⟩
          rw [show d + (s - d) + r - (d + r) = s - d from by omega] at he
          subst he
          have P6 := Lib.hid ho; clear ho
          have B6 : Hid (Below w.heap.size w w6) := B5.out.trans (below_grown hg hsz P5.out.lt)
          clear hg
          go_wp2_with fail
          refine (wsend_yes b r s (d + (s - d) + r) (d + (s - d)) r _ P6.out HK5.out (by omega) (by omega) (by omega)).mono ?_
          rintro e w7 ⟨rfl, ho, hg⟩
          have B7 : Hid (Below w.heap.size w w7) := B6.out.trans (below_grown hg hsz P6.out.lt)
          clear hg ho
          go_wp2
          go_ret
          exact ⟨rfl, B7.out⟩
        · clear hlt
          go_wp2_with fail
          refine C.out.mono ?_
          rintro e w3 ⟨rfl, ho, hg⟩
          have P3 := Lib.hid ho; clear ho
          have B3 : Hid (Below w.heap.size w w3) := HB.out.trans (below_grown hg hsz HP.out.lt)
          clear hg
          go_wp2_with fail
          refine (wwaits b r s (d + r) d _ P3.out HK3.out).mono ?_
          rintro e w4 ⟨rfl, m, rfl⟩
          have P4 := Lib.hid (P3.out.drewN m)
          have B4 := Lib.hid (below_drewN B3.out m)
          generalize w3.drewN m = w4 at *
          go_wp2_with fail
          refine (weat_yes b r s (d + r) d (s - d) _ P4.out HK3.out (by omega) (by omega) (by omega)).mono ?_
          rintro e w5 ⟨rfl, ho, hg⟩
          have P5 := Lib.hid ho; clear ho
          have B5 : Hid (Below w.heap.size w w5) := B4.out.trans (below_grown hg hsz P4.out.lt)
          clear hg
          go_wp2_with fail
          refine (wgrant b r s (d + r) (d + (s - d)) _ P5.out HK4.out).mono ?_
          rintro e w6 ⟨he, ho, hg⟩
          rw [show d + (s - d) + r - (d + r) = s - d from by omega] at he
          subst he
          have P6 := Lib.hid ho; clear ho
          have B6 : Hid (Below w.heap.size w w6) := B5.out.trans (below_grown hg hsz P5.out.lt)
          clear hg
          go_wp2_with fail
          refine (wsend_yes b r s (d + (s - d) + r) (d + (s - d)) r _ P6.out HK5.out (by omega) (by omega) (by omega)).mono ?_
          rintro e w7 ⟨rfl, ho, hg⟩
          have B7 : Hid (Below w.heap.size w w7) := B6.out.trans (below_grown hg hsz P6.out.lt)
          clear hg ho
          go_wp2
          go_ret
          exact ⟨rfl, B7.out⟩
  · have HV := Lib.hid (show r < 0 ∨ 100 < r by omega)
    clear hv
    go_enter Tryd.func3, Tryd.ntmps3
    go_wp2_with fail
    refine (wfact_any _ HD.out).mono ?_
    rintro e w1 ⟨rfl, hb1⟩
    have B1 := Lib.hid hb1; clear hb1
    go_wp2_with fail
    refine (wnew_no _ _ HV.out).mono ?_
    rintro e w' ⟨rfl, rfl⟩
    go_wp2_with fail
    refine (in_out _ _ _ _ HV.out).mono ?_
    rintro e w' ⟨rfl, rfl⟩
    go_wp2
    go_ret
    exact ⟨rfl, B1.out⟩
end Go.Proofs.YtkpflghhmnkjmaaDoor.windowRoom
