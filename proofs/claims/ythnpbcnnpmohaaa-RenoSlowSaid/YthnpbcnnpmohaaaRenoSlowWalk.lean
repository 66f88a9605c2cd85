/- RenoSlow returns true for every input: the walk. -/
import Derived.Test.YthnpbcnnpmohaaaRenoF
namespace Go.Proofs.Ythnpbcnnpmohaaa.renoSlow
open Go.RowKit
set_option linter.unusedSimpArgs false
set_option linter.unusedVariables false

/-- Where the window stands when l are told, from x on and no count. -/
def slowR : Nat → Int → Int → Int
  | 0, x, _ => x
  | f + 1, x, l => if x ≤ l then slowR f (x + 1) (l - x) else x
theorem slow_told {x y c m : Int} (h : RnOk x y c) (hy : y ≤ x) (hm : 1 ≤ m) :
    slowR (1000 - x).toNat x (m + c) = slowR (1000 - tX x y c).toNat (tX x y c) (m - 1 + tC x y c) ∧ y ≤ tX x y c := by
  obtain ⟨h1, h2, h3, h4, h5, h6⟩ := h
  unfold tX tC
  by_cases e1 : x = 1000
  · subst e1
    simp only [if_true]
    refine ⟨?_, hy⟩
    rfl
  · simp only [if_neg e1, if_neg (Int.not_lt.2 hy)]
    by_cases e2 : c + 1 = x
    · simp only [if_pos e2]
      refine ⟨?_, by omega⟩
      obtain ⟨f, hf⟩ : ∃ f, (1000 - x).toNat = f + 1 := ⟨(1000 - x).toNat - 1, by omega⟩
      rw [hf, show (1000 - (x + 1)).toNat = f from by omega]
      show (if x ≤ m + c then slowR f (x + 1) (m + c - x) else x) = _
      rw [if_pos (by omega), show m + c - x = m - 1 + 0 from by omega]
    · simp only [if_neg e2]
      exact ⟨by rw [show m - 1 + (c + 1) = m + c from by omega], hy⟩
theorem slow_end {x y c : Int} (h : RnOk x y c) : slowR (1000 - x).toNat x (0 + c) = x := by
  obtain ⟨h1, h2, h3, h4, h5, h6⟩ := h
  rcases hf : (1000 - x).toNat with _ | f
  · rfl
  · show (if x ≤ 0 + c then _ else x) = x
    rw [if_neg (by omega)]
theorem slow_up {x l : Int} (h : x ≤ l) (h2 : x < 1000) : slowR (1000 - x).toNat x l = slowR (1000 - (x + 1)).toNat (x + 1) (l - x) := by
  obtain ⟨f, hf⟩ : ∃ f, (1000 - x).toNat = f + 1 := ⟨(1000 - x).toNat - 1, by omega⟩
  rw [hf, show (1000 - (x + 1)).toNat = f from by omega]
  show (if x ≤ l then _ else x) = _
  rw [if_pos h]
theorem slow_stop {x l : Int} (h : l < x ∨ 1000 ≤ x) : slowR (1000 - x).toNat x l = x := by
  rcases hf : (1000 - x).toNat with _ | f
  · rfl
  · show (if x ≤ l then _ else x) = x
    rw [if_neg (by omega)]

set_option maxHeartbeats 8000000 in
set_option maxRecDepth 100000 in
theorem walk (a : Option Addr) (len cap : Nat) (zs : List Int) (told : Int) (w : World) (hI : Ints w w.heap.size a len zs) (htold : -9223372036854775808 ≤ told ∧ told ≤ 9223372036854775807) :
    Calls Try.prog 9 #[.slice a len cap, .int .i64 told] w fun e w' => e = .returned (.bool true) ∧ Below w.heap.size w w' := by
  have hroom := hI.room
  have HI := Lib.hid hI; clear hI
  go_enter Try.func9, Try.ntmps9
  go_wp2_with fail
  refine (rfact_any _).mono ?_
  rintro e w1 ⟨rfl, hb1⟩
  have B1 := Lib.hid hb1; clear hb1
  go_wp2_with fail
  refine (rnew_any _).mono ?_
  rintro e w2 ⟨rfl, ho, hg⟩
  have H2 := Lib.hid ho; clear ho
  have B2 : Hid (Below w.heap.size w w2) := B1.out.trans ((below_new hg).mono B1.out.size)
  clear hg
  have hsz := B1.out.size
  generalize hb : w1.heap.size = b at *
  clear hb B1
  go_wp2_with fail
  go_loopw [7] (fun v7 wr => ∃ (k : Nat) (x s c : Int), k ≤ len ∧ k ≤ 400 ∧ v7 = .int .i64 k ∧ RnOk x s c ∧ Flw wr b x s c ∧ Below w.heap.size w wr)
    (fun v7 _ => len - (intOf v7).toNat)
  case atStart => exact ⟨0, 1, 1000, 0, by omega, by omega, rfl, ⟨by omega, by omega, by omega, by omega, by omega, by omega⟩, H2.out, B2.out⟩
  case round =>
    clear H2 B2
    obtain ⟨k, x, s, c, hk, hk4, rfl, hok, hT, hB⟩ := hrel
    have HT := Lib.hid hT; clear hT
    have HB := Lib.hid hB; clear hB
    have HO := Lib.hid hok; clear hok
    by_cases hlt : k < len ∧ k < 400
    · obtain ⟨hl1, hl2⟩ := hlt
      obtain ⟨ab, off, rfl, hab, hcell⟩ := HI.out.cell k hl1
      have hcx := (HB.out.cell (p := ⟨ab, off + k, none⟩) hab).trans hcell
      clear hcell
      have hfit := HI.out.fits k
      generalize zs.getD k 0 = n at *
      by_cases h1 : n = 1
      · subst h1
        go_wp2_with fail
        refine (lost_any b _ _ _ _ HT.out HO.out.x0 HO.out.x1).mono ?_
        rintro e w3 ⟨rfl, ho, hg⟩
        have HT2 := Lib.hid ho; clear ho
        have HB2 : Hid (Below w.heap.size w w3) := HB.out.trans (below_grown hg hsz HT.out.lt)
        clear hg
        have HO2 := Lib.hid (lost_ok HO.out.x0 HO.out.x1)
        generalize hlf x = y at *
        have q1 := HO2.out.x0
        have q2 := HO2.out.x1
        have q3 := HO2.out.s0
        have q4 := HO2.out.s1
        go_wp2_with fail
        refine (window_any _ _ _ _ _ HT2.out).mono ?_
        rintro e w4 ⟨rfl, nd, rfl⟩
        go_wp2_with fail
        refine (in_in _ _ _ _ q1 q2).mono ?_
        rintro e w' ⟨rfl, rfl⟩
        go_wp2_with fail
        refine (in_in _ _ _ _ q3 q4).mono ?_
        rintro e w' ⟨rfl, rfl⟩
        go_wp2
        go_roundw
        case rel => exact ⟨k + 1, _, _, _, by omega, by omega, by go_num, HO2.out, HT2.out, below_drewN HB2.out _⟩
        case measure => simp [intOf]; omega
      · by_cases h2 : n = 2
        · subst h2
          go_wp2_with fail
          refine (rlate_any b _ _ _ _ HT.out HO.out.x0 HO.out.x1).mono ?_
          rintro e w3 ⟨rfl, ho, hg⟩
          have HT2 := Lib.hid ho; clear ho
          have HB2 : Hid (Below w.heap.size w w3) := HB.out.trans (below_grown hg hsz HT.out.lt)
          clear hg
          have HO2 := Lib.hid (rlate_ok HO.out.x0 HO.out.x1)
          generalize hlf x = y at *
          have q1 := HO2.out.x0
          have q2 := HO2.out.x1
          have q3 := HO2.out.s0
          have q4 := HO2.out.s1
          go_wp2_with fail
          refine (window_any _ _ _ _ _ HT2.out).mono ?_
          rintro e w4 ⟨rfl, nd, rfl⟩
          go_wp2_with fail
          refine (in_in _ _ _ _ q1 q2).mono ?_
          rintro e w' ⟨rfl, rfl⟩
          go_wp2_with fail
          refine (in_in _ _ _ _ q3 q4).mono ?_
          rintro e w' ⟨rfl, rfl⟩
          go_wp2
          go_roundw
          case rel => exact ⟨k + 1, _, _, _, by omega, by omega, by go_num, HO2.out, HT2.out, below_drewN HB2.out _⟩
          case measure => simp [intOf]; omega
        · have g1 : (n == 1) = false := by simpa using h1
          have g2 : (n == 2) = false := by simpa using h2
          clear h1 h2
          go_wp2_with fail
          refine (told_any b _ _ _ _ HT.out HO.out).mono ?_
          rintro e w3 ⟨rfl, ho, hg⟩
          have HT2 := Lib.hid ho; clear ho
          have HB2 : Hid (Below w.heap.size w w3) := HB.out.trans (below_grown hg hsz HT.out.lt)
          clear hg
          have HO2 := Lib.hid (told_ok HO.out)
          generalize tX x s c = x2 at *
          generalize tC x s c = c2 at *
          have q1 := HO2.out.x0
          have q2 := HO2.out.x1
          have q3 := HO2.out.s0
          have q4 := HO2.out.s1
          go_wp2_with fail
          refine (window_any _ _ _ _ _ HT2.out).mono ?_
          rintro e w4 ⟨rfl, nd, rfl⟩
          go_wp2_with fail
          refine (in_in _ _ _ _ q1 q2).mono ?_
          rintro e w' ⟨rfl, rfl⟩
          go_wp2_with fail
          refine (in_in _ _ _ _ q3 q4).mono ?_
          rintro e w' ⟨rfl, rfl⟩
          go_wp2
          go_roundw
          case rel => exact ⟨k + 1, _, _, _, by omega, by omega, by go_num, HO2.out, HT2.out, below_drewN HB2.out _⟩
          case measure => simp [intOf]; omega
    · have hex : len ≤ k ∨ (k < len ∧ 400 ≤ k) := by omega
      clear hlt
      have x0 := HO.out.x0
      have x1 := HO.out.x1
      have C1 := Lib.hid (fun w' ho => lost_any b x s c w' ho x0 x1)
      have HO2 := Lib.hid (lost_ok x0 x1)
      generalize hlf x = y at *
      have y0 := HO2.out.s0
      have y1 := HO2.out.s1
      rcases hex with hex | ⟨hex, hex2⟩
      all_goals
        go_wp2_with fail
        refine (C1.out _ HT.out).mono ?_
        rintro e w3 ⟨rfl, ho, hg⟩
        have HT2 := Lib.hid ho; clear ho
        have HB2 : Hid (Below w.heap.size w w3) := HB.out.trans (below_grown hg hsz HT.out.lt)
        clear hg
        go_wp2_with fail
        refine (window_any _ _ _ _ _ HT2.out).mono ?_
        rintro e w4 ⟨rfl, nd, rfl⟩
        by_cases hv : 0 ≤ told ∧ told ≤ 900
        · obtain ⟨hv1, hv2⟩ := hv
          go_wp2_with fail
          refine (in_in _ _ _ _ hv1 hv2).mono ?_
          rintro e w' ⟨rfl, rfl⟩
          have HT3 : Hid (Flw (w3.drewN nd) b y y 0) := Flw.drewN HT2.out nd
          have HB3 : Hid (Below w.heap.size w (w3.drewN nd)) := below_drewN HB2.out nd
          generalize w3.drewN nd = w5 at *
          obtain ⟨g, hg⟩ : ∃ g, g = slowR (1000 - y).toNat y told := ⟨_, rfl⟩
          have HG := Lib.hid hg; clear hg
          go_wp2_with fail
          go_loop [12, 13] (fun v12 v13 => ∃ want left : Int, 2 ≤ want ∧ want ≤ 1000 ∧ 0 ≤ left ∧ left ≤ 900 ∧ v12 = .int .i64 want ∧ v13 = .int .i64 left ∧ Hid (g = slowR (1000 - want).toNat want left))
            (fun v12 _ => (1000 - intOf v12).toNat)
          case atStart => exact ⟨y, told, y0, y1, hv1, hv2, rfl, rfl, HG⟩
          case round =>
            obtain ⟨want, left, p1, p2, p3, p4, rfl, rfl, HGw⟩ := hrel
            by_cases hc : want ≤ left ∧ want < 1000
            · obtain ⟨hc1, hc2⟩ := hc
              go_wp2
              go_round
              case rel => exact ⟨want + 1, left - want, by omega, by omega, by omega, by omega, rfl, rfl, HGw.out.trans (slow_up hc1 hc2)⟩
              case measure => simp [intOf]; omega
            · have hx : left < want := by omega
              clear hc
              have hgw : g = want := HGw.out.trans (slow_stop (by omega))
              subst hgw
              clear HGw
              · go_wp2_with fail
                go_loopw [14] (fun v14 wr2 => ∃ (k2 : Nat) (x2 c2 : Int), (k2 : Int) ≤ told ∧ v14 = .int .i64 k2 ∧ Hid (RnOk x2 y c2) ∧ y ≤ x2 ∧ Hid (g = slowR (1000 - x2).toNat x2 (told - k2 + c2)) ∧ Flw wr2 b x2 y c2 ∧ Below w.heap.size w wr2)
                  (fun v14 _ => (told - intOf v14).toNat)
                case atStart => exact ⟨0, y, 0, by omega, rfl, HO2, by omega, by rw [show told - ((0 : Nat) : Int) + 0 = told from by omega]; exact HG, HT3.out, HB3.out⟩
                case round =>
                  clear HT3 HB3 HT2 HB2 HT HB HO HO2 HG C1
                  obtain ⟨k2, x2, c2, hk2, rfl, HO, hyx, HGx, hT, hB⟩ := hrel
                  have HT := Lib.hid hT; clear hT
                  have HB := Lib.hid hB; clear hB
                  by_cases hlt : (k2 : Int) < told
                  · have hs := slow_told HO.out hyx (show 1 ≤ told - k2 by omega)
                    obtain ⟨hs1, hs2⟩ := hs
                    have HG2 : Hid (g = slowR (1000 - tX x2 y c2).toNat (tX x2 y c2) (told - (k2 + 1 : Nat) + tC x2 y c2)) := by
                      have := HGx.out.trans hs1
                      rw [show told - (k2 + 1 : Nat) = told - k2 - 1 from by omega]
                      exact this
                    clear hs1
                    have HO3 := Lib.hid (told_ok HO.out)
                    go_wp2_with fail
                    refine (told_any b _ _ _ _ HT.out HO.out).mono ?_
                    rintro e w7 ⟨rfl, ho, hg⟩
                    have HT2 := Lib.hid ho; clear ho
                    have HB2 : Hid (Below w.heap.size w w7) := HB.out.trans (below_grown hg hsz HT.out.lt)
                    clear hg
                    generalize tX x2 y c2 = x3 at *
                    generalize tC x2 y c2 = c3 at *
                    go_wp2
                    go_roundw
                    case rel => exact ⟨k2 + 1, x3, c3, by omega, by go_num, HO3, hs2, HG2, HT2.out, HB2.out⟩
                    case measure => simp [intOf]; omega
                  · have hgx : g = x2 := by
                      have := HGx.out
                      rw [show told - (k2 : Int) = 0 from by omega, slow_end HO.out] at this
                      exact this
                    subst hgx
                    go_wp2_with fail
                    refine (window_any _ _ _ _ _ HT.out).mono ?_
                    rintro e w8 ⟨rfl, nd3, rfl⟩
                    go_wp2
                    go_ret
                    exact ⟨by simp, below_drewN HB.out _⟩
        · have HV := Lib.hid (show told < 0 ∨ 900 < told by omega)
          clear hv
          go_wp2_with fail
          refine (in_out _ _ _ _ HV.out).mono ?_
          rintro e w' ⟨rfl, rfl⟩
          go_wp2
          go_ret
          exact ⟨by simp, below_drewN HB2.out _⟩
end Go.Proofs.Ythnpbcnnpmohaaa.renoSlow
