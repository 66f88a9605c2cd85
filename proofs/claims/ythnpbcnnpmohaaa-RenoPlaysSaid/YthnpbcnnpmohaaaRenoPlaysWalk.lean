/- RenoPlays returns true for every input: the walk. -/
import Derived.Test.YthnpbcnnpmohaaaRenoF
namespace Go.Proofs.Ythnpbcnnpmohaaa.renoPlays
open Go.RowKit
set_option linter.unusedSimpArgs false
set_option linter.unusedVariables false

theorem most_any (x y : Int) (w : World) : Calls Try.prog 33 #[.int .i64 x, .int .i64 y] w fun e w' => e = .returned (.int .i64 (max x y)) ∧ w = w' := by
  by_cases h : y < x
  all_goals
    go_enter Try.func33, Try.ntmps33
    go_wp2
    go_ret
    exact ⟨ret_int (by omega), rfl⟩

set_option maxHeartbeats 2000000 in
theorem do_told (x s c : Int) (w : World) (hk : RnOk x s c) : Calls Try.prog 30 #[.agg #[.int .i64 x, .int .i64 s, .int .i64 c], .int .i64 0] w fun e w' => e = .returned (.agg #[.int .i64 (tX x s c), .int .i64 s, .int .i64 (tC x s c)]) ∧ w.grownBy w' none := by
  obtain ⟨k1, k2, k3, k4, k5, k6⟩ := hk
  unfold tX tC
  by_cases h1 : x = 1000
  · subst h1
    rw [if_pos rfl, if_pos rfl]
    go_enter Try.func30, Try.ntmps30
    go_wp2
    go_returns
    exact ⟨rfl, by repeat (first | exact grown_refl _ _ | refine grown_alloc ?_ _)⟩
  · rw [if_neg h1, if_neg h1]
    have g1 : (x == 1000) = false := by simpa using h1
    clear h1
    by_cases h2 : x < s
    · rw [if_pos h2, if_pos h2]
      go_enter Try.func30, Try.ntmps30
      go_wp2
      go_returns
      exact ⟨rfl, by repeat (first | exact grown_refl _ _ | refine grown_alloc ?_ _)⟩
    · rw [if_neg h2, if_neg h2]
      have h2' : s ≤ x := by omega
      clear h2
      by_cases h3 : c + 1 = x
      · rw [if_pos h3, if_pos h3]
        have g3 : (c + 1 == x) = true := by simpa using h3
        clear h3
        go_enter Try.func30, Try.ntmps30
        go_wp2
        go_returns
        exact ⟨rfl, by repeat (first | exact grown_refl _ _ | refine grown_alloc ?_ _)⟩
      · rw [if_neg h3, if_neg h3]
        have g3 : (c + 1 == x) = false := by simpa using h3
        clear h3
        go_enter Try.func30, Try.ntmps30
        go_wp2
        go_returns
        exact ⟨rfl, by repeat (first | exact grown_refl _ _ | refine grown_alloc ?_ _)⟩

theorem do_lost (x s c : Int) (w : World) (hk : RnOk x s c) : Calls Try.prog 30 #[.agg #[.int .i64 x, .int .i64 s, .int .i64 c], .int .i64 1] w fun e w' => e = .returned (.agg #[.int .i64 (hlf x), .int .i64 (hlf x), .int .i64 0]) ∧ w.grownBy w' none := by
  obtain ⟨k1, k2, k3, k4, k5, k6⟩ := hk
  unfold hlf
  go_enter Try.func30, Try.ntmps30
  go_wp2_with (go_at_call 33; refine (most_any _ _ _).mono ?_; rintro e w' ⟨rfl, rfl⟩)
  go_returns
  exact ⟨rfl, by repeat (first | exact grown_refl _ _ | refine grown_alloc ?_ _)⟩

theorem do_late (x s c : Int) (w : World) (hk : RnOk x s c) : Calls Try.prog 30 #[.agg #[.int .i64 x, .int .i64 s, .int .i64 c], .int .i64 2] w fun e w' => e = .returned (.agg #[.int .i64 1, .int .i64 (hlf x), .int .i64 0]) ∧ w.grownBy w' none := by
  obtain ⟨k1, k2, k3, k4, k5, k6⟩ := hk
  unfold hlf
  go_enter Try.func30, Try.ntmps30
  go_wp2_with (go_at_call 33; refine (most_any _ _ _).mono ?_; rintro e w' ⟨rfl, rfl⟩)
  go_returns
  exact ⟨rfl, by repeat (first | exact grown_refl _ _ | refine grown_alloc ?_ _)⟩

theorem grown_undrew {w w' : World} {r : Option Nat} (h : w.drew.grownBy w' r) : w.grownBy w' r := ⟨h.os, h.tape, h.output, h.size, h.block⟩

theorem Flw.other {w : World} {b b' j : Nat} {x s c : Int} {u : Value} (h : Flw w b x s c) (hne : b ≠ b') : Flw (w.setCell ⟨b', j, none⟩ u) b x s c :=
  (Below.heap_setCell _ _ _ _ hne).trans h

/-- The reference's flow, in a block of its own. -/
def Rno (w : World) (b : Nat) (x s c : Int) : Prop := Obj w b 49 [.int .i64 x, .int .i64 s, .int .i64 c]
theorem Rno.kept {w w' : World} {b : Nat} {x s c : Int} (h : Rno w b x s c) {r : Option Nat} (hg : w.grownBy w' r) (hr : some b ≠ r) : Rno w' b x s c := Obj.kept h hg hr

set_option maxHeartbeats 8000000 in
set_option maxRecDepth 100000 in
theorem walk (a : Option Addr) (len cap : Nat) (zs : List Int) (w : World) (hI : Ints w w.heap.size a len zs) :
    Calls Try.prog 11 #[.slice a len cap] w fun e w' => e = .returned (.bool true) ∧ Below w.heap.size w w' := by
  have hroom := hI.room
  have HI := Lib.hid hI; clear hI
  go_enter Try.func11, Try.ntmps11
  go_wp2_with fail
  refine (rnew_any _).mono ?_
  rintro e w2 ⟨rfl, ho, hg⟩
  have H2 := Lib.hid ho; clear ho
  have B2 : Hid (Below w.heap.size w w2) := below_new hg
  clear hg
  have hb2 := H2.out.lt
  go_wp2_with fail
  go_loopw [5] (fun v5 wr => ∃ (k : Nat) (x s c : Int), k ≤ len ∧ k ≤ 400 ∧ v5 = .int .i64 k ∧ RnOk x s c ∧ Flw wr w.heap.size x s c ∧ Rno wr w2.heap.size x s c ∧ Below w.heap.size w wr)
    (fun v5 _ => len - (intOf v5).toNat)
  case atStart => exact ⟨0, 1, 1000, 0, by omega, by omega, rfl, ⟨by omega, by omega, by omega, by omega, by omega, by omega⟩, Obj.alloc H2.out _, Obj.new _ _ _, B2.out.alloc (by omega) _⟩
  case round =>
    clear H2 B2
    have hsz : w.heap.size ≤ w.heap.size := Nat.le_refl _
    obtain ⟨k, x, s, c, hk, hk4, rfl, hok, hT, hX, hB⟩ := hrel
    have HT := Lib.hid hT; clear hT
    have HX := Lib.hid hX; clear hX
    have HB := Lib.hid hB; clear hB
    have HO := Lib.hid hok; clear hok
    generalize w2.heap.size = rb at *
    by_cases hlt : k < len ∧ k < 400
    · obtain ⟨hl1, hl2⟩ := hlt
      obtain ⟨ab, off, rfl, hab, hcell⟩ := HI.out.cell k hl1
      have hcx := (HB.out.cell (p := ⟨ab, off + k, none⟩) hab).trans hcell
      have HC := Lib.hid hcell; clear hcell
      have hfit := HI.out.fits k
      generalize zs.getD k 0 = n at *
      by_cases h0 : n = 0
      · subst h0
        go_wp2_with fail
        refine (told_any w.heap.size _ _ _ _ HT.out HO.out).mono ?_
        rintro e w3 ⟨rfl, ho, hg⟩
        have HT2 := Lib.hid ho; clear ho
        have HX2 : Hid (Rno w3 rb x s c) := HX.out.kept hg (by simp; omega)
        have HB2 : Hid (Below w.heap.size w w3) := HB.out.trans (below_grown hg hsz HT.out.lt)
        clear hg
        have hcx2 := (HB2.out.cell (p := ⟨ab, off + k, none⟩) hab).trans HC.out
        have x0 := HX2.out.cell 0
        have x1 := HX2.out.cell 1
        have x2 := HX2.out.cell 2
        simp only [List.getElem?_cons_zero, List.getElem?_cons_succ] at x0 x1 x2
        have HO2 := Lib.hid (told_ok HO.out)
        clear hcx
        have D := Lib.hid (fun w' => do_told x s c w' HO.out)
        generalize tX x s c = x9 at *
        generalize tC x s c = c9 at *
        go_wp2_with fail
        go_still_tail 5, (by kernel_rfl)
        go_wp2_with fail
        refine (D.out _).mono ?_
        rintro e w4 ⟨rfl, hgd⟩
        have hg := grown_undrew hgd
        clear hgd
        have HT3 : Hid (Flw w4 w.heap.size x9 s c9) := Obj.kept HT2.out hg (by simp)
        have HX3 : Hid (Rno w4 rb x s c) := HX2.out.kept hg (by simp)
        have HB3 : Hid (Below w.heap.size w w4) := HB2.out.trans ((below_new hg).mono HB2.out.size)
        clear hg x0 x1 x2
        have x0 := HX3.out.cell 0
        have x1 := HX3.out.cell 1
        have x2 := HX3.out.cell 2
        have y0 := HX3.out.free 0
        have y1 := HX3.out.free 1
        have y2 := HX3.out.free 2
        simp only [List.getElem?_cons_zero, List.getElem?_cons_succ] at x0 x1 x2
        go_wp2_with fail
        have HT4 : Hid (Flw (((w4.setCell ⟨rb, 0, none⟩ (.int .i64 x9)).setCell ⟨rb, 1, none⟩ (.int .i64 s)).setCell ⟨rb, 2, none⟩ (.int .i64 c9)) w.heap.size x9 s c9) := Flw.other (Flw.other (Flw.other HT3.out (by omega)) (by omega)) (by omega)
        have HX4 : Hid (Rno (((w4.setCell ⟨rb, 0, none⟩ (.int .i64 x9)).setCell ⟨rb, 1, none⟩ (.int .i64 s)).setCell ⟨rb, 2, none⟩ (.int .i64 c9)) rb x9 s c9) := Obj.set (Obj.set (Obj.set HX3.out 0 _) 1 _) 2 _
        have HB4 : Hid (Below w.heap.size w (((w4.setCell ⟨rb, 0, none⟩ (.int .i64 x9)).setCell ⟨rb, 1, none⟩ (.int .i64 s)).setCell ⟨rb, 2, none⟩ (.int .i64 c9))) := ((HB3.out.setCell (by show _ ≤ rb; omega) _).setCell (by show _ ≤ rb; omega) _).setCell (by show _ ≤ rb; omega) _
        generalize (((w4.setCell ⟨rb, 0, none⟩ (.int .i64 x9)).setCell ⟨rb, 1, none⟩ (.int .i64 s)).setCell ⟨rb, 2, none⟩ (.int .i64 c9)) = w5 at *
        clear x0 x1 x2 y0 y1 y2
        have x0 := HX4.out.cell 0
        have x1 := HX4.out.cell 1
        simp only [List.getElem?_cons_zero, List.getElem?_cons_succ] at x0 x1
        refine (window_any _ _ _ _ _ HT4.out).mono ?_
        rintro e w6 ⟨rfl, nd, rfl⟩
        go_wp2
        go_roundw
        case rel => exact ⟨k + 1, _, _, _, by omega, by omega, by go_num, HO2.out, HT4.out, HX4.out, below_drewN HB4.out _⟩
        case measure => simp [intOf]; omega
      · by_cases h1 : n = 1
        · subst h1
          clear h0
          go_wp2_with fail
          refine (lost_any w.heap.size _ _ _ _ HT.out HO.out.x0 HO.out.x1).mono ?_
          rintro e w3 ⟨rfl, ho, hg⟩
          have HT2 := Lib.hid ho; clear ho
          have HX2 : Hid (Rno w3 rb x s c) := HX.out.kept hg (by simp; omega)
          have HB2 : Hid (Below w.heap.size w w3) := HB.out.trans (below_grown hg hsz HT.out.lt)
          clear hg
          have hcx2 := (HB2.out.cell (p := ⟨ab, off + k, none⟩) hab).trans HC.out
          have x0 := HX2.out.cell 0
          have x1 := HX2.out.cell 1
          have x2 := HX2.out.cell 2
          simp only [List.getElem?_cons_zero, List.getElem?_cons_succ] at x0 x1 x2
          have HO2 := Lib.hid (lost_ok HO.out.x0 HO.out.x1)
          clear hcx
          have D := Lib.hid (fun w' => do_lost x s c w' HO.out)
          generalize hlf x = y9 at *
          go_wp2_with fail
          go_still_tail 5, (by kernel_rfl)
          go_wp2_with fail
          refine (D.out _).mono ?_
          rintro e w4 ⟨rfl, hgd⟩
          have hg := grown_undrew hgd
          clear hgd
          have HT3 : Hid (Flw w4 w.heap.size y9 y9 0) := Obj.kept HT2.out hg (by simp)
          have HX3 : Hid (Rno w4 rb x s c) := HX2.out.kept hg (by simp)
          have HB3 : Hid (Below w.heap.size w w4) := HB2.out.trans ((below_new hg).mono HB2.out.size)
          clear hg x0 x1 x2
          have x0 := HX3.out.cell 0
          have x1 := HX3.out.cell 1
          have x2 := HX3.out.cell 2
          have y0 := HX3.out.free 0
          have y1 := HX3.out.free 1
          have y2 := HX3.out.free 2
          simp only [List.getElem?_cons_zero, List.getElem?_cons_succ] at x0 x1 x2
          go_wp2_with fail
          have HT4 : Hid (Flw (((w4.setCell ⟨rb, 0, none⟩ (.int .i64 y9)).setCell ⟨rb, 1, none⟩ (.int .i64 y9)).setCell ⟨rb, 2, none⟩ (.int .i64 0)) w.heap.size y9 y9 0) := Flw.other (Flw.other (Flw.other HT3.out (by omega)) (by omega)) (by omega)
          have HX4 : Hid (Rno (((w4.setCell ⟨rb, 0, none⟩ (.int .i64 y9)).setCell ⟨rb, 1, none⟩ (.int .i64 y9)).setCell ⟨rb, 2, none⟩ (.int .i64 0)) rb y9 y9 0) := Obj.set (Obj.set (Obj.set HX3.out 0 _) 1 _) 2 _
          have HB4 : Hid (Below w.heap.size w (((w4.setCell ⟨rb, 0, none⟩ (.int .i64 y9)).setCell ⟨rb, 1, none⟩ (.int .i64 y9)).setCell ⟨rb, 2, none⟩ (.int .i64 0))) := ((HB3.out.setCell (by show _ ≤ rb; omega) _).setCell (by show _ ≤ rb; omega) _).setCell (by show _ ≤ rb; omega) _
          generalize (((w4.setCell ⟨rb, 0, none⟩ (.int .i64 y9)).setCell ⟨rb, 1, none⟩ (.int .i64 y9)).setCell ⟨rb, 2, none⟩ (.int .i64 0)) = w5 at *
          clear x0 x1 x2 y0 y1 y2
          have x0 := HX4.out.cell 0
          have x1 := HX4.out.cell 1
          simp only [List.getElem?_cons_zero, List.getElem?_cons_succ] at x0 x1
          refine (window_any _ _ _ _ _ HT4.out).mono ?_
          rintro e w6 ⟨rfl, nd, rfl⟩
          go_wp2
          go_roundw
          case rel => exact ⟨k + 1, _, _, _, by omega, by omega, by go_num, HO2.out, HT4.out, HX4.out, below_drewN HB4.out _⟩
          case measure => simp [intOf]; omega
        · by_cases h2 : n = 2
          · subst h2
            clear h0 h1
            go_wp2_with fail
            refine (rlate_any w.heap.size _ _ _ _ HT.out HO.out.x0 HO.out.x1).mono ?_
            rintro e w3 ⟨rfl, ho, hg⟩
            have HT2 := Lib.hid ho; clear ho
            have HX2 : Hid (Rno w3 rb x s c) := HX.out.kept hg (by simp; omega)
            have HB2 : Hid (Below w.heap.size w w3) := HB.out.trans (below_grown hg hsz HT.out.lt)
            clear hg
            have hcx2 := (HB2.out.cell (p := ⟨ab, off + k, none⟩) hab).trans HC.out
            have x0 := HX2.out.cell 0
            have x1 := HX2.out.cell 1
            have x2 := HX2.out.cell 2
            simp only [List.getElem?_cons_zero, List.getElem?_cons_succ] at x0 x1 x2
            have HO2 := Lib.hid (rlate_ok HO.out.x0 HO.out.x1)
            clear hcx
            have D := Lib.hid (fun w' => do_late x s c w' HO.out)
            generalize hlf x = y9 at *
            go_wp2_with fail
            go_still_tail 5, (by kernel_rfl)
            go_wp2_with fail
            refine (D.out _).mono ?_
            rintro e w4 ⟨rfl, hgd⟩
            have hg := grown_undrew hgd
            clear hgd
            have HT3 : Hid (Flw w4 w.heap.size 1 y9 0) := Obj.kept HT2.out hg (by simp)
            have HX3 : Hid (Rno w4 rb x s c) := HX2.out.kept hg (by simp)
            have HB3 : Hid (Below w.heap.size w w4) := HB2.out.trans ((below_new hg).mono HB2.out.size)
            clear hg x0 x1 x2
            have x0 := HX3.out.cell 0
            have x1 := HX3.out.cell 1
            have x2 := HX3.out.cell 2
            have y0 := HX3.out.free 0
            have y1 := HX3.out.free 1
            have y2 := HX3.out.free 2
            simp only [List.getElem?_cons_zero, List.getElem?_cons_succ] at x0 x1 x2
            go_wp2_with fail
            have HT4 : Hid (Flw (((w4.setCell ⟨rb, 0, none⟩ (.int .i64 1)).setCell ⟨rb, 1, none⟩ (.int .i64 y9)).setCell ⟨rb, 2, none⟩ (.int .i64 0)) w.heap.size 1 y9 0) := Flw.other (Flw.other (Flw.other HT3.out (by omega)) (by omega)) (by omega)
            have HX4 : Hid (Rno (((w4.setCell ⟨rb, 0, none⟩ (.int .i64 1)).setCell ⟨rb, 1, none⟩ (.int .i64 y9)).setCell ⟨rb, 2, none⟩ (.int .i64 0)) rb 1 y9 0) := Obj.set (Obj.set (Obj.set HX3.out 0 _) 1 _) 2 _
            have HB4 : Hid (Below w.heap.size w (((w4.setCell ⟨rb, 0, none⟩ (.int .i64 1)).setCell ⟨rb, 1, none⟩ (.int .i64 y9)).setCell ⟨rb, 2, none⟩ (.int .i64 0))) := ((HB3.out.setCell (by show _ ≤ rb; omega) _).setCell (by show _ ≤ rb; omega) _).setCell (by show _ ≤ rb; omega) _
            generalize (((w4.setCell ⟨rb, 0, none⟩ (.int .i64 1)).setCell ⟨rb, 1, none⟩ (.int .i64 y9)).setCell ⟨rb, 2, none⟩ (.int .i64 0)) = w5 at *
            clear x0 x1 x2 y0 y1 y2
            have x0 := HX4.out.cell 0
            have x1 := HX4.out.cell 1
            simp only [List.getElem?_cons_zero, List.getElem?_cons_succ] at x0 x1
            refine (window_any _ _ _ _ _ HT4.out).mono ?_
            rintro e w6 ⟨rfl, nd, rfl⟩
            go_wp2
            go_roundw
            case rel => exact ⟨k + 1, _, _, _, by omega, by omega, by go_num, HO2.out, HT4.out, HX4.out, below_drewN HB4.out _⟩
            case measure => simp [intOf]; omega
          · have g0 : (n == 0) = false := by simpa using h0
            have g1 : (n == 1) = false := by simpa using h1
            have g2 : (n == 2) = false := by simpa using h2
            clear h0 h1 h2
            go_wp2
            go_roundw
            case rel => exact ⟨k + 1, _, _, _, by omega, by omega, by go_num, HO.out, HT.out, HX.out, HB.out⟩
            case measure => simp [intOf]; omega
    · have hex : len ≤ k ∨ (k < len ∧ 400 ≤ k) := by omega
      clear hlt
      have x0 := HX.out.cell 0
      have x1 := HX.out.cell 1
      simp only [List.getElem?_cons_zero, List.getElem?_cons_succ] at x0 x1
      rcases hex with hex | ⟨hex, hex2⟩
      all_goals
        go_wp2_with fail
        refine (window_any _ _ _ _ _ HT.out).mono ?_
        rintro e w6 ⟨rfl, nd, rfl⟩
        go_wp2
        go_ret
        exact ⟨by simp, below_drewN HB.out _⟩
end Go.Proofs.Ythnpbcnnpmohaaa.renoPlays
