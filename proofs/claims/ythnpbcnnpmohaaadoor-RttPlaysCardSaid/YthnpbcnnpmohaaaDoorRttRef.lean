/- The reference's Rtt.Take. -/
import Derived.Test.YthnpbcnnpmohaaaDoorRttC
import Derived.Test.YthnpbcnnpmohaaaDoorMMost
import Derived.Test.YthnpbcnnpmohaaaDoorMLeast
import Derived.StillTail
import Derived.StillTailTactics
namespace Go.Proofs.YthnpbcnnpmohaaaDoor
open Go.RowKit
set_option linter.unusedSimpArgs false
set_option linter.unusedVariables false

/-- The last region: what is in the block, and the result's. -/
theorem xr_own {w W : World} {x y t : Int} (hW : W = (w.alloc (.cells #[.int .i64 x, .int .i64 y, .int .i64 t] 31 (0, 0))).alloc (.cells #[.int .i64 0, .int .i64 0, .int .i64 0] 31 (0, 0))) :
    Obj W w.heap.size 31 [.int .i64 x, .int .i64 y, .int .i64 t] ∧ Obj W (w.heap.size + 1) 31 [.int .i64 0, .int .i64 0, .int .i64 0] ∧ Below w.heap.size w W := by
  subst hW
  have h1 := Obj.new w [.int .i64 x, .int .i64 y, .int .i64 t] 31
  refine ⟨h1.alloc _, ?_, ((Below.refl _ _).alloc (Nat.le_refl _) _).alloc (by simp) _⟩
  have h2 := Obj.new (w.alloc (.cells #[.int .i64 x, .int .i64 y, .int .i64 t] 31 (0, 0))) [.int .i64 0, .int .i64 0, .int .i64 0] 31
  simpa using h2
theorem xr_end {w W : World} {b c : Nat} {x y m : Int} (hY : Obj W c 31 [.int .i64 0, .int .i64 0, .int .i64 0]) (hne : c ≠ b) (hB : Below w.heap.size w W) (hb : w.heap.size ≤ b) (hc : w.heap.size ≤ c) :
    Obj ((((W.setCell ⟨b, 2, none⟩ (.int .i64 m)).setCell ⟨c, 0, none⟩ (.int .i64 x)).setCell ⟨c, 1, none⟩ (.int .i64 y)).setCell ⟨c, 2, none⟩ (.int .i64 m)).drew c 31 [.int .i64 x, .int .i64 y, .int .i64 m] ∧
    Below w.heap.size w ((((W.setCell ⟨b, 2, none⟩ (.int .i64 m)).setCell ⟨c, 0, none⟩ (.int .i64 x)).setCell ⟨c, 1, none⟩ (.int .i64 y)).setCell ⟨c, 2, none⟩ (.int .i64 m)).drew := by
  have h0 : Obj (W.setCell ⟨b, 2, none⟩ (.int .i64 m)) c 31 [.int .i64 0, .int .i64 0, .int .i64 0] := (Below.heap_setCell _ _ _ _ hne).trans hY
  exact ⟨((h0.set 0 (.int .i64 x)).set 1 (.int .i64 y)).set 2 (.int .i64 m), below_drewN ((((hB.setCell hb _).setCell hc _).setCell hc _).setCell hc _) 1⟩
set_option maxHeartbeats 2000000 in
theorem mtake_first (s p t n : Int) (w : World)  (h1 : 0 ≤ n) (h2 : n ≤ 100000) : Calls Tryd.prog 9 #[.agg #[.int .i64 (-1), .int .i64 p, .int .i64 t], .int .i64 n] w fun e w' => e = .returned (.agg #[.int .i64 (n), .int .i64 (n / 2), .int .i64 (min (n + max (4 * (n / 2)) 1) 100000)]) ∧ Below w.heap.size w w' := by
  go_enter Tryd.func9, Tryd.ntmps9
  go_wp2_with fail
  obtain ⟨W, hW⟩ : ∃ W, W = (w.alloc (.cells #[.int .i64 (n), .int .i64 (n / 2), .int .i64 t] 31 (0, 0))).alloc (.cells #[.int .i64 0, .int .i64 0, .int .i64 0] 31 (0, 0)) := ⟨_, rfl⟩
  rw [← hW]
  obtain ⟨hX, hY, hB⟩ := xr_own hW
  clear hW
  have HB := Lib.hid hB; clear hB
  obtain ⟨b, hb⟩ : ∃ b, b = w.heap.size := ⟨_, rfl⟩
  obtain ⟨c, hc⟩ : ∃ c, c = w.heap.size + 1 := ⟨_, rfl⟩
  rw [← hc] at hY ⊢
  rw [← hb] at hX ⊢
  have hbb : w.heap.size ≤ b := by omega
  have hcc : w.heap.size ≤ c := by omega
  have hne : c ≠ b := by omega
  clear hb hc
  have x0 := hX.cell 0
  have x1 := hX.cell 1
  have x2 := hX.cell 2
  have f2 := hX.free 2
  have y0 := hY.free 0
  have y1 := hY.free 1
  have y2 := hY.free 2
  have z0 := hY.cell 0
  have z1 := hY.cell 1
  have z2 := hY.cell 2
  simp only [List.getElem?_cons_zero, List.getElem?_cons_succ] at x0 x1 x2 z0 z1 z2
  have HY := Lib.hid hY
  clear hX hY
  refine wp_region_still_tail 9 (by kernel_rfl) (by kernel_rfl) ?_
  simp only [List.take_succ_cons, List.take_zero, List.drop_succ_cons, List.drop_zero]
  repeat still_step
  still_call ((most_any _ _ _).mono fun _ _ h => ⟨h.1, h.2.symm⟩)
  repeat still_step
  still_call ((least_any _ _ _).mono fun _ _ h => ⟨h.1, h.2.symm⟩)
  repeat still_step
  refine wpStill_nil ?_
  change wpList _ _ _ _ _ W.drew
  go_wp2
  obtain ⟨hV, hVB⟩ := xr_end (x := n) (y := n / 2) (m := min (n + max (4 * (n / 2)) 1) 100000) HY.out hne HB.out hbb hcc
  generalize ((((W.setCell ⟨b, 2, none⟩ (.int .i64 (min (n + max (4 * (n / 2)) 1) 100000))).setCell ⟨c, 0, none⟩ (.int .i64 (n))).setCell ⟨c, 1, none⟩ (.int .i64 (n / 2))).setCell ⟨c, 2, none⟩ (.int .i64 (min (n + max (4 * (n / 2)) 1) 100000))).drew = V at *
  have v0 := hV.cell 0
  have v1 := hV.cell 1
  have v2 := hV.cell 2
  simp only [List.getElem?_cons_zero, List.getElem?_cons_succ] at v0 v1 v2
  clear hV
  have HVB := Lib.hid hVB; clear hVB
  refine bodyPost_ret (by simp [results, Tryd.results9, go_sem, v0, v1, v2, Result.andThen]; try rfl) rfl ?_
  exact ⟨rfl, HVB.out⟩
set_option maxHeartbeats 2000000 in
theorem mtake_up (s p t n : Int) (w : World) (hs : 0 ≤ s) (hs2 : s ≤ 100000) (hp : 0 ≤ p) (hp2 : p ≤ 100000) (hf : s ≤ n) (h1 : 0 ≤ n) (h2 : n ≤ 100000) : Calls Tryd.prog 9 #[.agg #[.int .i64 s, .int .i64 p, .int .i64 t], .int .i64 n] w fun e w' => e = .returned (.agg #[.int .i64 ((7 * s + n) / 8), .int .i64 ((3 * p + (n - s)) / 4), .int .i64 (min ((7 * s + n) / 8 + max (4 * ((3 * p + (n - s)) / 4)) 1) 100000)]) ∧ Below w.heap.size w w' := by
  go_enter Tryd.func9, Tryd.ntmps9
  go_wp2_with fail
  obtain ⟨W, hW⟩ : ∃ W, W = (w.alloc (.cells #[.int .i64 ((7 * s + n) / 8), .int .i64 ((3 * p + (n - s)) / 4), .int .i64 t] 31 (0, 0))).alloc (.cells #[.int .i64 0, .int .i64 0, .int .i64 0] 31 (0, 0)) := ⟨_, rfl⟩
  rw [← hW]
  obtain ⟨hX, hY, hB⟩ := xr_own hW
  clear hW
  have HB := Lib.hid hB; clear hB
  obtain ⟨b, hb⟩ : ∃ b, b = w.heap.size := ⟨_, rfl⟩
  obtain ⟨c, hc⟩ : ∃ c, c = w.heap.size + 1 := ⟨_, rfl⟩
  rw [← hc] at hY ⊢
  rw [← hb] at hX ⊢
  have hbb : w.heap.size ≤ b := by omega
  have hcc : w.heap.size ≤ c := by omega
  have hne : c ≠ b := by omega
  clear hb hc
  have x0 := hX.cell 0
  have x1 := hX.cell 1
  have x2 := hX.cell 2
  have f2 := hX.free 2
  have y0 := hY.free 0
  have y1 := hY.free 1
  have y2 := hY.free 2
  have z0 := hY.cell 0
  have z1 := hY.cell 1
  have z2 := hY.cell 2
  simp only [List.getElem?_cons_zero, List.getElem?_cons_succ] at x0 x1 x2 z0 z1 z2
  have HY := Lib.hid hY
  clear hX hY
  refine wp_region_still_tail 9 (by kernel_rfl) (by kernel_rfl) ?_
  simp only [List.take_succ_cons, List.take_zero, List.drop_succ_cons, List.drop_zero]
  repeat still_step
  still_call ((most_any _ _ _).mono fun _ _ h => ⟨h.1, h.2.symm⟩)
  repeat still_step
  still_call ((least_any _ _ _).mono fun _ _ h => ⟨h.1, h.2.symm⟩)
  repeat still_step
  refine wpStill_nil ?_
  change wpList _ _ _ _ _ W.drew
  go_wp2
  obtain ⟨hV, hVB⟩ := xr_end (x := (7 * s + n) / 8) (y := (3 * p + (n - s)) / 4) (m := min ((7 * s + n) / 8 + max (4 * ((3 * p + (n - s)) / 4)) 1) 100000) HY.out hne HB.out hbb hcc
  generalize ((((W.setCell ⟨b, 2, none⟩ (.int .i64 (min ((7 * s + n) / 8 + max (4 * ((3 * p + (n - s)) / 4)) 1) 100000))).setCell ⟨c, 0, none⟩ (.int .i64 ((7 * s + n) / 8))).setCell ⟨c, 1, none⟩ (.int .i64 ((3 * p + (n - s)) / 4))).setCell ⟨c, 2, none⟩ (.int .i64 (min ((7 * s + n) / 8 + max (4 * ((3 * p + (n - s)) / 4)) 1) 100000))).drew = V at *
  have v0 := hV.cell 0
  have v1 := hV.cell 1
  have v2 := hV.cell 2
  simp only [List.getElem?_cons_zero, List.getElem?_cons_succ] at v0 v1 v2
  clear hV
  have HVB := Lib.hid hVB; clear hVB
  refine bodyPost_ret (by simp [results, Tryd.results9, go_sem, v0, v1, v2, Result.andThen]; try rfl) rfl ?_
  exact ⟨rfl, HVB.out⟩
set_option maxHeartbeats 2000000 in
theorem mtake_down (s p t n : Int) (w : World) (hs : 0 ≤ s) (hs2 : s ≤ 100000) (hp : 0 ≤ p) (hp2 : p ≤ 100000) (hf : n < s) (h1 : 0 ≤ n) (h2 : n ≤ 100000) : Calls Tryd.prog 9 #[.agg #[.int .i64 s, .int .i64 p, .int .i64 t], .int .i64 n] w fun e w' => e = .returned (.agg #[.int .i64 ((7 * s + n) / 8), .int .i64 ((3 * p + -(n - s)) / 4), .int .i64 (min ((7 * s + n) / 8 + max (4 * ((3 * p + -(n - s)) / 4)) 1) 100000)]) ∧ Below w.heap.size w w' := by
  go_enter Tryd.func9, Tryd.ntmps9
  go_wp2_with fail
  obtain ⟨W, hW⟩ : ∃ W, W = (w.alloc (.cells #[.int .i64 ((7 * s + n) / 8), .int .i64 ((3 * p + -(n - s)) / 4), .int .i64 t] 31 (0, 0))).alloc (.cells #[.int .i64 0, .int .i64 0, .int .i64 0] 31 (0, 0)) := ⟨_, rfl⟩
  rw [← hW]
  obtain ⟨hX, hY, hB⟩ := xr_own hW
  clear hW
  have HB := Lib.hid hB; clear hB
  obtain ⟨b, hb⟩ : ∃ b, b = w.heap.size := ⟨_, rfl⟩
  obtain ⟨c, hc⟩ : ∃ c, c = w.heap.size + 1 := ⟨_, rfl⟩
  rw [← hc] at hY ⊢
  rw [← hb] at hX ⊢
  have hbb : w.heap.size ≤ b := by omega
  have hcc : w.heap.size ≤ c := by omega
  have hne : c ≠ b := by omega
  clear hb hc
  have x0 := hX.cell 0
  have x1 := hX.cell 1
  have x2 := hX.cell 2
  have f2 := hX.free 2
  have y0 := hY.free 0
  have y1 := hY.free 1
  have y2 := hY.free 2
  have z0 := hY.cell 0
  have z1 := hY.cell 1
  have z2 := hY.cell 2
  simp only [List.getElem?_cons_zero, List.getElem?_cons_succ] at x0 x1 x2 z0 z1 z2
  have HY := Lib.hid hY
  clear hX hY
  refine wp_region_still_tail 9 (by kernel_rfl) (by kernel_rfl) ?_
  simp only [List.take_succ_cons, List.take_zero, List.drop_succ_cons, List.drop_zero]
  repeat still_step
  still_call ((most_any _ _ _).mono fun _ _ h => ⟨h.1, h.2.symm⟩)
  repeat still_step
  still_call ((least_any _ _ _).mono fun _ _ h => ⟨h.1, h.2.symm⟩)
  repeat still_step
  refine wpStill_nil ?_
  change wpList _ _ _ _ _ W.drew
  go_wp2
  obtain ⟨hV, hVB⟩ := xr_end (x := (7 * s + n) / 8) (y := (3 * p + -(n - s)) / 4) (m := min ((7 * s + n) / 8 + max (4 * ((3 * p + -(n - s)) / 4)) 1) 100000) HY.out hne HB.out hbb hcc
  generalize ((((W.setCell ⟨b, 2, none⟩ (.int .i64 (min ((7 * s + n) / 8 + max (4 * ((3 * p + -(n - s)) / 4)) 1) 100000))).setCell ⟨c, 0, none⟩ (.int .i64 ((7 * s + n) / 8))).setCell ⟨c, 1, none⟩ (.int .i64 ((3 * p + -(n - s)) / 4))).setCell ⟨c, 2, none⟩ (.int .i64 (min ((7 * s + n) / 8 + max (4 * ((3 * p + -(n - s)) / 4)) 1) 100000))).drew = V at *
  have v0 := hV.cell 0
  have v1 := hV.cell 1
  have v2 := hV.cell 2
  simp only [List.getElem?_cons_zero, List.getElem?_cons_succ] at v0 v1 v2
  clear hV
  have HVB := Lib.hid hVB; clear hVB
  refine bodyPost_ret (by simp [results, Tryd.results9, go_sem, v0, v1, v2, Result.andThen]; try rfl) rfl ?_
  exact ⟨rfl, HVB.out⟩

theorem mtake_yes (s p t n : Int) (w : World) (hk : TimOk s p t) (h1 : 0 ≤ n) (h2 : n ≤ 100000) : Calls Tryd.prog 9 #[.agg #[.int .i64 s, .int .i64 p, .int .i64 t], .int .i64 n] w fun e w' => e = .returned (.agg #[.int .i64 (rS s n), .int .i64 (rP s p n), .int .i64 (rT s p n)]) ∧ Below w.heap.size w w' := by
  unfold rT rS rP
  obtain ⟨⟨rfl, rfl⟩ | ⟨hs, hs2, hp, hp2⟩, ht, ht2⟩ := hk
  · refine (mtake_first 0 0 t n w h1 h2).mono ?_
    rintro e w' ⟨rfl, hB⟩
    exact ⟨by simp [Int.max_comm], hB⟩
  · simp only [if_neg (Int.not_lt.2 hs)]
    by_cases hf : s ≤ n
    · refine (mtake_up s p t n w hs hs2 hp hp2 hf h1 h2).mono ?_
      rintro e w' ⟨rfl, hB⟩
      rw [show max (s - n) (n - s) = n - s from by omega]
      exact ⟨by rw [Int.max_comm], hB⟩
    · refine (mtake_down s p t n w hs hs2 hp hp2 (by omega) h1 h2).mono ?_
      rintro e w' ⟨rfl, hB⟩
      rw [show max (s - n) (n - s) = -(n - s) from by omega]
      exact ⟨by rw [Int.max_comm], hB⟩
end Go.Proofs.YthnpbcnnpmohaaaDoor
