/- The reference's Bucket.Take. -/
import Derived.Test.YthnpbcnnpmohaaaDoorBuck
import Derived.Test.YthnpbcnnpmohaaaDoorMLeast
namespace Go.Proofs.YthnpbcnnpmohaaaDoor
open Go.RowKit
set_option linter.unusedSimpArgs false
set_option linter.unusedVariables false

/-- What one tick does. -/
def drip (r d h : Int) : Nat → Int
  | 0 => h
  | k + 1 => min d (drip r d h k + r)
theorem drip_is {r d h : Int} (hr : 0 ≤ r) (hd : h ≤ d) (k : Nat) : drip r d h k = min d (h + r * (k : Int)) := by
  induction k with
  | zero => simp [drip]; omega
  | succ k ih =>
    have e : r * ((k + 1 : Nat) : Int) = r * (k : Int) + r := by rw [Int.natCast_add, Int.mul_add]; simp
    have hp : 0 ≤ r * (k : Int) := Int.mul_nonneg hr (by omega)
    simp only [drip, ih, e]
    omega
theorem drip_fill {r d h l at_ : Int} (hk : BkOk r d h l) (k : Nat) (e : l + (k : Int) = at_) : drip r d h k = fillB r d h l at_ := by
  rw [drip_is hk.r0 hk.h1]; unfold fillB
  rw [show at_ - l = (k : Int) from by omega]
theorem drip_bound {r d h l : Int} (hk : BkOk r d h l) (k : Nat) : 0 ≤ drip r d h k ∧ drip r d h k ≤ d := by
  have h1 := hk.r0; have h2 := hk.h0; have h3 := hk.h1; have h4 := hk.d0
  have hp : 0 ≤ r * (k : Int) := Int.mul_nonneg h1 (by omega)
  rw [drip_is h1 h3]; omega

def Xb (w : World) (b : Nat) (r d h l : Int) : Prop := Obj w b 43 [.int .i64 r, .int .i64 d, .int .i64 h, .int .i64 l]
theorem Xb.set2 {w : World} {b : Nat} {r d h l : Int} (ho : Xb w b r d h l) {u v : Int} (e : u = v) : Xb (w.setCell ⟨b, 2, none⟩ (.int .i64 u)) b r d v l := by
  subst e; exact Obj.set ho 2 _
theorem Xb.set3 {w : World} {b : Nat} {r d h l : Int} (ho : Xb w b r d h l) {u v : Int} (e : u = v) : Xb (w.setCell ⟨b, 3, none⟩ (.int .i64 u)) b r d h v := by
  subst e; exact Obj.set ho 3 _

theorem Xb.other {w : World} {b c j : Nat} {r d h l : Int} {u : Value} (ho : Xb w b r d h l) (hne : b ≠ c) : Xb (w.setCell ⟨c, j, none⟩ u) b r d h l := (Below.heap_setCell _ _ _ _ hne).trans ho
def lastOf (w : World) (b : Nat) : Int := match w.cell? ⟨b, 3, none⟩ with
  | some (.int _ n) => n
  | _ => 0
theorem lastOf_is {w : World} {b : Nat} {r d h l : Int} (ho : Xb w b r d h l) : lastOf w b = l := by
  have := Obj.cell ho 3
  simp only [List.getElem?_cons_zero, List.getElem?_cons_succ] at this
  unfold lastOf; rw [this]
theorem xb_own {w W : World} {r d h l : Int} (hW : W = (w.alloc (.cells #[.int .i64 r, .int .i64 d, .int .i64 h, .int .i64 l] 43 (0, 0))).alloc (.cells #[.int .i64 0, .int .i64 0, .int .i64 0, .int .i64 0] 43 (0, 0))) :
    Xb W w.heap.size r d h l ∧ Xb W (w.heap.size + 1) 0 0 0 0 ∧ Below w.heap.size w W := by
  subst hW
  have h1 := Obj.new w [.int .i64 r, .int .i64 d, .int .i64 h, .int .i64 l] 43
  refine ⟨h1.alloc _, ?_, ((Below.refl _ _).alloc (Nat.le_refl _) _).alloc (by simp) _⟩
  have h2 := Obj.new (w.alloc (.cells #[.int .i64 r, .int .i64 d, .int .i64 h, .int .i64 l] 43 (0, 0))) [.int .i64 0, .int .i64 0, .int .i64 0, .int .i64 0] 43
  simpa [Xb] using h2

set_option maxHeartbeats 4000000 in
theorem mbtake_yes (r d h l at_ n : Int) (w : World) (hk : BkOk r d h l) (h1 : 0 ≤ at_) (h2 : at_ ≤ 1000) (h3 : 0 ≤ n) (h4 : n ≤ 100) (hl : l ≤ at_) (hn : n ≤ fillB r d h l at_) :
    Calls Tryd.prog 14 #[.agg #[.int .i64 r, .int .i64 d, .int .i64 h, .int .i64 l], .int .i64 at_, .int .i64 n] w fun e w' => e = .returned (.tuple #[.agg #[.int .i64 r, .int .i64 d, .int .i64 (fillB r d h l at_ - n), .int .i64 at_], .bool true]) ∧ Below w.heap.size w w' := by
  have HK := Lib.hid hk
  obtain ⟨k1, k2, k3, k4, k5, k6, k7, k8⟩ := hk
  have HN := Lib.hid hn; clear hn
  go_enter Tryd.func14, Tryd.ntmps14
  go_wp2_with fail
  obtain ⟨W, hW⟩ : ∃ W, W = (w.alloc (.cells #[.int .i64 r, .int .i64 d, .int .i64 h, .int .i64 l] 43 (0, 0))).alloc (.cells #[.int .i64 0, .int .i64 0, .int .i64 0, .int .i64 0] 43 (0, 0)) := ⟨_, rfl⟩
  rw [← hW]
  obtain ⟨hX, hY, hB⟩ := xb_own hW
  clear hW
  obtain ⟨b, hb⟩ : ∃ b, b = w.heap.size := ⟨_, rfl⟩
  obtain ⟨c, hc⟩ : ∃ c, c = w.heap.size + 1 := ⟨_, rfl⟩
  rw [← hc] at hY ⊢
  rw [← hb] at hX ⊢
  have hbb : w.heap.size ≤ b := by omega
  have hcc : w.heap.size ≤ c := by omega
  have hne : b ≠ c := by omega
  clear hb hc
  have HX := Lib.hid hX; clear hX
  have HY := Lib.hid hY; clear hY
  have HB := Lib.hid hB; clear hB
  go_loopw [11] (fun _ wr => ∃ k : Nat, l + (k : Int) ≤ at_ ∧ Xb wr b r d (drip r d h k) (l + (k : Int)) ∧ Xb wr c 0 0 0 0 ∧ Below w.heap.size w wr) (fun _ wr => (at_ - lastOf wr b).toNat)
  case atStart => exact ⟨0, by omega, by simpa [drip] using HX.out, HY.out, HB.out⟩
  case round =>
    clear HX HY HB
    obtain ⟨k, hk, hX, hY, hB⟩ := hrel
    have hbd := drip_bound HK.out k
    have HS : Hid (drip r d h (k + 1) = min d (drip r d h k + r)) := rfl
    have HF := Lib.hid (fun (e : l + (k : Int) = at_) => drip_fill HK.out k e)
    generalize drip r d h k = q at *
    have HL := Lib.hid (lastOf_is hX)
    have x0 := hX.cell 0
    have x1 := hX.cell 1
    have x2 := hX.cell 2
    have x3 := hX.cell 3
    have f2 := hX.free 2
    have f3 := hX.free 3
    simp only [List.getElem?_cons_zero, List.getElem?_cons_succ] at x0 x1 x2 x3
    have HX := Lib.hid hX; clear hX
    have HY := Lib.hid hY; clear hY
    have HB := Lib.hid hB; clear hB
    obtain ⟨q0, q1⟩ := hbd
    by_cases hlt : l + (k : Int) < at_
    · go_wp2_with (go_at_call 19; refine (least_any _ _ _).mono ?_; rintro e w' ⟨rfl, rfl⟩)
      go_roundw
      case rel => exact ⟨k + 1, by omega, Xb.set2 (Xb.set3 HX.out (by omega)) (by first | exact HS.out.symm | (rw [HS.out])), Xb.other (Xb.other HY.out (Ne.symm hne)) (Ne.symm hne), (HB.out.setCell hbb _).setCell hbb _⟩
      case measure => rw [HL.out, lastOf_is (Xb.set2 (Xb.set3 HX.out rfl) rfl)]; omega
    · have HE := Lib.hid (HF.out (by omega))
      have hat : l + (k : Int) = at_ := by omega
      have HA := Lib.hid hat
      have hcmp : n ≤ q := by rw [HE.out]; exact HN.out
      have y0 := HY.out.cell 0
      have y1 := HY.out.cell 1
      have y2 := HY.out.cell 2
      have y3 := HY.out.cell 3
      have g0 := HY.out.free 0
      have g1 := HY.out.free 1
      have g2 := HY.out.free 2
      have g3 := HY.out.free 3
      simp only [List.getElem?_cons_zero, List.getElem?_cons_succ] at y0 y1 y2 y3
      go_wp2_with fail
      have hV : Xb (((((wr.setCell ⟨b, 2, none⟩ (.int .i64 (q - n))).setCell ⟨c, 0, none⟩ (.int .i64 r)).setCell ⟨c, 1, none⟩ (.int .i64 d)).setCell ⟨c, 2, none⟩ (.int .i64 (q - n))).setCell ⟨c, 3, none⟩ (.int .i64 at_)) c r d (q - n) at_ := Obj.set (Obj.set (Obj.set (Obj.set (Xb.other HY.out (Ne.symm hne)) 0 _) 1 _) 2 _) 3 _
      have hVB : Hid (Below w.heap.size w (((((wr.setCell ⟨b, 2, none⟩ (.int .i64 (q - n))).setCell ⟨c, 0, none⟩ (.int .i64 r)).setCell ⟨c, 1, none⟩ (.int .i64 d)).setCell ⟨c, 2, none⟩ (.int .i64 (q - n))).setCell ⟨c, 3, none⟩ (.int .i64 at_))) := ((((HB.out.setCell hbb _).setCell hcc _).setCell hcc _).setCell hcc _).setCell hcc _
      generalize (((((wr.setCell ⟨b, 2, none⟩ (.int .i64 (q - n))).setCell ⟨c, 0, none⟩ (.int .i64 r)).setCell ⟨c, 1, none⟩ (.int .i64 d)).setCell ⟨c, 2, none⟩ (.int .i64 (q - n))).setCell ⟨c, 3, none⟩ (.int .i64 at_)) = V at *
      have v0 := hV.cell 0
      have v1 := hV.cell 1
      have v2 := hV.cell 2
      have v3 := hV.cell 3
      simp only [List.getElem?_cons_zero, List.getElem?_cons_succ] at v0 v1 v2 v3
      clear hV
      refine bodyPost_ret (by simp [results, Tryd.results14, go_sem, v0, v1, v2, v3, Result.andThen]; try rfl) rfl ?_
      exact ⟨by rw [← HE.out], hVB.out⟩

set_option maxHeartbeats 4000000 in
theorem mbtake_short (r d h l at_ n : Int) (w : World) (hk : BkOk r d h l) (h1 : 0 ≤ at_) (h2 : at_ ≤ 1000) (h3 : 0 ≤ n) (h4 : n ≤ 100) (hl : l ≤ at_) (hn : fillB r d h l at_ < n) :
    Calls Tryd.prog 14 #[.agg #[.int .i64 r, .int .i64 d, .int .i64 h, .int .i64 l], .int .i64 at_, .int .i64 n] w fun e w' => e = .returned (.tuple #[.agg #[.int .i64 r, .int .i64 d, .int .i64 (fillB r d h l at_), .int .i64 at_], .bool false]) ∧ Below w.heap.size w w' := by
  have HK := Lib.hid hk
  obtain ⟨k1, k2, k3, k4, k5, k6, k7, k8⟩ := hk
  have HN := Lib.hid hn; clear hn
  go_enter Tryd.func14, Tryd.ntmps14
  go_wp2_with fail
  obtain ⟨W, hW⟩ : ∃ W, W = (w.alloc (.cells #[.int .i64 r, .int .i64 d, .int .i64 h, .int .i64 l] 43 (0, 0))).alloc (.cells #[.int .i64 0, .int .i64 0, .int .i64 0, .int .i64 0] 43 (0, 0)) := ⟨_, rfl⟩
  rw [← hW]
  obtain ⟨hX, hY, hB⟩ := xb_own hW
  clear hW
  obtain ⟨b, hb⟩ : ∃ b, b = w.heap.size := ⟨_, rfl⟩
  obtain ⟨c, hc⟩ : ∃ c, c = w.heap.size + 1 := ⟨_, rfl⟩
  rw [← hc] at hY ⊢
  rw [← hb] at hX ⊢
  have hbb : w.heap.size ≤ b := by omega
  have hcc : w.heap.size ≤ c := by omega
  have hne : b ≠ c := by omega
  clear hb hc
  have HX := Lib.hid hX; clear hX
  have HY := Lib.hid hY; clear hY
  have HB := Lib.hid hB; clear hB
  go_loopw [11] (fun _ wr => ∃ k : Nat, l + (k : Int) ≤ at_ ∧ Xb wr b r d (drip r d h k) (l + (k : Int)) ∧ Xb wr c 0 0 0 0 ∧ Below w.heap.size w wr) (fun _ wr => (at_ - lastOf wr b).toNat)
  case atStart => exact ⟨0, by omega, by simpa [drip] using HX.out, HY.out, HB.out⟩
  case round =>
    clear HX HY HB
    obtain ⟨k, hk, hX, hY, hB⟩ := hrel
    have hbd := drip_bound HK.out k
    have HS : Hid (drip r d h (k + 1) = min d (drip r d h k + r)) := rfl
    have HF := Lib.hid (fun (e : l + (k : Int) = at_) => drip_fill HK.out k e)
    generalize drip r d h k = q at *
    have HL := Lib.hid (lastOf_is hX)
    have x0 := hX.cell 0
    have x1 := hX.cell 1
    have x2 := hX.cell 2
    have x3 := hX.cell 3
    have f2 := hX.free 2
    have f3 := hX.free 3
    simp only [List.getElem?_cons_zero, List.getElem?_cons_succ] at x0 x1 x2 x3
    have HX := Lib.hid hX; clear hX
    have HY := Lib.hid hY; clear hY
    have HB := Lib.hid hB; clear hB
    obtain ⟨q0, q1⟩ := hbd
    by_cases hlt : l + (k : Int) < at_
    · go_wp2_with (go_at_call 19; refine (least_any _ _ _).mono ?_; rintro e w' ⟨rfl, rfl⟩)
      go_roundw
      case rel => exact ⟨k + 1, by omega, Xb.set2 (Xb.set3 HX.out (by omega)) (by first | exact HS.out.symm | (rw [HS.out])), Xb.other (Xb.other HY.out (Ne.symm hne)) (Ne.symm hne), (HB.out.setCell hbb _).setCell hbb _⟩
      case measure => rw [HL.out, lastOf_is (Xb.set2 (Xb.set3 HX.out rfl) rfl)]; omega
    · have HE := Lib.hid (HF.out (by omega))
      have hat : l + (k : Int) = at_ := by omega
      have HA := Lib.hid hat
      have hcmp : q < n := by rw [HE.out]; exact HN.out
      have y0 := HY.out.cell 0
      have y1 := HY.out.cell 1
      have y2 := HY.out.cell 2
      have y3 := HY.out.cell 3
      have g0 := HY.out.free 0
      have g1 := HY.out.free 1
      have g2 := HY.out.free 2
      have g3 := HY.out.free 3
      simp only [List.getElem?_cons_zero, List.getElem?_cons_succ] at y0 y1 y2 y3
      go_wp2_with fail
      have hV : Xb ((((wr.setCell ⟨c, 0, none⟩ (.int .i64 r)).setCell ⟨c, 1, none⟩ (.int .i64 d)).setCell ⟨c, 2, none⟩ (.int .i64 (q))).setCell ⟨c, 3, none⟩ (.int .i64 at_)) c r d (q) at_ := Obj.set (Obj.set (Obj.set (Obj.set (HY.out) 0 _) 1 _) 2 _) 3 _
      have hVB : Hid (Below w.heap.size w ((((wr.setCell ⟨c, 0, none⟩ (.int .i64 r)).setCell ⟨c, 1, none⟩ (.int .i64 d)).setCell ⟨c, 2, none⟩ (.int .i64 (q))).setCell ⟨c, 3, none⟩ (.int .i64 at_))) := ((((HB.out).setCell hcc _).setCell hcc _).setCell hcc _).setCell hcc _
      generalize ((((wr.setCell ⟨c, 0, none⟩ (.int .i64 r)).setCell ⟨c, 1, none⟩ (.int .i64 d)).setCell ⟨c, 2, none⟩ (.int .i64 (q))).setCell ⟨c, 3, none⟩ (.int .i64 at_)) = V at *
      have v0 := hV.cell 0
      have v1 := hV.cell 1
      have v2 := hV.cell 2
      have v3 := hV.cell 3
      simp only [List.getElem?_cons_zero, List.getElem?_cons_succ] at v0 v1 v2 v3
      clear hV
      refine bodyPost_ret (by simp [results, Tryd.results14, go_sem, v0, v1, v2, v3, Result.andThen]; try rfl) rfl ?_
      exact ⟨by rw [← HE.out], hVB.out⟩
end Go.Proofs.YthnpbcnnpmohaaaDoor
