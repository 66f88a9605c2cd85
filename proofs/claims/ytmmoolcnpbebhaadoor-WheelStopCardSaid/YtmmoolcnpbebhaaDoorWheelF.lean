/- The statements' fact of the wheel. -/
import Derived.Test.YtmmoolcnpbebhaaDoorWheelD
import Derived.Test.YtmmoolcnpbebhaaDoorInts
namespace Go.Proofs.YtmmoolcnpbebhaaDoor
open Go.RowKit Go.Maps
set_option linter.unusedSimpArgs false
set_option linter.unusedVariables false
def dF : Nat → Option Nat := Wl.upd (fun _ => none) 3 (some 9)
theorem dF_is (y a : Nat) : dF y = some a ↔ y = 3 ∧ a = 9 := by
  unfold dF Wl.upd
  by_cases h : y = 3
  · rw [if_pos h]; simp [h]; omega
  · rw [if_neg h]; simp [h]
set_option maxHeartbeats 4000000 in
set_option maxRecDepth 100000 in
theorem wheelFact_any (w : World) : Calls Tryd.prog 5 #[] w fun e w' => e = .returned (.bool true) ∧ Below w.heap.size w w' := by
  go_enter Tryd.func5, Tryd.ntmps5
  go_wp2_with fail
  refine (wdnew w).mono ?_
  rintro e w1 ⟨rfl, h1⟩
  have H1 := Lib.hid h1; clear h1
  go_wp2_with fail
  refine (wdstart_yes H1.out 3 9 (by omega) (by omega) (by omega) rfl (by omega) (by omega)).mono ?_
  rintro e w2 ⟨rfl, h2⟩
  have H2 : Hid (WD w (w.heap.size + 1) w.heap.size (w.heap.size + 2) w2 dF 0 1 (.slice none 0 0) []) := h2
  clear h2
  obtain ⟨wb, hwb⟩ : ∃ wb, wb = w.heap.size + 1 := ⟨_, rfl⟩
  rw [← hwb] at H2 ⊢
  clear hwb H1
  go_wp2_with fail
  go_loopw [3] (fun v3 wx => ∃ (k : Nat) (x : Value) (xl : List Nat), k ≤ 8 ∧ v3 = .int .i64 (k : Int) ∧ WD w wb w.heap.size (w.heap.size + 2) wx dF k 1 x xl) (fun v3 _ => 8 - (intOf v3).toNat)
  case atStart => exact ⟨0, _, _, by omega, rfl, H2.out⟩
  case round =>
    clear H2
    obtain ⟨k, x, xl, hk, rfl, hS⟩ := hrel
    have S := Lib.hid hS; clear hS
    by_cases hlt : k < 8
    · go_wp2_with fail
      refine (wdtick S.out (by omega)).mono ?_
      rintro e w3 ⟨a, c, rs, rfl, h3, hm, -⟩
      have hrs : rs = [] := List.eq_nil_iff_forall_not_mem.2 fun y hy => by
        have := (dF_is y _).1 ((hm y).1 hy)
        omega
      subst hrs
      have S3 := Lib.hid h3
      clear h3 hm S
      go_wp2_with fail
      go_roundw
      case rel => exact ⟨k + 1, _, _, by omega, by first | go_num | rfl | simp, S3.out⟩
      case measure => simp [intOf]; omega
    · obtain rfl : k = 8 := by omega
      have hd8 : Wl.after dF 8 3 = some 9 := Wl.after_some.2 ⟨(dF_is _ _).2 ⟨rfl, rfl⟩, by omega⟩
      have HD := Lib.hid hd8
      clear hd8
      go_wp2_with fail
      refine (wdleft_yes S.out 3 9 HD.out (by omega)).mono ?_
      rintro e w3 ⟨rfl, rfl⟩
      go_wp2_with fail
      refine (wdtick S.out (by omega)).mono ?_
      rintro e w3 ⟨a, c, rs, rfl, h3, hm, hnd, -⟩
      have hrs : rs = [3] := Wl.only_one hnd fun y => by
        rw [hm, dF_is]; omega
      subst hrs
      have S3 := Lib.hid h3
      have I3 : Hid (Ints w3 w3.heap.size a 1 [3]) := nats_ints h3.row (by simp) (by simp)
      clear h3 hm S hnd
      have I4 : Hid (Ints (w3.alloc (.cells #[.int .i64 3] 3 (0, 0))) (w3.alloc (.cells #[.int .i64 3] 3 (0, 0))).heap.size (some ⟨w3.heap.size, 0, none⟩) 1 [3]) := intsLit (zs := [3]) (Obj.new w3 [.int .i64 3] 3) (by decide) (fits_of (M := 3) (by decide) (by simp))
      go_wp2_with fail
      refine (same_yes a _ 1 c 1 [3] _ _ _ (I3.out.alloc _) I4.out).mono ?_
      rintro e w4 ⟨rfl, n, rfl⟩
      go_wp2_with fail
      go_ret
      exact ⟨rfl, below_drewN (S3.out.bl.alloc (S3.out.bl.size) _) n⟩
end Go.Proofs.YtmmoolcnpbebhaaDoor
