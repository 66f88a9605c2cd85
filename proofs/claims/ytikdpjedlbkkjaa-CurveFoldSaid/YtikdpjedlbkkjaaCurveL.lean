/- The closed fact on curves; what the laws on curves share. -/
import Derived.Test.YtikdpjedlbkkjaaCurveD
namespace Go.Proofs.Ytikdpjedlbkkjaa
open Go.RowKit
set_option linter.unusedSimpArgs false
set_option linter.unusedVariables false

theorem fold_some (a b : Option Addr) (la ca lb cb : Nat) (fs gs : List Int) (w : World) (hF : Ints w w.heap.size a la fs) (hG : Ints w w.heap.size b lb gs) :
    Calls Try.prog 9 #[.slice a la ca, .slice b lb cb] w fun e w' => ∃ v ev, e = .returned (.tuple #[v, ev]) ∧ Below w.heap.size w w' := by
  by_cases h0 : bothE fs gs = 0
  · have hl := (both_zero h0).2.2
    rw [hF.size, hG.size] at hl
    subst hl
    exact (fold_yes a b la ca cb fs gs w hF hG h0).mono fun e w' ⟨g, c, h1, _, h2⟩ => ⟨_, _, h1, h2⟩
  · exact (fold_no a b la ca lb cb fs gs _ _ w hF hG h0).mono fun e w' ⟨h1, h2⟩ => ⟨_, _, h1, h2.below⟩
theorem delay_some (a b : Option Addr) (la ca lb cb : Nat) (fs gs : List Int) (w : World) (hF : Ints w w.heap.size a la fs) (hG : Ints w w.heap.size b lb gs) (hcap : lb ≤ cb) :
    Calls Try.prog 15 #[.slice a la ca, .slice b lb cb] w fun e w' => ∃ v ev, e = .returned (.tuple #[v, ev]) ∧ Below w.heap.size w w' := by
  by_cases h0 : bothE fs gs = 0
  · have hl := (both_zero h0).2.2
    rw [hF.size, hG.size] at hl
    subst hl
    exact (delay_yes a b la ca cb fs gs w hF hG hcap h0).mono fun e w' ⟨hB, h⟩ => by
      rcases h with ⟨_, h⟩ | ⟨m, _, h⟩
      · exact ⟨_, _, h, hB⟩
      · exact ⟨_, _, h, hB⟩
  · exact (delay_no a b la ca lb cb fs gs w hF hG h0).mono fun e w' ⟨h1, h2⟩ => ⟨_, _, h1, h2⟩

theorem curve_lit {zs : List Int} (h : (decide (1 ≤ zs.length ∧ zs.length ≤ 16) && (List.range zs.length).all (fun k => decide (0 ≤ zs.getD k 0 ∧ zs.getD k 0 ≤ 1000)) && (List.range (zs.length - 1)).all (fun k => decide (zs.getD k 0 ≤ zs.getD (k + 1) 0))) = true) : Curve zs := by
  simp only [Bool.and_eq_true, List.all_eq_true, List.mem_range, decide_eq_true_eq] at h
  exact ⟨h.1.1.1, h.1.1.2, fun k hk => h.1.2 k hk, fun k hk => h.2 k (by omega)⟩
theorem lit_fits {zs : List Int} (h : Curve zs) (k : Nat) : -9223372036854775808 ≤ zs.getD k 0 ∧ zs.getD k 0 ≤ 9223372036854775807 := by
  rcases Nat.lt_or_ge k zs.length with h1 | h1
  · have := h.fits k h1; omega
  · rw [List.getD_eq_getElem?_getD, List.getElem?_eq_none h1]; simp

set_option maxHeartbeats 4000000 in
theorem cfact_any (w : World) : Calls Try.prog 8 #[] w fun e w' => e = .returned (.bool true) ∧ Below w.heap.size w w' := by
  have k1 : Curve [1, 2, 9] := curve_lit (by decide)
  have k2 : Curve [0, 3, 4] := curve_lit (by decide)
  have k3 : Curve [4, 4] := curve_lit (by decide)
  have k4 : Curve [1, 4] := curve_lit (by decide)
  have k5 : Curve [1, 2, 5] := curve_lit (by decide)
  have K1 := Lib.hid k1; clear k1
  have K2 := Lib.hid k2; clear k2
  have K3 := Lib.hid k3; clear k3
  have K4 := Lib.hid k4; clear k4
  have K5 := Lib.hid k5; clear k5
  go_enter Try.func8, Try.ntmps8
  go_wp2_with fail
  have A1 := Lib.hid (intsLit (zs := [1, 2, 9]) (Obj.alloc (Obj.new w [.int .i64 1, .int .i64 2, .int .i64 9] 3) (.cells #[.int .i64 0, .int .i64 3, .int .i64 4] 3 (0, 0))) (by decide) (lit_fits K1.out))
  have A2 := Lib.hid (intsLit (zs := [0, 3, 4]) (Obj.new (w.alloc (.cells #[.int .i64 1, .int .i64 2, .int .i64 9] 3 (0, 0))) [.int .i64 0, .int .i64 3, .int .i64 4] 3) (by decide) (lit_fits K2.out))
  refine (fold_yes _ _ 3 3 3 [1, 2, 9] [0, 3, 4] _ A1.out (by simpa using A2.out) (both_mk K1.out K2.out rfl)).mono ?_
  clear A1 A2
  rintro e w1 ⟨ga, gc, rfl, hgi, hB⟩
  have e1 : foldL [1, 2, 9] [0, 3, 4] 3 = [1, 2, 5] := by decide
  rw [e1] at hgi
  clear e1
  have hB1 : Hid (Below w.heap.size w w1) := (((Below.refl _ _).alloc (Nat.le_refl _) _).alloc (by simp) _).trans (hB.mono (by simp; omega))
  have G1 := Lib.hid hgi
  clear hB hgi
  go_wp2_with fail
  have A1 := Lib.hid (intsLit (zs := [4, 4]) (Obj.alloc (Obj.new w1 [.int .i64 4, .int .i64 4] 3) (.cells #[.int .i64 1, .int .i64 4] 3 (0, 0))) (by decide) (lit_fits K3.out))
  have A2 := Lib.hid (intsLit (zs := [1, 4]) (Obj.new (w1.alloc (.cells #[.int .i64 4, .int .i64 4] 3 (0, 0))) [.int .i64 1, .int .i64 4] 3) (by decide) (lit_fits K4.out))
  refine (backlog_yes _ _ 2 2 2 [4, 4] [1, 4] _ _ _ A1.out (by simpa using A2.out) (both_mk K3.out K4.out rfl)).mono ?_
  clear A1 A2
  rintro e w2 ⟨he, hd⟩
  have e1 : Cv.bkN (gD [4, 4]) (gD [1, 4]) 2 = 3 := by decide
  rw [e1] at he
  clear e1
  subst he
  have hB2 : Hid (Below w1.heap.size w1 w2) := (((Below.refl _ _).alloc (Nat.le_refl _) _).alloc (by simp) _).trans (Drawn.below hd)
  clear hd
  have G2 := Lib.hid (G1.out.later hB2.out)
  have BB2 : Hid (Below w.heap.size w w2) := hB1.out.trans (hB2.out.mono hB1.out.size)
  clear G1 hB1 hB2
  go_wp2_with fail
  have A1 := Lib.hid (intsLit (zs := [4, 4]) (Obj.alloc (Obj.new w2 [.int .i64 4, .int .i64 4] 3) (.cells #[.int .i64 1, .int .i64 4] 3 (0, 0))) (by decide) (lit_fits K3.out))
  have A2 := Lib.hid (intsLit (zs := [1, 4]) (Obj.new (w2.alloc (.cells #[.int .i64 4, .int .i64 4] 3 (0, 0))) [.int .i64 1, .int .i64 4] 3) (by decide) (lit_fits K4.out))
  refine (delay_yes _ _ 2 2 2 [4, 4] [1, 4] _ A1.out (by simpa using A2.out) (by decide) (both_mk K3.out K4.out rfl)).mono ?_
  clear A1 A2
  rintro e w3 ⟨hB, hp⟩
  have e1 : Cv.dlN (gD [4, 4]) (gD [1, 4]) 2 2 = some 1 := by decide
  rw [e1] at hp
  have he : e = .returned (.tuple #[.int .i64 1, .nilIface]) := by
    rcases hp with ⟨h, _⟩ | ⟨m, h, h2⟩
    · simp at h
    · simp only [Option.some.injEq] at h; subst h; exact h2
  subst he
  have hB3 : Hid (Below w2.heap.size w2 w3) := (((Below.refl _ _).alloc (Nat.le_refl _) _).alloc (by simp) _).trans (hB.mono (by simp; omega))
  clear hB hp e1
  have G3 := Lib.hid (G2.out.later hB3.out)
  have BB3 : Hid (Below w.heap.size w w3) := BB2.out.trans (hB3.out.mono BB2.out.size)
  clear G2 BB2 hB3
  go_wp2_with fail
  refine (same_yes _ _ 3 _ _ [1, 2, 5] _ _ _ (G3.out.alloc _) (intsLit (zs := [1, 2, 5]) (Obj.new w3 [.int .i64 1, .int .i64 2, .int .i64 5] _) (by decide) (lit_fits K5.out))).mono ?_
  rintro e w5 ⟨rfl, n2, rfl⟩
  go_wp2
  go_ret
  exact ⟨by simp, below_drewN (BB3.out.alloc BB3.out.size _) _⟩
end Go.Proofs.Ytikdpjedlbkkjaa
