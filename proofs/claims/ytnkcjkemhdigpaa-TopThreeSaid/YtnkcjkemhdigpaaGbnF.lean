/- The closed fact on going back. -/
import Derived.Test.YtnkcjkemhdigpaaGbnRun
import Derived.Test.YtnkcjkemhdigpaaAbpF
namespace Go.Proofs.Ytnkcjkemhdigpaa
open Go.RowKit
set_option linter.unusedSimpArgs false
set_option linter.unusedVariables false

theorem ahead_ok {zs : List Int} {lf : Nat} {win rnd : Int} (h : aheadE zs lf win rnd = 0) : sentE zs lf = 0 ∧ zs.length ≤ 20 ∧ lf ≤ 200 ∧ 1 ≤ win ∧ win ≤ 8 ∧ 2 ≤ rnd ∧ rnd ≤ 16 := by
  unfold aheadE at h
  by_cases h1 : sentE zs lf = 0
  · rw [if_neg (by simpa using h1)] at h
    by_cases h2 : (1 ≤ win ∧ win ≤ 8) ∧ (2 ≤ rnd ∧ rnd ≤ 16)
    · refine ⟨h1, ?_⟩
      rcases sent_cases zs lf with ⟨h', e⟩ | ⟨h3, h4, _, e⟩ | ⟨h3, h4, _, e⟩ <;> omega
    · rw [if_neg h2] at h; omega
  · rw [if_pos h1] at h; exact absurd h h1
theorem ahead_mk {zs : List Int} {lf : Nat} {win rnd : Int} (h : sentE zs lf = 0) (h1 : 1 ≤ win) (h2 : win ≤ 8) (h3 : 2 ≤ rnd) (h4 : rnd ≤ 16) : aheadE zs lf win rnd = 0 := by
  unfold aheadE; rw [if_neg (by simpa using h), if_pos ⟨⟨h1, h2⟩, h3, h4⟩]

theorem gfact_any (w : World) : Calls Try.prog 14 #[] w fun e w' => e = .returned (.bool true) ∧ Below w.heap.size w w' := by
  have s3 : ∀ k, -9223372036854775808 ≤ ([5, 6, 7] : List Int).getD k 0 ∧ ([5, 6, 7] : List Int).getD k 0 ≤ 9223372036854775807 := fun k => by rcases k with _ | _ | _ | k <;> simp
  have s3b : ∀ k, -9223372036854775808 ≤ ([5, 6, 5] : List Int).getD k 0 ∧ ([5, 6, 5] : List Int).getD k 0 ≤ 9223372036854775807 := fun k => by rcases k with _ | _ | _ | k <;> simp
  have S3 := Lib.hid s3; clear s3
  have S3b := Lib.hid s3b; clear s3b
  have hs0 : Hid (sentE [5, 6, 7] 3 = 0) := sent_ok (by decide) (by decide) (fun k hk => by rcases k with _ | _ | _ | k <;> simp at *)
  go_enter Try.func14, Try.ntmps14
  go_wp2_with fail
  have I1 := Lib.hid (ints_lit (zs := [5, 6, 7]) (Obj.alloc (Obj.new w [.int .i64 5, .int .i64 6, .int .i64 7] 3) (.cells (flat [(false, true), (false, true), (false, false)]).toArray 32 (0, 0))) (by decide) S3.out)
  have F1 := Lib.hid (pairs_lit (fs := [(false, true), (false, true), (false, false)]) (by have := Obj.new (w.alloc (.cells #[.int .i64 5, .int .i64 6, .int .i64 7] 3 (0, 0))) (flat [(false, true), (false, true), (false, false)]) 32; simpa using this) (by decide))
  refine (grun_yes _ 3 3 2 2 _ 3 3 [5, 6, 7] [(false, true), (false, true), (false, false)] _ I1.out F1.out (ahead_mk hs0.out (by decide) (by decide) (by decide) (by decide)) (by decide) (by decide) (by decide) (by decide) (by decide) (by decide)).mono ?_
  clear I1 F1
  rintro e w1 ⟨ga, gc, he, hgi, hB⟩
  have e1 : gbnRun [5, 6, 7] 2 2 [(false, true), (false, true), (false, false)] = ⟨[5, 6, 5], 1, 1⟩ := by rfl
  rw [e1] at he hgi
  clear e1
  subst he
  have hB1 : Hid (Below w.heap.size w w1) := (((Below.refl _ _).alloc (Nat.le_refl _) _).alloc (by simp) _).trans (hB.mono (by simp; omega))
  have G1 : Hid (Ints w1 w1.heap.size ga 3 [5, 6, 5]) := hgi
  clear hB hgi
  go_wp2_with fail
  have I2 := Lib.hid (ints_lit (zs := [5, 6, 7]) (Obj.alloc (Obj.new w1 [.int .i64 5, .int .i64 6, .int .i64 7] 3) (.cells (flat [(false, false), (false, false), (false, false)]).toArray 32 (0, 0))) (by decide) S3.out)
  have F2 := Lib.hid (pairs_lit (fs := [(false, false), (false, false), (false, false)]) (by have := Obj.new (w1.alloc (.cells #[.int .i64 5, .int .i64 6, .int .i64 7] 3 (0, 0))) (flat [(false, false), (false, false), (false, false)]) 32; simpa using this) (by decide))
  refine (grun_yes _ 3 3 2 3 _ 3 3 [5, 6, 7] [(false, false), (false, false), (false, false)] _ I2.out F2.out (ahead_mk hs0.out (by decide) (by decide) (by decide) (by decide)) (by decide) (by decide) (by decide) (by decide) (by decide) (by decide)).mono ?_
  clear I2 F2
  rintro e w2 ⟨gb, gd, he, hgi, hB⟩
  have e1 : gbnRun [5, 6, 7] 2 3 [(false, false), (false, false), (false, false)] = ⟨[5, 6, 7], 3, 3⟩ := by rfl
  rw [e1] at he hgi
  clear e1
  subst he
  have hB2 : Hid (Below w1.heap.size w1 w2) := (((Below.refl _ _).alloc (Nat.le_refl _) _).alloc (by simp) _).trans (hB.mono (by simp; omega))
  have G2 : Hid (Ints w2 w2.heap.size gb 3 [5, 6, 7]) := hgi
  have G1b := Lib.hid (G1.out.later hB2.out)
  clear hB hgi
  go_wp2_with fail
  refine (same_yes _ _ 3 _ _ [5, 6, 5] _ _ _ (G1b.out.alloc _) (ints_lit (zs := [5, 6, 5]) (Obj.new w2 [.int .i64 5, .int .i64 6, .int .i64 5] _) (by decide) S3b.out)).mono ?_
  rintro e w3 ⟨rfl, n, rfl⟩
  have B3 : Hid (Below w2.heap.size w2 ((w2.alloc (.cells #[.int .i64 5, .int .i64 6, .int .i64 5] 3 (0, 0))).drewN n)) := below_drewN ((Below.refl _ _).alloc (Nat.le_refl _) _) n
  have G2b := Lib.hid (G2.out.later B3.out)
  have BW : Hid (Below w.heap.size w ((w2.alloc (.cells #[.int .i64 5, .int .i64 6, .int .i64 5] 3 (0, 0))).drewN n)) := hB1.out.trans ((hB2.out.mono hB1.out.size).trans (B3.out.mono (Nat.le_trans hB1.out.size hB2.out.size)))
  generalize (w2.alloc (.cells #[.int .i64 5, .int .i64 6, .int .i64 5] 3 (0, 0))).drewN n = w4 at *
  go_wp2_with fail
  refine (same_yes _ _ 3 _ _ [5, 6, 7] _ _ _ (G2b.out.alloc _) (ints_lit (zs := [5, 6, 7]) (Obj.new w4 [.int .i64 5, .int .i64 6, .int .i64 7] _) (by decide) S3.out)).mono ?_
  rintro e w5 ⟨rfl, n2, rfl⟩
  go_wp2
  go_ret
  exact ⟨by simp, below_drewN (BW.out.alloc BW.out.size _) _⟩
end Go.Proofs.Ytnkcjkemhdigpaa
