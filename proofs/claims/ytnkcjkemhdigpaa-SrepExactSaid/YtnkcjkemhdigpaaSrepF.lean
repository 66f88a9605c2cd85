/- The closed fact on selective repeat. -/
import Derived.Test.YtnkcjkemhdigpaaSrepRun
import Derived.Test.YtnkcjkemhdigpaaGbnF
namespace Go.Proofs.Ytnkcjkemhdigpaa
open Go.RowKit
set_option linter.unusedSimpArgs false
set_option linter.unusedVariables false

def fF : List (Bool × Bool) := [(false, true), (false, true), (false, false), (false, false), (false, false)]
set_option maxHeartbeats 4000000 in
theorem sfact_any (w : World) : Calls Try.prog 17 #[] w fun e w' => e = .returned (.bool true) ∧ Below w.heap.size w w' := by
  have s4 : ∀ k, -9223372036854775808 ≤ ([5, 6, 7, 8] : List Int).getD k 0 ∧ ([5, 6, 7, 8] : List Int).getD k 0 ≤ 9223372036854775807 := fun k => by rcases k with _ | _ | _ | _ | k <;> simp
  have s4b : ∀ k, -9223372036854775808 ≤ ([5, 6, 7, 5] : List Int).getD k 0 ∧ ([5, 6, 7, 5] : List Int).getD k 0 ≤ 9223372036854775807 := fun k => by rcases k with _ | _ | _ | _ | k <;> simp
  have s3 : ∀ k, -9223372036854775808 ≤ ([5, 6, 7] : List Int).getD k 0 ∧ ([5, 6, 7] : List Int).getD k 0 ≤ 9223372036854775807 := fun k => by rcases k with _ | _ | _ | k <;> simp
  have S4 := Lib.hid s4; clear s4
  have S4b := Lib.hid s4b; clear s4b
  have S3 := Lib.hid s3; clear s3
  have hs0 : Hid (sentE [5, 6, 7, 8] 5 = 0) := sent_ok (by decide) (by decide) (fun k hk => by rcases k with _ | _ | _ | _ | k <;> simp at *)
  go_enter Try.func17, Try.ntmps17
  go_wp2_with fail
  have F1 : Hid (Pairs ((w.alloc (.cells (flat fF).toArray 32 (0, 0))).alloc (.cells #[.int .i64 5, .int .i64 6, .int .i64 7, .int .i64 8] 3 (0, 0))) _ (some ⟨w.heap.size, 0, none⟩) 5 fF) := pairs_lit (fs := fF) (Obj.alloc (Obj.new w (flat fF) 32) _) (by decide)
  have I1 : Hid (Ints ((w.alloc (.cells (flat fF).toArray 32 (0, 0))).alloc (.cells #[.int .i64 5, .int .i64 6, .int .i64 7, .int .i64 8] 3 (0, 0))) _ (some ⟨w.heap.size + 1, 0, none⟩) 4 [5, 6, 7, 8]) := ints_lit (zs := [5, 6, 7, 8]) (by have := Obj.new (w.alloc (.cells (flat fF).toArray 32 (0, 0))) [.int .i64 5, .int .i64 6, .int .i64 7, .int .i64 8] 3; simpa using this) (by decide) S4.out
  have HB0 : Hid (Below w.heap.size w ((w.alloc (.cells (flat fF).toArray 32 (0, 0))).alloc (.cells #[.int .i64 5, .int .i64 6, .int .i64 7, .int .i64 8] 3 (0, 0)))) := ((Below.refl _ _).alloc (Nat.le_refl _) _).alloc (by simp) _
  refine (srun_yes _ 4 4 2 3 _ 5 5 [5, 6, 7, 8] fF _ I1.out F1.out (ahead_mk hs0.out (by decide) (by decide) (by decide) (by decide)) (by decide) (by decide) (by decide) (by decide) (by decide) (by decide)).mono ?_
  rintro e w1 ⟨ga, gc, he, hgi, hB⟩
  have e1 : (Sr.run [5, 6, 7, 8] 2 3 fF).got = [5, 6, 7, 5] := by rfl
  rw [e1] at he hgi
  clear e1
  generalize (Sr.run [5, 6, 7, 8] 2 3 fF).known = k1 at *
  subst he
  have hB1 : Hid (Below w.heap.size w w1) := HB0.out.trans (hB.mono HB0.out.size)
  have G1 : Hid (Ints w1 w1.heap.size ga 4 [5, 6, 7, 5]) := hgi
  have F1b := Lib.hid ((F1.out.below hB).mono hB.size)
  clear hB hgi F1 I1 HB0
  go_wp2_with fail
  have BA : Hid (Below w1.heap.size w1 (w1.alloc (.cells #[.int .i64 5, .int .i64 6, .int .i64 7, .int .i64 8] 3 (0, 0)))) := (Below.refl _ _).alloc (Nat.le_refl _) _
  have I2 := Lib.hid (ints_lit (zs := [5, 6, 7, 8]) (Obj.new w1 [.int .i64 5, .int .i64 6, .int .i64 7, .int .i64 8] 3) (by decide) S4.out)
  have F2 := Lib.hid ((F1b.out.below BA.out).mono BA.out.size)
  refine (srun_yes _ 4 4 2 4 _ 5 5 [5, 6, 7, 8] fF _ I2.out F2.out (ahead_mk hs0.out (by decide) (by decide) (by decide) (by decide)) (by decide) (by decide) (by decide) (by decide) (by decide) (by decide)).mono ?_
  rintro e w2 ⟨gb, gd, he, hgi, hB⟩
  have e1 : (Sr.run [5, 6, 7, 8] 2 4 fF).got = [5, 6, 7] := by rfl
  rw [e1] at he hgi
  clear e1
  generalize (Sr.run [5, 6, 7, 8] 2 4 fF).known = k2 at *
  subst he
  have hB2 : Hid (Below w1.heap.size w1 w2) := BA.out.trans (hB.mono BA.out.size)
  have G2 : Hid (Ints w2 w2.heap.size gb 3 [5, 6, 7]) := hgi
  have G1b := Lib.hid (G1.out.later hB2.out)
  clear hB hgi I2 F2 F1b BA
  go_wp2_with fail
  refine (same_yes _ _ 4 _ _ [5, 6, 7, 5] _ _ _ (G1b.out.alloc _) (ints_lit (zs := [5, 6, 7, 5]) (Obj.new w2 [.int .i64 5, .int .i64 6, .int .i64 7, .int .i64 5] _) (by decide) S4b.out)).mono ?_
  rintro e w3 ⟨rfl, n, rfl⟩
  have B3 : Hid (Below w2.heap.size w2 ((w2.alloc (.cells #[.int .i64 5, .int .i64 6, .int .i64 7, .int .i64 5] 3 (0, 0))).drewN n)) := below_drewN ((Below.refl _ _).alloc (Nat.le_refl _) _) n
  have G2b := Lib.hid (G2.out.later B3.out)
  have BW : Hid (Below w.heap.size w ((w2.alloc (.cells #[.int .i64 5, .int .i64 6, .int .i64 7, .int .i64 5] 3 (0, 0))).drewN n)) := hB1.out.trans ((hB2.out.mono hB1.out.size).trans (B3.out.mono (Nat.le_trans hB1.out.size hB2.out.size)))
  generalize (w2.alloc (.cells #[.int .i64 5, .int .i64 6, .int .i64 7, .int .i64 5] 3 (0, 0))).drewN n = w4 at *
  go_wp2_with fail
  refine (same_yes _ _ 3 _ _ [5, 6, 7] _ _ _ (G2b.out.alloc _) (ints_lit (zs := [5, 6, 7]) (Obj.new w4 [.int .i64 5, .int .i64 6, .int .i64 7] _) (by decide) S3.out)).mono ?_
  rintro e w5 ⟨rfl, n2, rfl⟩
  go_wp2
  go_ret
  exact ⟨by simp, below_drewN (BW.out.alloc BW.out.size _) _⟩
end Go.Proofs.Ytnkcjkemhdigpaa
