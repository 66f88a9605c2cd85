/- The contracts of window.Pipe. -/
import Derived.Test.YtkpflghhmnkjmaaCore
namespace Go.Proofs.Ytkpflghhmnkjmaa
open Go.RowKit
set_option linter.unusedSimpArgs false
set_option linter.unusedVariables false

/-- A pipe in block b: room, sent, limit, eaten. -/
def Pip (w : World) (b : Nat) (r s l e : Int) : Prop := Obj w b 44 [.int .i64 r, .int .i64 s, .int .i64 l, .int .i64 e]
theorem Pip.set0 {w : World} {b : Nat} {r s l e u v : Int} (ho : Pip w b r s l e) (h : u = v) : Pip (w.setCell ⟨b, 0, none⟩ (.int .i64 u)) b v s l e := by
  subst h; exact Obj.set ho 0 _
theorem Pip.set1 {w : World} {b : Nat} {r s l e u v : Int} (ho : Pip w b r s l e) (h : u = v) : Pip (w.setCell ⟨b, 1, none⟩ (.int .i64 u)) b r v l e := by
  subst h; exact Obj.set ho 1 _
theorem Pip.set2 {w : World} {b : Nat} {r s l e u v : Int} (ho : Pip w b r s l e) (h : u = v) : Pip (w.setCell ⟨b, 2, none⟩ (.int .i64 u)) b r s v e := by
  subst h; exact Obj.set ho 2 _
theorem Pip.set3 {w : World} {b : Nat} {r s l e u v : Int} (ho : Pip w b r s l e) (h : u = v) : Pip (w.setCell ⟨b, 3, none⟩ (.int .i64 u)) b r s l v := by
  subst h; exact Obj.set ho 3 _
theorem Pip.drew {w : World} {b : Nat} {r s l e : Int} (ho : Pip w b r s l e) : Pip w.drew b r s l e := ho
theorem Pip.drewN {w : World} {b : Nat} {r s l e : Int} (ho : Pip w b r s l e) (n : Nat) : Pip (w.drewN n) b r s l e := ho
/-- What a pipe may hold. -/
structure PipOk (r s l e : Int) : Prop where
  r0 : 0 ≤ r
  r1 : r ≤ 100
  e0 : 0 ≤ e
  es : e ≤ s
  sl : s ≤ l
  ll : l ≤ e + 100
  s1 : s ≤ 1000000

theorem wnew_no (r : Int) (w : World) (h : r < 0 ∨ 100 < r) : Calls Try.prog 5 #[.int .i64 r] w fun e w' => e = .returned (.tuple #[.pointer none, errV 1]) ∧ w = w' := by
  go_enter Try.func5, Try.ntmps5
  go_wp2_with fail
  refine (within_out _ _ _ _ h).mono ?_
  rintro e w' ⟨rfl, rfl⟩
  go_wp2
  go_ret2
  exact ⟨rfl, rfl⟩
theorem wnew_yes (r : Int) (w : World) (h1 : 0 ≤ r) (h2 : r ≤ 100) : Calls Try.prog 5 #[.int .i64 r] w fun e w' => e = .returned (.tuple #[.pointer (some ⟨w.heap.size, 0, none⟩), .nilIface]) ∧ Pip w' w.heap.size r 0 r 0 ∧ w.grownBy w' none := by
  go_enter Try.func5, Try.ntmps5
  go_wp2_with fail
  refine (within_in _ _ _ _ h1 h2).mono ?_
  rintro e w' ⟨rfl, rfl⟩
  go_wp2
  go_ret2
  exact ⟨rfl, Obj.new _ _ _, World.grownBy_alloc _ _ _⟩

theorem wsend_no (b : Nat) (n : Int) (w : World) (h : n < 0 ∨ 100 < n) : Calls Try.prog 10 #[.pointer (some ⟨b, 0, none⟩), .int .i64 n] w fun e w' => e = .returned (errV 1) ∧ w = w' := by
  go_enter Try.func10, Try.ntmps10
  go_wp2_with fail
  refine (within_out _ _ _ _ h).mono ?_
  rintro e w' ⟨rfl, rfl⟩
  go_wp2
  go_ret
  exact ⟨rfl, rfl⟩
theorem weat_no (b : Nat) (n : Int) (w : World) (h : n < 0 ∨ 100 < n) : Calls Try.prog 11 #[.pointer (some ⟨b, 0, none⟩), .int .i64 n] w fun e w' => e = .returned (errV 1) ∧ w = w' := by
  go_enter Try.func11, Try.ntmps11
  go_wp2_with fail
  refine (within_out _ _ _ _ h).mono ?_
  rintro e w' ⟨rfl, rfl⟩
  go_wp2
  go_ret
  exact ⟨rfl, rfl⟩
set_option maxHeartbeats 2000000 in
theorem wsend_full (b : Nat) (r s l d n : Int) (w : World) (ho : Pip w b r s l d) (hk : PipOk r s l d) (h1 : 0 ≤ n) (h2 : n ≤ 100) (hc : l < s + n) : Calls Try.prog 10 #[.pointer (some ⟨b, 0, none⟩), .int .i64 n] w fun e w' => e = .returned (errV 4) ∧ ∃ m, w' = w.drewN m := by
  have c0 := ho.cell 0
  have c1 := ho.cell 1
  have c2 := ho.cell 2
  have c3 := ho.cell 3
  have f0 := ho.free 0
  have f1 := ho.free 1
  have f2 := ho.free 2
  have f3 := ho.free 3
  have H := Lib.hid ho; clear ho
  simp only [List.getElem?_cons_zero, List.getElem?_cons_succ] at c0 c1 c2 c3
  obtain ⟨k1, k2, k3, k4, k5, k6, k7⟩ := hk
  have q1 : IntKind.i64.wrap (s + n) = s + n := IntWalk.i64_in _ (by omega)
  go_enter Try.func10, Try.ntmps10
  go_wp2_with fail
  refine (within_in _ _ _ _ h1 h2).mono ?_
  rintro e w' ⟨rfl, rfl⟩
  go_wp2_with fail
  go_quiet (fail)
  go_wp2
  go_ret
  exact ⟨rfl, _, rfl⟩
set_option maxHeartbeats 2000000 in
theorem wsend_yes (b : Nat) (r s l d n : Int) (w : World) (ho : Pip w b r s l d) (hk : PipOk r s l d) (h1 : 0 ≤ n) (h2 : n ≤ 100) (hc : s + n ≤ l) : Calls Try.prog 10 #[.pointer (some ⟨b, 0, none⟩), .int .i64 n] w fun e w' => e = .returned (.nilIface) ∧ Pip w' b r (s + n) l d ∧ w.grownBy w' (some b) := by
  have c0 := ho.cell 0
  have c1 := ho.cell 1
  have c2 := ho.cell 2
  have c3 := ho.cell 3
  have f0 := ho.free 0
  have f1 := ho.free 1
  have f2 := ho.free 2
  have f3 := ho.free 3
  have H := Lib.hid ho; clear ho
  simp only [List.getElem?_cons_zero, List.getElem?_cons_succ] at c0 c1 c2 c3
  obtain ⟨k1, k2, k3, k4, k5, k6, k7⟩ := hk
  have q1 : IntKind.i64.wrap (s + n) = s + n := IntWalk.i64_in _ (by omega)
  go_enter Try.func10, Try.ntmps10
  go_wp2_with fail
  refine (within_in _ _ _ _ h1 h2).mono ?_
  rintro e w' ⟨rfl, rfl⟩
  go_wp2_with fail
  go_quiet (fail)
  go_wp2
  go_ret
  exact ⟨rfl, Pip.set1 (Pip.drewN H.out _) (by omega), grown_set (grown_drewN (grown_refl _ _) _) _ _⟩
set_option maxHeartbeats 2000000 in
theorem weat_none (b : Nat) (r s l d n : Int) (w : World) (ho : Pip w b r s l d) (hk : PipOk r s l d) (h1 : 0 ≤ n) (h2 : n ≤ 100) (hc : s < d + n) : Calls Try.prog 11 #[.pointer (some ⟨b, 0, none⟩), .int .i64 n] w fun e w' => e = .returned (errV 5) ∧ ∃ m, w' = w.drewN m := by
  have c0 := ho.cell 0
  have c1 := ho.cell 1
  have c2 := ho.cell 2
  have c3 := ho.cell 3
  have f0 := ho.free 0
  have f1 := ho.free 1
  have f2 := ho.free 2
  have f3 := ho.free 3
  have H := Lib.hid ho; clear ho
  simp only [List.getElem?_cons_zero, List.getElem?_cons_succ] at c0 c1 c2 c3
  obtain ⟨k1, k2, k3, k4, k5, k6, k7⟩ := hk
  have q1 : IntKind.i64.wrap (d + n) = d + n := IntWalk.i64_in _ (by omega)
  go_enter Try.func11, Try.ntmps11
  go_wp2_with fail
  refine (within_in _ _ _ _ h1 h2).mono ?_
  rintro e w' ⟨rfl, rfl⟩
  go_wp2_with fail
  go_quiet (fail)
  go_wp2
  go_ret
  exact ⟨rfl, _, rfl⟩
set_option maxHeartbeats 2000000 in
theorem weat_yes (b : Nat) (r s l d n : Int) (w : World) (ho : Pip w b r s l d) (hk : PipOk r s l d) (h1 : 0 ≤ n) (h2 : n ≤ 100) (hc : d + n ≤ s) : Calls Try.prog 11 #[.pointer (some ⟨b, 0, none⟩), .int .i64 n] w fun e w' => e = .returned (.nilIface) ∧ Pip w' b r s l (d + n) ∧ w.grownBy w' (some b) := by
  have c0 := ho.cell 0
  have c1 := ho.cell 1
  have c2 := ho.cell 2
  have c3 := ho.cell 3
  have f0 := ho.free 0
  have f1 := ho.free 1
  have f2 := ho.free 2
  have f3 := ho.free 3
  have H := Lib.hid ho; clear ho
  simp only [List.getElem?_cons_zero, List.getElem?_cons_succ] at c0 c1 c2 c3
  obtain ⟨k1, k2, k3, k4, k5, k6, k7⟩ := hk
  have q1 : IntKind.i64.wrap (d + n) = d + n := IntWalk.i64_in _ (by omega)
  go_enter Try.func11, Try.ntmps11
  go_wp2_with fail
  refine (within_in _ _ _ _ h1 h2).mono ?_
  rintro e w' ⟨rfl, rfl⟩
  go_wp2_with fail
  go_quiet (fail)
  go_wp2
  go_ret
  exact ⟨rfl, Pip.set3 (Pip.drewN H.out _) (by omega), grown_set (grown_drewN (grown_refl _ _) _) _ _⟩
set_option maxHeartbeats 2000000 in
theorem wgrant (b : Nat) (r s l d : Int) (w : World) (ho : Pip w b r s l d) (hk : PipOk r s l d) : Calls Try.prog 12 #[.pointer (some ⟨b, 0, none⟩)] w fun e w' => e = .returned (.int .i64 (d + r - l)) ∧ Pip w' b r s (d + r) d ∧ w.grownBy w' (some b) := by
  have c0 := ho.cell 0
  have c1 := ho.cell 1
  have c2 := ho.cell 2
  have c3 := ho.cell 3
  have f0 := ho.free 0
  have f1 := ho.free 1
  have f2 := ho.free 2
  have f3 := ho.free 3
  have H := Lib.hid ho; clear ho
  simp only [List.getElem?_cons_zero, List.getElem?_cons_succ] at c0 c1 c2 c3
  obtain ⟨k1, k2, k3, k4, k5, k6, k7⟩ := hk
  have q1 : IntKind.i64.wrap (d + r) = d + r := IntWalk.i64_in _ (by omega)
  have q2 : IntKind.i64.wrap (d + r - l) = d + r - l := IntWalk.i64_in _ (by omega)
  go_enter Try.func12, Try.ntmps12
  go_wp2_with fail
  go_quiet (fail)
  go_wp2
  go_ret
  exact ⟨rfl, Pip.set2 (Pip.drewN H.out _) (by omega), grown_set (grown_drewN (grown_refl _ _) _) _ _⟩
theorem wwaits (b : Nat) (r s l d : Int) (w : World) (ho : Pip w b r s l d) (hk : PipOk r s l d) : Calls Try.prog 9 #[.pointer (some ⟨b, 0, none⟩)] w fun e w' => e = .returned (.tuple #[.int .i64 (s - d), .int .i64 (l - s)]) ∧ ∃ m, w' = w.drewN m := by
  have c0 := ho.cell 0
  have c1 := ho.cell 1
  have c2 := ho.cell 2
  have c3 := ho.cell 3
  have f0 := ho.free 0
  have f1 := ho.free 1
  have f2 := ho.free 2
  have f3 := ho.free 3
  have H := Lib.hid ho; clear ho
  simp only [List.getElem?_cons_zero, List.getElem?_cons_succ] at c0 c1 c2 c3
  obtain ⟨k1, k2, k3, k4, k5, k6, k7⟩ := hk
  have q1 : IntKind.i64.wrap (s - d) = s - d := IntWalk.i64_in _ (by omega)
  have q2 : IntKind.i64.wrap (l - s) = l - s := IntWalk.i64_in _ (by omega)
  go_enter Try.func9, Try.ntmps9
  go_wp2_with fail
  go_quiet (fail)
  go_wp2
  go_ret2
  exact ⟨rfl, _, rfl⟩
end Go.Proofs.Ytkpflghhmnkjmaa
