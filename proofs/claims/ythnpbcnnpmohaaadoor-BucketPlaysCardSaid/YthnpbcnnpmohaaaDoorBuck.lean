/- The contracts of bucket.Bucket. -/
import Derived.Test.YthnpbcnnpmohaaaDoorCore
namespace Go.Proofs.YthnpbcnnpmohaaaDoor
open Go.RowKit
set_option linter.unusedSimpArgs false
set_option linter.unusedVariables false

/-- A bucket in block b. -/
def Buck (w : World) (b : Nat) (r d h l : Int) : Prop := Obj w b 55 [.int .i64 r, .int .i64 d, .int .i64 h, .int .i64 l]
theorem Buck.set2 {w : World} {b : Nat} {r d h l : Int} (ho : Buck w b r d h l) {u v : Int} (e : u = v) : Buck (w.setCell ⟨b, 2, none⟩ (.int .i64 u)) b r d v l := by
  subst e; exact Obj.set ho 2 _
theorem Buck.set3 {w : World} {b : Nat} {r d h l : Int} (ho : Buck w b r d h l) {u v : Int} (e : u = v) : Buck (w.setCell ⟨b, 3, none⟩ (.int .i64 u)) b r d h v := by
  subst e; exact Obj.set ho 3 _
theorem Buck.drew {w : World} {b : Nat} {r d h l : Int} (ho : Buck w b r d h l) : Buck w.drew b r d h l := ho
theorem Buck.drewN {w : World} {b : Nat} {r d h l : Int} (ho : Buck w b r d h l) (n : Nat) : Buck (w.drewN n) b r d h l := ho

theorem bnew_no (r d : Int) (w : World) (h : (r < 0 ∨ 20 < r) ∨ (d < 0 ∨ 100 < d)) : Calls Tryd.prog 13 #[.int .i64 r, .int .i64 d] w fun e w' => e = .returned (.tuple #[.pointer none, errV 1]) ∧ w = w' := by
  by_cases hr : 0 ≤ r ∧ r ≤ 20
  · obtain ⟨h1, h2⟩ := hr
    have H := Lib.hid (show d < 0 ∨ 100 < d by omega)
    clear h
    go_enter Tryd.func13, Tryd.ntmps13
    go_wp2_with fail
    refine (within_in _ _ _ _ h1 h2).mono ?_
    rintro e w' ⟨rfl, rfl⟩
    go_wp2_with fail
    refine (within_out _ _ _ _ H.out).mono ?_
    rintro e w' ⟨rfl, rfl⟩
    go_wp2
    go_ret2
    exact ⟨rfl, rfl⟩
  · have H := Lib.hid (show r < 0 ∨ 20 < r by omega)
    clear h hr
    go_enter Tryd.func13, Tryd.ntmps13
    go_wp2_with fail
    refine (within_out _ _ _ _ H.out).mono ?_
    rintro e w' ⟨rfl, rfl⟩
    go_wp2
    go_ret2
    exact ⟨rfl, rfl⟩

theorem bnew_yes (r d : Int) (w : World) (h1 : 0 ≤ r) (h2 : r ≤ 20) (h3 : 0 ≤ d) (h4 : d ≤ 100) : Calls Tryd.prog 13 #[.int .i64 r, .int .i64 d] w fun e w' => e = .returned (.tuple #[.pointer (some ⟨w.heap.size, 0, none⟩), .nilIface]) ∧ Buck w' w.heap.size r d d 0 ∧ w.grownBy w' none := by
  go_enter Tryd.func13, Tryd.ntmps13
  go_wp2_with fail
  refine (within_in _ _ _ _ h1 h2).mono ?_
  rintro e w' ⟨rfl, rfl⟩
  go_wp2_with fail
  refine (within_in _ _ _ _ h3 h4).mono ?_
  rintro e w' ⟨rfl, rfl⟩
  go_wp2
  go_ret2
  exact ⟨rfl, Obj.new _ _ _, World.grownBy_alloc _ _ _⟩

theorem has_any (b : Nat) (r d h l : Int) (w : World) (ho : Buck w b r d h l) : Calls Tryd.prog 16 #[.pointer (some ⟨b, 0, none⟩)] w fun e w' => e = .returned (.tuple #[.int .i64 h, .int .i64 l]) ∧ ∃ n, w' = w.drewN n := by
  have c2 := ho.cell 2
  have c3 := ho.cell 3
  clear ho
  simp only [List.getElem?_cons_zero, List.getElem?_cons_succ] at c2 c3
  go_enter Tryd.func16, Tryd.ntmps16
  go_wp2
  go_quiet (fail)
  go_wp2
  go_ret2
  exact ⟨rfl, _, rfl⟩

theorem btake_no (b : Nat) (at_ n : Int) (w : World) (h : (at_ < 0 ∨ 1000 < at_) ∨ (n < 0 ∨ 100 < n)) : Calls Tryd.prog 15 #[.pointer (some ⟨b, 0, none⟩), .int .i64 at_, .int .i64 n] w fun e w' => e = .returned (.tuple #[.bool false, errV 1]) ∧ w = w' := by
  by_cases hr : 0 ≤ at_ ∧ at_ ≤ 1000
  · obtain ⟨h1, h2⟩ := hr
    have H := Lib.hid (show n < 0 ∨ 100 < n by omega)
    clear h
    go_enter Tryd.func15, Tryd.ntmps15
    go_wp2_with fail
    refine (within_in _ _ _ _ h1 h2).mono ?_
    rintro e w' ⟨rfl, rfl⟩
    go_wp2_with fail
    refine (within_out _ _ _ _ H.out).mono ?_
    rintro e w' ⟨rfl, rfl⟩
    go_wp2
    go_ret2
    exact ⟨rfl, rfl⟩
  · have H := Lib.hid (show at_ < 0 ∨ 1000 < at_ by omega)
    clear h hr
    go_enter Tryd.func15, Tryd.ntmps15
    go_wp2_with fail
    refine (within_out _ _ _ _ H.out).mono ?_
    rintro e w' ⟨rfl, rfl⟩
    go_wp2
    go_ret2
    exact ⟨rfl, rfl⟩

theorem btake_state (b : Nat) (r d h l at_ n : Int) (w : World) (ho : Buck w b r d h l) (h1 : 0 ≤ at_) (h2 : at_ ≤ 1000) (h3 : 0 ≤ n) (h4 : n ≤ 100) (hl : at_ < l) : Calls Tryd.prog 15 #[.pointer (some ⟨b, 0, none⟩), .int .i64 at_, .int .i64 n] w fun e w' => e = .returned (.tuple #[.bool false, errV 7]) ∧ w = w' := by
  have c3 := ho.cell 3
  clear ho
  simp only [List.getElem?_cons_zero, List.getElem?_cons_succ] at c3
  go_enter Tryd.func15, Tryd.ntmps15
  go_wp2_with fail
  refine (within_in _ _ _ _ h1 h2).mono ?_
  rintro e w' ⟨rfl, rfl⟩
  go_wp2_with fail
  refine (within_in _ _ _ _ h3 h4).mono ?_
  rintro e w' ⟨rfl, rfl⟩
  go_wp2
  go_ret2
  exact ⟨rfl, rfl⟩

/-- What a bucket may hold. -/
structure BkOk (r d h l : Int) : Prop where
  r0 : 0 ≤ r
  r1 : r ≤ 20
  d0 : 0 ≤ d
  d1 : d ≤ 100
  h0 : 0 ≤ h
  h1 : h ≤ d
  l0 : 0 ≤ l
  l1 : l ≤ 1000

theorem mul_bound {r t : Int} (h0 : 0 ≤ r) (h1 : r ≤ 20) (h2 : 0 ≤ t) (h3 : t ≤ 1000) : 0 ≤ r * t ∧ r * t ≤ 20000 := by
  refine ⟨Int.mul_nonneg h0 h2, ?_⟩
  have := Int.mul_le_mul h1 h3 h2 (by omega)
  omega

/-- How much is there behind the wait. -/
def fillB (r d h l at_ : Int) : Int := min d (h + r * (at_ - l))

set_option maxHeartbeats 2000000 in
theorem btake_yes (b : Nat) (r d h l at_ n : Int) (w : World) (ho : Buck w b r d h l) (hk : BkOk r d h l) (h1 : 0 ≤ at_) (h2 : at_ ≤ 1000) (h3 : 0 ≤ n) (h4 : n ≤ 100) (hl : l ≤ at_) (hn : n ≤ fillB r d h l at_) :
    Calls Tryd.prog 15 #[.pointer (some ⟨b, 0, none⟩), .int .i64 at_, .int .i64 n] w fun e w' =>
      e = .returned (.tuple #[.bool true, .nilIface]) ∧ Buck w' b r d (fillB r d h l at_ - n) at_ ∧ w.grownBy w' (some b) := by
  have c0 := ho.cell 0
  have c1 := ho.cell 1
  have c2 := ho.cell 2
  have c3 := ho.cell 3
  have f2 := ho.free 2
  have f3 := ho.free 3
  have H := Lib.hid ho; clear ho
  simp only [List.getElem?_cons_zero, List.getElem?_cons_succ] at c0 c1 c2 c3
  obtain ⟨k1, k2, k3, k4, k5, k6, k7, k8⟩ := hk
  obtain ⟨m1, m2⟩ := mul_bound k1 k2 (show 0 ≤ at_ - l by omega) (show at_ - l ≤ 1000 by omega)
  unfold fillB at hn ⊢
  by_cases hd : h + r * (at_ - l) < d
  · rw [show min d (h + r * (at_ - l)) = h + r * (at_ - l) from by omega] at hn ⊢
    go_enter Tryd.func15, Tryd.ntmps15
    go_wp2_with fail
    refine (within_in _ _ _ _ h1 h2).mono ?_
    rintro e w' ⟨rfl, rfl⟩
    go_wp2_with fail
    refine (within_in _ _ _ _ h3 h4).mono ?_
    rintro e w' ⟨rfl, rfl⟩
    go_wp2_with fail
    go_region
    all_goals go_wp2
    all_goals
      go_ret2
      exact ⟨rfl, Buck.drew (Buck.set2 (Buck.set3 (Buck.set2 H.out rfl) rfl) rfl), grown_drew (grown_set (grown_set (grown_set (grown_refl _ _) _ _) _ _) _ _)⟩
  · rw [show min d (h + r * (at_ - l)) = d from by omega] at hn ⊢
    go_enter Tryd.func15, Tryd.ntmps15
    go_wp2_with fail
    refine (within_in _ _ _ _ h1 h2).mono ?_
    rintro e w' ⟨rfl, rfl⟩
    go_wp2_with fail
    refine (within_in _ _ _ _ h3 h4).mono ?_
    rintro e w' ⟨rfl, rfl⟩
    go_wp2_with fail
    go_region
    all_goals go_wp2
    all_goals
      go_ret2
      exact ⟨rfl, Buck.drew (Buck.set2 (Buck.set3 (Buck.set2 H.out rfl) rfl) rfl), grown_drew (grown_set (grown_set (grown_set (grown_refl _ _) _ _) _ _) _ _)⟩

set_option maxHeartbeats 2000000 in
theorem btake_short (b : Nat) (r d h l at_ n : Int) (w : World) (ho : Buck w b r d h l) (hk : BkOk r d h l) (h1 : 0 ≤ at_) (h2 : at_ ≤ 1000) (h3 : 0 ≤ n) (h4 : n ≤ 100) (hl : l ≤ at_) (hn : fillB r d h l at_ < n) :
    Calls Tryd.prog 15 #[.pointer (some ⟨b, 0, none⟩), .int .i64 at_, .int .i64 n] w fun e w' =>
      e = .returned (.tuple #[.bool false, .nilIface]) ∧ Buck w' b r d (fillB r d h l at_) at_ ∧ w.grownBy w' (some b) := by
  have c0 := ho.cell 0
  have c1 := ho.cell 1
  have c2 := ho.cell 2
  have c3 := ho.cell 3
  have f2 := ho.free 2
  have f3 := ho.free 3
  have H := Lib.hid ho; clear ho
  simp only [List.getElem?_cons_zero, List.getElem?_cons_succ] at c0 c1 c2 c3
  obtain ⟨k1, k2, k3, k4, k5, k6, k7, k8⟩ := hk
  obtain ⟨m1, m2⟩ := mul_bound k1 k2 (show 0 ≤ at_ - l by omega) (show at_ - l ≤ 1000 by omega)
  unfold fillB at hn ⊢
  by_cases hd : h + r * (at_ - l) < d
  · rw [show min d (h + r * (at_ - l)) = h + r * (at_ - l) from by omega] at hn ⊢
    go_enter Tryd.func15, Tryd.ntmps15
    go_wp2_with fail
    refine (within_in _ _ _ _ h1 h2).mono ?_
    rintro e w' ⟨rfl, rfl⟩
    go_wp2_with fail
    refine (within_in _ _ _ _ h3 h4).mono ?_
    rintro e w' ⟨rfl, rfl⟩
    go_wp2_with fail
    go_region
    all_goals go_wp2
    all_goals
      go_ret2
      exact ⟨rfl, Buck.drew (Buck.set3 (Buck.set2 H.out rfl) rfl), grown_drew (grown_set (grown_set (grown_refl _ _) _ _) _ _)⟩
  · rw [show min d (h + r * (at_ - l)) = d from by omega] at hn ⊢
    go_enter Tryd.func15, Tryd.ntmps15
    go_wp2_with fail
    refine (within_in _ _ _ _ h1 h2).mono ?_
    rintro e w' ⟨rfl, rfl⟩
    go_wp2_with fail
    refine (within_in _ _ _ _ h3 h4).mono ?_
    rintro e w' ⟨rfl, rfl⟩
    go_wp2_with fail
    go_region
    all_goals go_wp2
    all_goals
      go_ret2
      exact ⟨rfl, Buck.drew (Buck.set3 (Buck.set2 H.out rfl) rfl), grown_drew (grown_set (grown_set (grown_refl _ _) _ _) _ _)⟩

theorem fill_ok {r d h l at_ : Int} (hk : BkOk r d h l) (h1 : l ≤ at_) (h2 : at_ ≤ 1000) : 0 ≤ fillB r d h l at_ ∧ fillB r d h l at_ ≤ d := by
  obtain ⟨k1, k2, k3, k4, k5, k6, k7, k8⟩ := hk
  obtain ⟨m1, m2⟩ := mul_bound k1 k2 (show 0 ≤ at_ - l by omega) (show at_ - l ≤ 1000 by omega)
  unfold fillB; omega
end Go.Proofs.YthnpbcnnpmohaaaDoor
