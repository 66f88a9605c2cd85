/- The contracts of rtt.Timer: what each method does to the timer's block. -/
import Derived.Test.YtmmoolcnpbebhaaCore
namespace Go.Proofs.Ytmmoolcnpbebhaa
open Go.RowKit
set_option linter.unusedSimpArgs false
set_option linter.unusedVariables false

/-- A timer in block b: what is known, its spread, how long it waits. -/
def Tim (w : World) (b : Nat) (s p t : Int) : Prop := Obj w b 51 [.int .i64 s, .int .i64 p, .int .i64 t]

theorem new_no (n : Int) (w : World) (h : n < 1 ∨ 100000 < n) : Calls Try.prog 12 #[.int .i64 n] w fun e w' => e = .returned (.tuple #[.pointer none, errV 1]) ∧ w = w' := by
  go_enter Try.func12, Try.ntmps12
  go_wp2_with (go_at_call 21; refine (within_out _ _ _ _ h).mono ?_; rintro e w' ⟨rfl, rfl⟩)
  go_ret2
  exact ⟨rfl, rfl⟩

theorem new_yes (n : Int) (w : World) (h1 : 1 ≤ n) (h2 : n ≤ 100000) : Calls Try.prog 12 #[.int .i64 n] w fun e w' => e = .returned (.tuple #[.pointer (some ⟨w.heap.size, 0, none⟩), .nilIface]) ∧ Tim w' w.heap.size (-1) 0 n ∧ w.grownBy w' none := by
  go_enter Try.func12, Try.ntmps12
  go_wp2_with (go_at_call 21; refine (within_in _ _ _ _ h1 h2).mono ?_; rintro e w' ⟨rfl, rfl⟩)
  go_ret2
  exact ⟨rfl, Obj.new _ _ _, World.grownBy_alloc _ _ _⟩

theorem wait_any (b : Nat) (s p t : Int) (w : World) (ho : Tim w b s p t) : Calls Try.prog 13 #[.pointer (some ⟨b, 0, none⟩)] w fun e w' => e = .returned (.int .i64 t) ∧ w = w' := by
  have c2 := ho.cell 2
  clear ho
  simp only [List.getElem?_cons_zero, List.getElem?_cons_succ] at c2
  go_enter Try.func13, Try.ntmps13
  go_wp2
  go_ret
  exact ⟨rfl, rfl⟩

theorem Tim.set0 {w : World} {b : Nat} {s p t : Int} (h : Tim w b s p t) {u v : Int} (e : u = v) : Tim (w.setCell ⟨b, 0, none⟩ (.int .i64 u)) b v p t := by
  subst e; exact Obj.set h 0 _
theorem Tim.set1 {w : World} {b : Nat} {s p t : Int} (h : Tim w b s p t) {u v : Int} (e : u = v) : Tim (w.setCell ⟨b, 1, none⟩ (.int .i64 u)) b s v t := by
  subst e; exact Obj.set h 1 _
theorem Tim.set2 {w : World} {b : Nat} {s p t : Int} (h : Tim w b s p t) {u v : Int} (e : u = v) : Tim (w.setCell ⟨b, 2, none⟩ (.int .i64 u)) b s p v := by
  subst e; exact Obj.set h 2 _
theorem Tim.drew {w : World} {b : Nat} {s p t : Int} (h : Tim w b s p t) : Tim w.drew b s p t := h
theorem Tim.drewN {w : World} {b : Nat} {s p t : Int} (h : Tim w b s p t) (n : Nat) : Tim (w.drewN n) b s p t := h

theorem late_any (b : Nat) (s p t : Int) (w : World) (ho : Tim w b s p t) (h0 : 0 ≤ t) (h1 : t ≤ 100000) : Calls Try.prog 16 #[.pointer (some ⟨b, 0, none⟩)] w fun e w' => e = .returned (.tuple #[]) ∧ Tim w' b s p (min (2 * t) 100000) ∧ w.grownBy w' (some b) := by
  have c2 := ho.cell 2
  have f2 := ho.free 2
  have H := Lib.hid ho; clear ho
  simp only [List.getElem?_cons_zero, List.getElem?_cons_succ] at c2
  go_enter Try.func16, Try.ntmps16
  go_wp2
  all_goals (go_end0; exact ⟨rfl, H.out.set2 (by omega), grown_set (grown_refl _ _) _ _⟩)

theorem take_no (b : Nat) (s p t n : Int) (w : World) (h : n < 0 ∨ 100000 < n) : Calls Try.prog 14 #[.pointer (some ⟨b, 0, none⟩), .int .i64 n] w fun e w' => e = .returned (errV 1) ∧ w = w' := by
  go_enter Try.func14, Try.ntmps14
  go_wp2_with (go_at_call 21; refine (within_out _ _ _ _ h).mono ?_; rintro e w' ⟨rfl, rfl⟩)
  go_ret
  exact ⟨rfl, rfl⟩

theorem take_first (b : Nat) (s p t n : Int) (w : World) (ho : Tim w b s p t) (hs : s < 0) (h1 : 0 ≤ n) (h2 : n ≤ 100000) : Calls Try.prog 14 #[.pointer (some ⟨b, 0, none⟩), .int .i64 n] w fun e w' => e = .returned .nilIface ∧ Tim w' b n (n / 2) (min (n + max 1 (4 * (n / 2))) 100000) ∧ w.grownBy w' (some b) := by
  have c0 := ho.cell 0
  have c1 := ho.cell 1
  have c2 := ho.cell 2
  have f0 := ho.free 0
  have f1 := ho.free 1
  have f2 := ho.free 2
  have H := Lib.hid ho; clear ho
  simp only [List.getElem?_cons_zero, List.getElem?_cons_succ] at c0 c1 c2
  go_enter Try.func14, Try.ntmps14
  go_wp2_with (go_at_call 21; refine (within_in _ _ _ _ h1 h2).mono ?_; rintro e w' ⟨rfl, rfl⟩)
  go_region
  all_goals go_wp2
  all_goals (go_ret; exact ⟨rfl, (((H.out.set0 rfl).set1 rfl).set2 (by omega)).drew, grown_drew (grown_set (grown_set (grown_set (grown_refl _ _) _ _) _ _) _ _)⟩)

theorem take_next (b : Nat) (s p t n : Int) (w : World) (ho : Tim w b s p t) (hs : 0 ≤ s) (hs2 : s ≤ 100000) (hp : 0 ≤ p) (hp2 : p ≤ 100000) (h1 : 0 ≤ n) (h2 : n ≤ 100000) : Calls Try.prog 14 #[.pointer (some ⟨b, 0, none⟩), .int .i64 n] w fun e w' => e = .returned .nilIface ∧
    Tim w' b ((7 * s + n) / 8) ((3 * p + max (s - n) (n - s)) / 4) (min ((7 * s + n) / 8 + max 1 (4 * ((3 * p + max (s - n) (n - s)) / 4))) 100000) ∧ w.grownBy w' (some b) := by
  have c0 := ho.cell 0
  have c1 := ho.cell 1
  have c2 := ho.cell 2
  have f0 := ho.free 0
  have f1 := ho.free 1
  have f2 := ho.free 2
  have H := Lib.hid ho; clear ho
  simp only [List.getElem?_cons_zero, List.getElem?_cons_succ] at c0 c1 c2
  go_enter Try.func14, Try.ntmps14
  go_wp2_with (go_at_call 21; refine (within_in _ _ _ _ h1 h2).mono ?_; rintro e w' ⟨rfl, rfl⟩)
  go_region
  all_goals go_wp2
  all_goals go_region
  all_goals go_wp2
  all_goals (go_ret; refine ⟨rfl, Tim.drew (Tim.set2 (Tim.set0 (Tim.drew (Tim.set1 H.out ?_)) ?_) ?_), grown_drew (grown_set (grown_set (grown_drew (grown_set (grown_refl _ _) _ _)) _ _) _ _)⟩ <;> first | omega | (rw [show max (s - n) (n - s) = n - s from by omega]; omega) | (rw [show max (s - n) (n - s) = s - n from by omega]; omega))

/-- What a timer may hold: nothing is known, or a guess and a spread in their bounds. -/
def TimOk (s p t : Int) : Prop := ((s = -1 ∧ p = 0) ∨ (0 ≤ s ∧ s ≤ 100000 ∧ 0 ≤ p ∧ p ≤ 100000)) ∧ 1 ≤ t ∧ t ≤ 100000
/-- What Take makes of the three. -/
def rS (s n : Int) : Int := if s < 0 then n else (7 * s + n) / 8
def rP (s p n : Int) : Int := if s < 0 then n / 2 else (3 * p + max (s - n) (n - s)) / 4
def rT (s p n : Int) : Int := min (rS s n + max 1 (4 * rP s p n)) 100000

theorem take_yes (b : Nat) (s p t n : Int) (w : World) (ho : Tim w b s p t) (hk : TimOk s p t) (h1 : 0 ≤ n) (h2 : n ≤ 100000) : Calls Try.prog 14 #[.pointer (some ⟨b, 0, none⟩), .int .i64 n] w fun e w' => e = .returned .nilIface ∧
    Tim w' b (rS s n) (rP s p n) (rT s p n) ∧ w.grownBy w' (some b) := by
  obtain ⟨⟨rfl, rfl⟩ | ⟨hs, hs2, hp, hp2⟩, ht, ht2⟩ := hk
  · exact take_first b (-1) 0 t n w ho (by omega) h1 h2
  · have := take_next b s p t n w ho hs hs2 hp hp2 h1 h2
    have e1 : rS s n = (7 * s + n) / 8 := by unfold rS; rw [if_neg (by omega)]
    have e2 : rP s p n = (3 * p + max (s - n) (n - s)) / 4 := by unfold rP; rw [if_neg (by omega)]
    unfold rT
    rw [e1, e2]; exact this

theorem tim_new : TimOk (-1) 0 1 := by unfold TimOk; omega
theorem tim_step {s p t n : Int} (hk : TimOk s p t) (h1 : 0 ≤ n) (h2 : n ≤ 100000) : TimOk (rS s n) (rP s p n) (rT s p n) := by
  unfold TimOk at hk ⊢
  unfold rT rS rP
  rcases Int.lt_or_le s 0 with h | h
  · simp only [if_pos h]; omega
  · simp only [if_neg (Int.not_lt.2 h)]
    have hm : 0 ≤ max (s - n) (n - s) ∧ max (s - n) (n - s) ≤ 100000 := by omega
    generalize max (s - n) (n - s) = m at *
    omega

end Go.Proofs.Ytmmoolcnpbebhaa
