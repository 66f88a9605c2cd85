/- The contracts of reno.Flow. -/
import Derived.Test.YtkpflghhmnkjmaaCore
namespace Go.Proofs.Ytkpflghhmnkjmaa
open Go.RowKit
set_option linter.unusedSimpArgs false
set_option linter.unusedVariables false

/-- A flow in block b: window, where it grows slowly, count. -/
def Flw (w : World) (b : Nat) (x s c : Int) : Prop := Obj w b 46 [.int .i64 x, .int .i64 s, .int .i64 c]
theorem Flw.set0 {w : World} {b : Nat} {x s c : Int} (h : Flw w b x s c) {u v : Int} (e : u = v) : Flw (w.setCell ⟨b, 0, none⟩ (.int .i64 u)) b v s c := by
  subst e; exact Obj.set h 0 _
theorem Flw.set1 {w : World} {b : Nat} {x s c : Int} (h : Flw w b x s c) {u v : Int} (e : u = v) : Flw (w.setCell ⟨b, 1, none⟩ (.int .i64 u)) b x v c := by
  subst e; exact Obj.set h 1 _
theorem Flw.set2 {w : World} {b : Nat} {x s c : Int} (h : Flw w b x s c) {u v : Int} (e : u = v) : Flw (w.setCell ⟨b, 2, none⟩ (.int .i64 u)) b x s v := by
  subst e; exact Obj.set h 2 _
theorem Flw.drewN {w : World} {b : Nat} {x s c : Int} (h : Flw w b x s c) (n : Nat) : Flw (w.drewN n) b x s c := h

theorem rnew_any (w : World) : Calls Try.prog 7 #[] w fun e w' => e = .returned (.pointer (some ⟨w.heap.size, 0, none⟩)) ∧ Flw w' w.heap.size 1 1000 0 ∧ w.grownBy w' none := by
  go_enter Try.func7, Try.ntmps7
  go_wp2
  go_ret
  exact ⟨rfl, Obj.new _ _ _, World.grownBy_alloc _ _ _⟩

theorem window_any (b : Nat) (x s c : Int) (w : World) (ho : Flw w b x s c) : Calls Try.prog 8 #[.pointer (some ⟨b, 0, none⟩)] w fun e w' => e = .returned (.tuple #[.int .i64 x, .int .i64 s]) ∧ ∃ n, w' = w.drewN n := by
  have c0 := ho.cell 0
  have c1 := ho.cell 1
  clear ho
  simp only [List.getElem?_cons_zero, List.getElem?_cons_succ] at c0 c1
  go_enter Try.func8, Try.ntmps8
  go_wp2
  go_quiet (fail)
  go_wp2
  go_ret2
  exact ⟨rfl, _, rfl⟩

/-- What a flow may hold. -/
structure RnOk (x s c : Int) : Prop where
  x0 : 1 ≤ x
  x1 : x ≤ 1000
  s0 : 2 ≤ s
  s1 : s ≤ 1000
  c0 : 0 ≤ c
  c1 : c < x
/-- What Told makes of window and count. -/
def tX (x s c : Int) : Int := if x = 1000 then x else if x < s then x + 1 else if c + 1 = x then x + 1 else x
def tC (x s c : Int) : Int := if x = 1000 then c else if x < s then c else if c + 1 = x then 0 else c + 1
theorem told_ok {x s c : Int} (h : RnOk x s c) : RnOk (tX x s c) s (tC x s c) := by
  obtain ⟨h1, h2, h3, h4, h5, h6⟩ := h
  unfold tX tC
  constructor <;> (repeat' split) <;> omega

set_option maxHeartbeats 1000000 in
theorem told_any (b : Nat) (x s c : Int) (w : World) (ho : Flw w b x s c) (hk : RnOk x s c) : Calls Try.prog 13 #[.pointer (some ⟨b, 0, none⟩)] w fun e w' => e = .returned (.tuple #[]) ∧ Flw w' b (tX x s c) s (tC x s c) ∧ w.grownBy w' (some b) := by
  have c0 := ho.cell 0
  have c1 := ho.cell 1
  have c2 := ho.cell 2
  have f0 := ho.free 0
  have f2 := ho.free 2
  have H := Lib.hid ho; clear ho
  simp only [List.getElem?_cons_zero, List.getElem?_cons_succ] at c0 c1 c2
  obtain ⟨k1, k2, k3, k4, k5, k6⟩ := hk
  unfold tX tC
  by_cases h1 : x = 1000
  · subst h1
    rw [if_pos rfl, if_pos rfl]
    go_enter Try.func13, Try.ntmps13
    go_wp2
    go_returns
    exact ⟨rfl, H.out, grown_refl _ _⟩
  · rw [if_neg h1, if_neg h1]
    have g1 : (x == 1000) = false := by simpa using h1
    have hlt : x < 1000 := by omega
    clear h1
    by_cases h2 : x < s
    · rw [if_pos h2, if_pos h2]
      go_enter Try.func13, Try.ntmps13
      go_wp2
      go_quiet (fail)
      go_wp2
      go_returns
      exact ⟨rfl, Flw.set0 (Flw.drewN H.out _) rfl, grown_set (grown_drewN (grown_refl _ _) _) _ _⟩
    · rw [if_neg h2, if_neg h2]
      have h2' : s ≤ x := by omega
      clear h2
      by_cases h3 : c + 1 = x
      · rw [if_pos h3, if_pos h3]
        have g3 : (c + 1 == x) = true := by simpa using h3
        have H3 := Lib.hid h3; clear h3
        go_enter Try.func13, Try.ntmps13
        go_wp2
        go_quiet (fail)
        go_wp2
        go_quiet (fail)
        go_wp2
        go_returns
        exact ⟨rfl, Flw.set0 (Flw.set2 (Flw.drewN (Flw.set2 (Flw.drewN H.out _) rfl) _) rfl) rfl, grown_set (grown_set (grown_drewN (grown_set (grown_drewN (grown_refl _ _) _) _ _) _) _ _) _ _⟩
      · rw [if_neg h3, if_neg h3]
        have g3 : (c + 1 == x) = false := by simpa using h3
        clear h3
        go_enter Try.func13, Try.ntmps13
        go_wp2
        go_quiet (fail)
        go_wp2
        go_quiet (fail)
        go_wp2
        go_returns
        exact ⟨rfl, Flw.drewN (Flw.set2 (Flw.drewN H.out _) rfl) _, grown_drewN (grown_set (grown_drewN (grown_refl _ _) _) _ _) _⟩

theorem half_any (b : Nat) (x s c : Int) (w : World) (ho : Flw w b x s c) (h1 : 1 ≤ x) (h2 : x ≤ 1000) : Calls Try.prog 21 #[.pointer (some ⟨b, 0, none⟩)] w fun e w' => e = .returned (.int .i64 (max 2 (x / 2))) ∧ w = w' := by
  have c0 := ho.cell 0
  clear ho
  simp only [List.getElem?_cons_zero, List.getElem?_cons_succ] at c0
  by_cases h : 2 < x / 2
  all_goals
    go_enter Try.func21, Try.ntmps21
    go_wp2
    go_returns
    exact ⟨ret_int (by omega), rfl⟩

/-- Half of a window. -/
def hlf (x : Int) : Int := max 2 (x / 2)
theorem lost_any (b : Nat) (x s c : Int) (w : World) (ho : Flw w b x s c) (h1 : 1 ≤ x) (h2 : x ≤ 1000) : Calls Try.prog 14 #[.pointer (some ⟨b, 0, none⟩)] w fun e w' => e = .returned (.tuple #[]) ∧ Flw w' b (hlf x) (hlf x) 0 ∧ w.grownBy w' (some b) := by
  have c0 := ho.cell 0
  have c1 := ho.cell 1
  have c2 := ho.cell 2
  have f0 := ho.free 0
  have f1 := ho.free 1
  have f2 := ho.free 2
  have H := Lib.hid ho; clear ho
  have C := Lib.hid (fun w' ho => half_any b x s c w' ho h1 h2)
  rw [show max 2 (x / 2) = hlf x from rfl] at C
  simp only [List.getElem?_cons_zero, List.getElem?_cons_succ] at c0 c1 c2
  generalize hlf x = y at *
  go_enter Try.func14, Try.ntmps14
  go_wp2_with fail
  refine (C.out _ H.out).mono ?_
  rintro e w' ⟨rfl, rfl⟩
  go_wp2
  go_returns
  exact ⟨rfl, Flw.set2 (Flw.set0 (Flw.set1 H.out rfl) rfl) rfl, grown_set (grown_set (grown_set (grown_refl _ _) _ _) _ _) _ _⟩
theorem rlate_any (b : Nat) (x s c : Int) (w : World) (ho : Flw w b x s c) (h1 : 1 ≤ x) (h2 : x ≤ 1000) : Calls Try.prog 15 #[.pointer (some ⟨b, 0, none⟩)] w fun e w' => e = .returned (.tuple #[]) ∧ Flw w' b 1 (hlf x) 0 ∧ w.grownBy w' (some b) := by
  have f0 := ho.free 0
  have f1 := ho.free 1
  have f2 := ho.free 2
  have c0 := ho.cell 0
  have c1 := ho.cell 1
  have c2 := ho.cell 2
  have H := Lib.hid ho; clear ho
  have C := Lib.hid (fun w' ho => half_any b x s c w' ho h1 h2)
  rw [show max 2 (x / 2) = hlf x from rfl] at C
  simp only [List.getElem?_cons_zero, List.getElem?_cons_succ] at c0 c1 c2
  generalize hlf x = y at *
  go_enter Try.func15, Try.ntmps15
  go_wp2_with fail
  refine (C.out _ H.out).mono ?_
  rintro e w' ⟨rfl, rfl⟩
  go_wp2
  go_returns
  exact ⟨rfl, Flw.set2 (Flw.set0 (Flw.set1 H.out rfl) rfl) rfl, grown_set (grown_set (grown_set (grown_refl _ _) _ _) _ _) _ _⟩
theorem hlf_ok {x : Int} (h1 : 1 ≤ x) (h2 : x ≤ 1000) : 2 ≤ hlf x ∧ hlf x ≤ 1000 := by unfold hlf; omega
theorem lost_ok {x : Int} (h1 : 1 ≤ x) (h2 : x ≤ 1000) : RnOk (hlf x) (hlf x) 0 := by
  have := hlf_ok h1 h2; constructor <;> omega
theorem rlate_ok {x : Int} (h1 : 1 ≤ x) (h2 : x ≤ 1000) : RnOk 1 (hlf x) 0 := by
  have := hlf_ok h1 h2; constructor <;> omega

/-- n rounds of Told. -/
def nTold : Nat → Int × Int → Int → Int × Int
  | 0, p, _ => p
  | n + 1, p, s => nTold n (tX p.1 s p.2, tC p.1 s p.2) s
end Go.Proofs.Ytkpflghhmnkjmaa
