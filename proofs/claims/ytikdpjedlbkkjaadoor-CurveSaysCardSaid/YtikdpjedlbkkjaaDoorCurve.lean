/- The contracts of package curve: Check, both. -/
import Derived.Test.YtikdpjedlbkkjaaDoorAll
import Derived.Test.YtikdpjedlbkkjaaDoorInts
import Derived.Test.YtikdpjedlbkkjaaDoorCurvePlain
import Derived.Test.YtikdpjedlbkkjaaDoorCel
import Derived.Test.YtikdpjedlbkkjaaDoorLit
namespace Go.Proofs.YtikdpjedlbkkjaaDoor
open Go.RowKit
set_option linter.unusedSimpArgs false
set_option linter.unusedVariables false

theorem nan_any (x : Int) (w : World) : Calls Tryd.prog 34 #[.int .i64 x] w fun e w' => e = .returned (.bool false) ∧ w = w' := by
  go_enter Tryd.func34, Tryd.ntmps34
  go_wp2
  go_ret
  exact ⟨by simp, rfl⟩
theorem less_yes (x y : Int) (w : World) (h : x < y) : Calls Tryd.prog 28 #[.int .i64 x, .int .i64 y] w fun e w' => e = .returned (.bool true) ∧ w = w' := by
  go_enter Tryd.func28, Tryd.ntmps28
  go_wp2_with fail
  refine (nan_any _ _).mono ?_
  rintro e w' ⟨rfl, rfl⟩
  go_wp2
  go_ret
  exact ⟨by simp [h], rfl⟩
theorem less_no (x y : Int) (w : World) (h : y ≤ x) : Calls Tryd.prog 28 #[.int .i64 x, .int .i64 y] w fun e w' => e = .returned (.bool false) ∧ w = w' := by
  go_enter Tryd.func28, Tryd.ntmps28
  go_wp2_with fail
  refine (nan_any _ _).mono ?_
  rintro e w' ⟨rfl, rfl⟩
  go_wp2
  go_ret
  exact ⟨by simp; try omega, rfl⟩

/-- Drawn from. -/
def Drawn (w w' : World) : Prop := ∃ m, w' = w.drewN m
theorem Drawn.refl (w : World) : Drawn w w := ⟨0, rfl⟩
theorem Drawn.more {w w' : World} (h : Drawn w w') (n : Nat) : Drawn w (w'.drewN n) := by
  obtain ⟨m, rfl⟩ := h; exact ⟨m + n, World.drewN_drewN _ _ _⟩
theorem Drawn.drew {w w' : World} (h : Drawn w w') : Drawn w w'.drew := h.more 1
theorem Drawn.cell {w w' : World} (h : Drawn w w') {a : Addr} {v : Option Value} (hc : w.cell? a = v) : w'.cell? a = v := by
  obtain ⟨m, rfl⟩ := h; exact hc
theorem Drawn.own {w w' : World} (h : Drawn w w') {b : Nat} {v : Value} {e size n : Nat} {xs : List Value} (ho : w.ownsRow b e size v n xs) : w'.ownsRow b e size v n xs := by
  obtain ⟨m, rfl⟩ := h; exact ho
theorem Drawn.below {B : Nat} {w w' : World} (h : Drawn w w') : Below B w w' := by
  obtain ⟨m, rfl⟩ := h; exact below_drewN (Below.refl _ _) m

theorem sorted_yes (a : Option Addr) (len cap : Nat) (zs : List Int) (B : Nat) (w : World) (hI : Ints w B a len zs) (h1 : 1 ≤ len) (h : ∀ k, k + 1 < len → zs.getD k 0 ≤ zs.getD (k + 1) 0) :
    Calls Tryd.prog 19 #[.slice a len cap] w fun e w' => e = .returned (.bool true) ∧ ∃ n, w' = w.drewN n := by
  have hroom := hI.room
  have HI := Lib.hid hI; clear hI
  have HH := Lib.hid h; clear h
  go_enter Tryd.func19, Tryd.ntmps19
  go_wp2_with fail
  go_loopw [3] (fun v2 wr => ∃ k : Nat, k < len ∧ v2 = .int .i64 k ∧ Drawn w wr) (fun v2 _ => (intOf v2).toNat)
  case atStart => exact ⟨len - 1, by omega, by go_num, Drawn.refl _⟩
  case round =>
    obtain ⟨k, hk, rfl, hdw⟩ := hrel
    have HW := Lib.hid hdw; clear hdw
    by_cases hz : k = 0
    · subst hz
      go_wp2
      go_ret
      exact ⟨rfl, HW.out⟩
    · obtain ⟨j, rfl⟩ : ∃ j, k = j + 1 := ⟨k - 1, by omega⟩
      clear hz
      obtain ⟨b, off, he, _, hc⟩ := HI.out.cell (j + 1) hk
      subst he
      obtain ⟨b', off', he, _, hc2⟩ := HI.out.cell j (by omega)
      simp only [Option.some.injEq, Addr.mk.injEq, and_true] at he
      obtain ⟨rfl, rfl⟩ := he
      have hc := HW.out.cell hc
      have hc2 := HW.out.cell hc2
      have hle := HH.out j hk
      generalize zs.getD (j + 1) 0 = x at *
      generalize zs.getD j 0 = y at *
      have q1 : (0 : Int) ≤ (j : Int) + 1 := by omega
      have q2 : (j : Int) + 1 < (len : Int) := by omega
      have q3 : (0 : Int) ≤ (j : Int) := by omega
      have q4 : (j : Int) < (len : Int) := by omega
      have q5 : IntKind.i64.wrap (j : Int) = (j : Int) := IntWalk.i64_in _ (by omega)
      go_wp2_with fail
      go_quiet ((go_at_call 28; exact Calls.quiet_of_same ((less_no _ _ _ hle).mono fun _ _ h => ⟨h.1, h.2.symm⟩)))
      go_wp2_with fail
      go_roundw
      case rel => exact ⟨j, by omega, by go_num, HW.out.more _⟩
      case measure => simp [intOf] <;> omega
theorem sorted_no (a : Option Addr) (len cap : Nat) (zs : List Int) (B : Nat) (w : World) (hI : Ints w B a len zs) (h1 : 1 ≤ len) (h : ∃ k, k + 1 < len ∧ zs.getD (k + 1) 0 < zs.getD k 0) :
    Calls Tryd.prog 19 #[.slice a len cap] w fun e w' => e = .returned (.bool false) ∧ ∃ n, w' = w.drewN n := by
  have hroom := hI.room
  have HI := Lib.hid hI; clear hI
  have HH := Lib.hid h; clear h
  go_enter Tryd.func19, Tryd.ntmps19
  go_wp2_with fail
  go_loopw [3] (fun v2 wr => ∃ k : Nat, k < len ∧ v2 = .int .i64 k ∧ Drawn w wr ∧ Hid (∀ j, k ≤ j → j + 1 < len → zs.getD j 0 ≤ zs.getD (j + 1) 0)) (fun v2 _ => (intOf v2).toNat)
  case atStart => exact ⟨len - 1, by omega, by go_num, Drawn.refl _, fun j h1 h2 => by omega⟩
  case round =>
    obtain ⟨k, hk, rfl, hdw, HK⟩ := hrel
    have HW := Lib.hid hdw; clear hdw
    by_cases hz : k = 0
    · exfalso
      obtain ⟨j, hj, hl⟩ := HH.out
      have := HK.out j (by omega) hj
      omega
    · obtain ⟨j, rfl⟩ : ∃ j, k = j + 1 := ⟨k - 1, by omega⟩
      clear hz
      obtain ⟨b, off, he, _, hc⟩ := HI.out.cell (j + 1) hk
      subst he
      obtain ⟨b', off', he, _, hc2⟩ := HI.out.cell j (by omega)
      simp only [Option.some.injEq, Addr.mk.injEq, and_true] at he
      obtain ⟨rfl, rfl⟩ := he
      have hc := HW.out.cell hc
      have hc2 := HW.out.cell hc2
      have q1 : (0 : Int) ≤ (j : Int) + 1 := by omega
      have q2 : (j : Int) + 1 < (len : Int) := by omega
      have q3 : (0 : Int) ≤ (j : Int) := by omega
      have q4 : (j : Int) < (len : Int) := by omega
      have q5 : IntKind.i64.wrap (j : Int) = (j : Int) := IntWalk.i64_in _ (by omega)
      by_cases hle : zs.getD j 0 ≤ zs.getD (j + 1) 0
      · have HK2 : Hid (∀ i, j ≤ i → i + 1 < len → zs.getD i 0 ≤ zs.getD (i + 1) 0) := fun i h1 h2 => by
          rcases Nat.lt_or_ge j i with h | h
          · exact HK.out i (by omega) h2
          · obtain rfl : i = j := by omega
            exact hle
        generalize zs.getD (j + 1) 0 = x at hle hc
        generalize zs.getD j 0 = y at hle hc2
        go_wp2_with fail
        go_quiet ((go_at_call 28; exact Calls.quiet_of_same ((less_no _ _ _ hle).mono fun _ _ h => ⟨h.1, h.2.symm⟩)))
        go_wp2_with fail
        go_roundw
        case rel => exact ⟨j, by omega, by go_num, HW.out.more _, HK2⟩
        case measure => simp [intOf] <;> omega
      · have hlt : zs.getD (j + 1) 0 < zs.getD j 0 := by omega
        clear hle
        generalize zs.getD (j + 1) 0 = x at hlt hc
        generalize zs.getD j 0 = y at hlt hc2
        go_wp2_with fail
        go_quiet ((go_at_call 28; exact Calls.quiet_of_same ((less_yes _ _ _ hlt).mono fun _ _ h => ⟨h.1, h.2.symm⟩)))
        go_wp2_with fail
        go_ret
        exact ⟨rfl, HW.out.more _⟩

/-- What is wrong with a curve: the number of the error, 0 for none. -/
noncomputable def cvE (zs : List Int) : Int := if zs.length = 0 then 5 else if 16 < zs.length then 4 else
  @ite _ (∃ k, k < zs.length ∧ (zs.getD k 0 < 0 ∨ 1000 < zs.getD k 0)) (Classical.propDecidable _) 1
    (@ite _ (∃ k, k + 1 < zs.length ∧ zs.getD (k + 1) 0 < zs.getD k 0) (Classical.propDecidable _) 3 0)
def cvErr (n : Int) : Value := if n = 0 then .nilIface else errV n
/-- A good curve. -/
structure Curve (zs : List Int) : Prop where
  some : 1 ≤ zs.length
  few : zs.length ≤ 16
  fits : ∀ k, k < zs.length → 0 ≤ zs.getD k 0 ∧ zs.getD k 0 ≤ 1000
  rise : ∀ k, k + 1 < zs.length → zs.getD k 0 ≤ zs.getD (k + 1) 0
theorem cv_cases (zs : List Int) : (zs.length = 0 ∧ cvE zs = 5) ∨ (16 < zs.length ∧ cvE zs = 4) ∨
    (1 ≤ zs.length ∧ zs.length ≤ 16 ∧ (∃ k, k < zs.length ∧ (zs.getD k 0 < 0 ∨ 1000 < zs.getD k 0)) ∧ cvE zs = 1) ∨
    (1 ≤ zs.length ∧ zs.length ≤ 16 ∧ (∀ k, k < zs.length → 0 ≤ zs.getD k 0 ∧ zs.getD k 0 ≤ 1000) ∧ (∃ k, k + 1 < zs.length ∧ zs.getD (k + 1) 0 < zs.getD k 0) ∧ cvE zs = 3) ∨
    (Curve zs ∧ cvE zs = 0) := by
  unfold cvE
  by_cases h1 : zs.length = 0
  · left; rw [if_pos h1]; exact ⟨h1, rfl⟩
  rw [if_neg h1]
  by_cases h2 : 16 < zs.length
  · right; left; rw [if_pos h2]; exact ⟨h2, rfl⟩
  rw [if_neg h2]
  by_cases h3 : ∃ k, k < zs.length ∧ (zs.getD k 0 < 0 ∨ 1000 < zs.getD k 0)
  · right; right; left
    exact ⟨by omega, by omega, h3, by rw [if_pos h3]⟩
  have h3' : ∀ k, k < zs.length → 0 ≤ zs.getD k 0 ∧ zs.getD k 0 ≤ 1000 := fun k hk => by
    by_cases hz : zs.getD k 0 < 0 ∨ 1000 < zs.getD k 0
    · exact absurd ⟨k, hk, hz⟩ h3
    · omega
  rw [if_neg h3]
  by_cases h4 : ∃ k, k + 1 < zs.length ∧ zs.getD (k + 1) 0 < zs.getD k 0
  · right; right; right; left
    exact ⟨by omega, by omega, h3', h4, by rw [if_pos h4]⟩
  · right; right; right; right
    refine ⟨⟨by omega, by omega, h3', fun k hk => ?_⟩, by rw [if_neg h4]⟩
    by_cases hz : zs.getD (k + 1) 0 < zs.getD k 0
    · exact absurd ⟨k, hk, hz⟩ h4
    · omega
theorem cv_zero {zs : List Int} (h : cvE zs = 0) : Curve zs := by
  rcases cv_cases zs with ⟨_, e⟩ | ⟨_, e⟩ | ⟨_, _, _, e⟩ | ⟨_, _, _, _, e⟩ | ⟨h1, _⟩
  · omega
  · omega
  · omega
  · omega
  · exact h1
theorem cv_mk {zs : List Int} (h : Curve zs) : cvE zs = 0 := by
  rcases cv_cases zs with ⟨h1, e⟩ | ⟨h1, e⟩ | ⟨_, _, ⟨k, hk, h1⟩, e⟩ | ⟨_, _, _, ⟨k, hk, h1⟩, e⟩ | ⟨_, e⟩
  · have := h.some; omega
  · have := h.few; omega
  · have := h.fits k hk; omega
  · have := h.rise k hk; omega
  · exact e
theorem Curve.mono {zs : List Int} (h : Curve zs) : Cv.Mono zs.length (fun k => zs.getD k 0) := by
  intro i j hij hj
  induction j with
  | zero => obtain rfl : i = 0 := by omega
            exact Int.le_refl _
  | succ j ih =>
    rcases Nat.lt_or_ge j i with h1 | h1
    · obtain rfl : i = j + 1 := by omega
      exact Int.le_refl _
    · have h2 := ih h1 (by omega)
      have h3 := h.rise j hj
      simp only at h2 ⊢
      omega

theorem cvcheck_any (a : Option Addr) (len cap : Nat) (zs : List Int) (B : Nat) (w : World) (hI : Ints w B a len zs) :
    Calls Tryd.prog 5 #[.slice a len cap] w fun e w' => e = .returned (cvErr (cvE zs)) ∧ ∃ n, w' = w.drewN n := by
  have hlz := hI.size
  have hroom := hI.room
  rcases cv_cases zs with ⟨h1, he⟩ | ⟨h1, he⟩ | ⟨h1, h2, h3, he⟩ | ⟨h1, h2, h3, h4, he⟩ | ⟨h1, he⟩
  all_goals
    rw [he]
    clear he
  · rw [hlz] at h1
    subst h1
    clear hlz hI
    go_enter Tryd.func5, Tryd.ntmps5
    go_wp2
    go_ret
    exact ⟨rfl, 0, rfl⟩
  · rw [hlz] at h1
    clear hlz hI
    go_enter Tryd.func5, Tryd.ntmps5
    go_wp2
    go_ret
    exact ⟨rfl, 0, rfl⟩
  · rw [hlz] at h1 h2 h3
    have HI := Lib.hid hI; clear hI hlz
    have HH := Lib.hid h3; clear h3
    go_enter Tryd.func5, Tryd.ntmps5
    go_wp2_with fail
    refine (all_no _ _ _ _ _ _ _ _ HI.out HH.out).mono ?_
    rintro e w' ⟨rfl, rfl⟩
    go_wp2
    go_ret
    exact ⟨rfl, 0, rfl⟩
  · rw [hlz] at h1 h2 h3 h4
    have HI := Lib.hid hI; clear hI hlz
    have HH := Lib.hid h3; clear h3
    have HR := Lib.hid h4; clear h4
    go_enter Tryd.func5, Tryd.ntmps5
    go_wp2_with fail
    refine (all_yes _ _ _ _ _ _ _ _ HI.out HH.out).mono ?_
    rintro e w' ⟨rfl, rfl⟩
    go_wp2_with fail
    refine (sorted_no _ _ _ _ _ _ HI.out h1 HR.out).mono ?_
    rintro e w' ⟨rfl, m, rfl⟩
    go_wp2
    go_ret
    exact ⟨rfl, _, rfl⟩
  · have h2 := h1.some
    have h3 := h1.few
    have HH : Hid (∀ k, k < len → 0 ≤ zs.getD k 0 ∧ zs.getD k 0 ≤ 1000) := by rw [← hlz]; exact h1.fits
    have HR : Hid (∀ k, k + 1 < len → zs.getD k 0 ≤ zs.getD (k + 1) 0) := by rw [← hlz]; exact h1.rise
    rw [hlz] at h2 h3
    have HI := Lib.hid hI; clear hI hlz h1
    go_enter Tryd.func5, Tryd.ntmps5
    go_wp2_with fail
    refine (all_yes _ _ _ _ _ _ _ _ HI.out HH.out).mono ?_
    rintro e w' ⟨rfl, rfl⟩
    go_wp2_with fail
    refine (sorted_yes _ _ _ _ _ _ HI.out h2 HR.out).mono ?_
    rintro e w' ⟨rfl, m, rfl⟩
    go_wp2
    go_ret
    exact ⟨rfl, _, rfl⟩

noncomputable def bothE (fs gs : List Int) : Int := if cvE fs ≠ 0 then cvE fs else if cvE gs ≠ 0 then cvE gs else if fs.length ≠ gs.length then 3 else 0
theorem both_zero {fs gs : List Int} (h : bothE fs gs = 0) : Curve fs ∧ Curve gs ∧ fs.length = gs.length := by
  unfold bothE at h
  by_cases h1 : cvE fs = 0
  · rw [if_neg (by simpa using h1)] at h
    by_cases h2 : cvE gs = 0
    · rw [if_neg (by simpa using h2)] at h
      by_cases h3 : fs.length = gs.length
      · exact ⟨cv_zero h1, cv_zero h2, h3⟩
      · rw [if_pos h3] at h; omega
    · rw [if_pos h2] at h; exact absurd h h2
  · rw [if_pos h1] at h; exact absurd h h1
theorem both_mk {fs gs : List Int} (h1 : Curve fs) (h2 : Curve gs) (h3 : fs.length = gs.length) : bothE fs gs = 0 := by
  unfold bothE
  rw [if_neg (by simpa using cv_mk h1), if_neg (by simpa using cv_mk h2), if_neg (by simpa using h3)]

theorem cvboth_any (a b : Option Addr) (la ca lb cb : Nat) (fs gs : List Int) (B1 B2 : Nat) (w : World) (hF : Ints w B1 a la fs) (hG : Ints w B2 b lb gs) :
    Calls Tryd.prog 23 #[.slice a la ca, .slice b lb cb] w fun e w' => e = .returned (cvErr (bothE fs gs)) ∧ ∃ n, w' = w.drewN n := by
  have hf := hF.size
  have hg := hG.size
  have C := Lib.hid (cvcheck_any a la ca fs B1 w hF)
  have D := Lib.hid (fun n => cvcheck_any b lb cb gs B2 (w.drewN n) (hG.below (below_drewN (Below.refl _ _) n)))
  clear hF hG
  unfold bothE
  by_cases h1 : cvE fs = 0
  · rw [if_neg (by simpa using h1)]
    rw [h1] at C
    by_cases h2 : cvE gs = 0
    · rw [if_neg (by simpa using h2)]
      rw [h2] at D
      have e0 : cvErr 0 = .nilIface := rfl
      rw [e0] at C D
      clear e0 h1 h2
      by_cases h3 : la = lb
      · rw [if_neg (by omega)]
        subst h3
        clear hf hg
        have hne : ((la : Int) != (la : Int)) = false := by simp
        go_enter Tryd.func23, Tryd.ntmps23
        go_wp2_with fail
        refine C.out.mono ?_
        rintro e w' ⟨rfl, m, rfl⟩
        go_wp2_with fail
        refine (D.out m).mono ?_
        rintro e w' ⟨rfl, m2, rfl⟩
        go_wp2
        go_ret
        exact ⟨rfl, _, rfl⟩
      · rw [if_pos (by omega)]
        have hne : ((la : Int) != (lb : Int)) = true := by simp; omega
        clear hf hg h3
        go_enter Tryd.func23, Tryd.ntmps23
        go_wp2_with fail
        refine C.out.mono ?_
        rintro e w' ⟨rfl, m, rfl⟩
        go_wp2_with fail
        refine (D.out m).mono ?_
        rintro e w' ⟨rfl, m2, rfl⟩
        go_wp2
        go_ret
        exact ⟨rfl, _, rfl⟩
    · rw [if_pos h2]
      have e0 : cvErr 0 = .nilIface := rfl
      have e1 : cvErr (cvE gs) = errV (cvE gs) := if_neg h2
      rw [e0] at C
      rw [e1] at D ⊢
      clear e0 e1 h1 h2
      generalize cvE gs = n at *
      go_enter Tryd.func23, Tryd.ntmps23
      go_wp2_with fail
      refine C.out.mono ?_
      rintro e w' ⟨rfl, m, rfl⟩
      go_wp2_with fail
      refine (D.out m).mono ?_
      rintro e w' ⟨rfl, m2, rfl⟩
      go_wp2
      go_ret
      exact ⟨rfl, _, rfl⟩
  · rw [if_pos h1]
    have e1 : cvErr (cvE fs) = errV (cvE fs) := if_neg h1
    rw [e1] at C ⊢
    clear e1 h1
    generalize cvE fs = n at *
    go_enter Tryd.func23, Tryd.ntmps23
    go_wp2_with fail
    refine C.out.mono ?_
    rintro e w' ⟨rfl, m, rfl⟩
    go_wp2
    go_ret
    exact ⟨rfl, _, rfl⟩
end Go.Proofs.YtikdpjedlbkkjaaDoor
