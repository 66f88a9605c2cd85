/- The reference's Curve and Curves. -/
import Derived.Test.YtikdpjedlbkkjaaDoorCurveD
import Derived.Test.YtikdpjedlbkkjaaDoorRAll
namespace Go.Proofs.YtikdpjedlbkkjaaDoor
open Go.RowKit
set_option linter.unusedSimpArgs false
set_option linter.unusedVariables false

theorem mcurve_any (a : Option Addr) (len cap : Nat) (zs : List Int) (B : Nat) (w : World) (hI : Ints w B a len zs) :
    Calls Tryd.prog 6 #[.slice a len cap] w fun e w' => e = .returned (.int .i64 (cvE zs)) ∧ Drawn w w' := by
  have hlz := hI.size
  have hroom := hI.room
  rcases cv_cases zs with ⟨h1, he⟩ | ⟨h1, he⟩ | ⟨h1, h2, h3, he⟩ | ⟨h1, h2, h3, h4, he⟩ | ⟨h1, he⟩
  all_goals
    rw [he]
    clear he
  · rw [hlz] at h1
    subst h1
    clear hlz hI
    go_enter Tryd.func6, Tryd.ntmps6
    go_wp2
    go_ret
    exact ⟨rfl, Drawn.refl _⟩
  · rw [hlz] at h1
    clear hlz hI
    go_enter Tryd.func6, Tryd.ntmps6
    go_wp2
    go_ret
    exact ⟨rfl, Drawn.refl _⟩
  · rw [hlz] at h1 h2 h3
    have HI := Lib.hid hI; clear hI hlz
    have HH := Lib.hid h3; clear h3
    go_enter Tryd.func6, Tryd.ntmps6
    go_wp2_with fail
    refine (rall_no _ _ _ _ _ _ _ _ HI.out HH.out).mono ?_
    rintro e w' ⟨rfl, rfl⟩
    go_wp2
    go_ret
    exact ⟨rfl, Drawn.refl _⟩
  · rw [hlz] at h1 h2 h3 h4
    have HI := Lib.hid hI; clear hI hlz
    have HH := Lib.hid h3; clear h3
    have HR := Lib.hid h4; clear h4
    go_enter Tryd.func6, Tryd.ntmps6
    go_wp2_with fail
    refine (rall_yes _ _ _ _ _ _ _ _ HI.out HH.out).mono ?_
    rintro e w' ⟨rfl, rfl⟩
    go_wp2_with fail
    go_loopw [3] (fun v3 wr => ∃ k : Nat, 1 ≤ k ∧ k ≤ len ∧ v3 = .int .i64 k ∧ Drawn w wr ∧ Hid (∀ j, j + 1 < k → zs.getD j 0 ≤ zs.getD (j + 1) 0)) (fun v3 _ => len - (intOf v3).toNat)
    case atStart => exact ⟨1, by omega, by omega, rfl, Drawn.refl _, fun j h => by omega⟩
    case round =>
      obtain ⟨k, hk1, hk, rfl, hdw, HK⟩ := hrel
      have HW := Lib.hid hdw; clear hdw
      by_cases hlt : k < len
      · obtain ⟨b, off, he, _, hc⟩ := HI.out.cell k hlt
        subst he
        obtain ⟨b', off', he, _, hc2⟩ := HI.out.cell (k - 1) (by omega)
        simp only [Option.some.injEq, Addr.mk.injEq, and_true] at he
        obtain ⟨rfl, rfl⟩ := he
        have hc := HW.out.cell hc
        have hc2 := HW.out.cell hc2
        have q1 : (0 : Int) ≤ (k : Int) := by omega
        have q2 : (k : Int) < (len : Int) := by omega
        have q3 : (0 : Int) ≤ (k : Int) - 1 := by omega
        have q4 : (k : Int) - 1 < (len : Int) := by omega
        have q5 : ((k : Int) - 1).toNat = k - 1 := by omega
        have q7 : IntKind.i64.wrap ((k : Int) - 1) = (k : Int) - 1 := IntWalk.i64_in _ (by omega)
        by_cases hle : zs.getD (k - 1) 0 ≤ zs.getD k 0
        · have HK2 : Hid (∀ j, j + 1 < k + 1 → zs.getD j 0 ≤ zs.getD (j + 1) 0) := fun j hj => by
            rcases Nat.lt_or_ge (j + 1) k with h | h
            · exact HK.out j h
            · rw [show j = k - 1 from by omega, show k - 1 + 1 = k from by omega]; exact hle
          generalize zs.getD (k - 1) 0 = x at hle hc2
          generalize zs.getD k 0 = y at hle hc
          go_wp2_with fail
          go_quiet (fail)
          clear q7
          go_wp2_with fail
          go_roundw
          case rel => exact ⟨k + 1, by omega, by omega, by go_num, HW.out.more _, HK2⟩
          case measure => simp [intOf] <;> omega
        · have hlt2 : zs.getD k 0 < zs.getD (k - 1) 0 := by omega
          clear hle
          generalize zs.getD (k - 1) 0 = x at hlt2 hc2
          generalize zs.getD k 0 = y at hlt2 hc
          go_wp2_with fail
          go_quiet (fail)
          clear q7
          go_wp2_with fail
          go_ret
          exact ⟨rfl, HW.out.more _⟩
      · exfalso
        obtain ⟨j, hj, hl⟩ := HR.out
        have := HK.out j (by omega)
        omega
  · have h2 := h1.some
    have h3 := h1.few
    have HH : Hid (∀ k, k < len → 0 ≤ zs.getD k 0 ∧ zs.getD k 0 ≤ 1000) := by show ∀ k, _; rw [← hlz]; exact h1.fits
    have HR : Hid (∀ k, k + 1 < len → zs.getD k 0 ≤ zs.getD (k + 1) 0) := by show ∀ k, _; rw [← hlz]; exact h1.rise
    rw [hlz] at h2 h3
    have HI := Lib.hid hI; clear hI hlz h1
    go_enter Tryd.func6, Tryd.ntmps6
    go_wp2_with fail
    refine (rall_yes _ _ _ _ _ _ _ _ HI.out HH.out).mono ?_
    rintro e w' ⟨rfl, rfl⟩
    go_wp2_with fail
    go_loopw [3] (fun v3 wr => ∃ k : Nat, 1 ≤ k ∧ k ≤ len ∧ v3 = .int .i64 k ∧ Drawn w wr) (fun v3 _ => len - (intOf v3).toNat)
    case atStart => exact ⟨1, by omega, by omega, rfl, Drawn.refl _⟩
    case round =>
      obtain ⟨k, hk1, hk, rfl, hdw⟩ := hrel
      have HW := Lib.hid hdw; clear hdw
      by_cases hlt : k < len
      · obtain ⟨b, off, he, _, hc⟩ := HI.out.cell k hlt
        subst he
        obtain ⟨b', off', he, _, hc2⟩ := HI.out.cell (k - 1) (by omega)
        simp only [Option.some.injEq, Addr.mk.injEq, and_true] at he
        obtain ⟨rfl, rfl⟩ := he
        have hc := HW.out.cell hc
        have hc2 := HW.out.cell hc2
        have q1 : (0 : Int) ≤ (k : Int) := by omega
        have q2 : (k : Int) < (len : Int) := by omega
        have q3 : (0 : Int) ≤ (k : Int) - 1 := by omega
        have q4 : (k : Int) - 1 < (len : Int) := by omega
        have q5 : ((k : Int) - 1).toNat = k - 1 := by omega
        have q7 : IntKind.i64.wrap ((k : Int) - 1) = (k : Int) - 1 := IntWalk.i64_in _ (by omega)
        have hle := HR.out (k - 1) (by omega)
        rw [show k - 1 + 1 = k from by omega] at hle
        generalize zs.getD (k - 1) 0 = x at hle hc2
        generalize zs.getD k 0 = y at hle hc
        go_wp2_with fail
        go_quiet (fail)
        clear q7
        go_wp2_with fail
        go_roundw
        case rel => exact ⟨k + 1, by omega, by omega, by go_num, HW.out.more _⟩
        case measure => simp [intOf] <;> omega
      · go_wp2_with fail
        go_ret
        exact ⟨rfl, HW.out⟩

theorem mcurves_any (a b : Option Addr) (la ca lb cb : Nat) (fs gs : List Int) (B1 B2 : Nat) (w : World) (hF : Ints w B1 a la fs) (hG : Ints w B2 b lb gs) :
    Calls Tryd.prog 7 #[.slice a la ca, .slice b lb cb] w fun e w' => e = .returned (.int .i64 (bothE fs gs)) ∧ Drawn w w' := by
  have hf := hF.size
  have hg := hG.size
  have C := Lib.hid (mcurve_any a la ca fs B1 w hF)
  have D := Lib.hid (fun w' (h : Drawn w w') => mcurve_any b lb cb gs B2 w' (hG.below h.below))
  clear hF hG
  unfold bothE
  by_cases h1 : cvE fs = 0
  · rw [if_neg (by simpa using h1)]
    rw [h1] at C
    by_cases h2 : cvE gs = 0
    · rw [if_neg (by simpa using h2)]
      rw [h2] at D
      clear h1 h2
      by_cases h3 : la = lb
      · rw [if_neg (by omega)]
        subst h3
        clear hf hg
        have hne : ((la : Int) != (la : Int)) = false := by simp
        go_enter Tryd.func7, Tryd.ntmps7
        go_wp2_with fail
        refine C.out.mono ?_
        rintro e w1 ⟨rfl, hd⟩
        have HW := Lib.hid hd; clear hd
        go_wp2_with fail
        refine (D.out w1 HW.out).mono ?_
        rintro e w2 ⟨rfl, m2, rfl⟩
        go_wp2
        go_ret
        exact ⟨rfl, HW.out.more _⟩
      · rw [if_pos (by omega)]
        have hne : ((la : Int) != (lb : Int)) = true := by simp; omega
        clear hf hg h3
        go_enter Tryd.func7, Tryd.ntmps7
        go_wp2_with fail
        refine C.out.mono ?_
        rintro e w1 ⟨rfl, hd⟩
        have HW := Lib.hid hd; clear hd
        go_wp2_with fail
        refine (D.out w1 HW.out).mono ?_
        rintro e w2 ⟨rfl, m2, rfl⟩
        go_wp2
        go_ret
        exact ⟨rfl, HW.out.more _⟩
    · rw [if_pos h2]
      have hb : (cvE gs == 0) = false := by simpa using h2
      clear h1 h2
      generalize cvE gs = n at *
      go_enter Tryd.func7, Tryd.ntmps7
      go_wp2_with fail
      refine C.out.mono ?_
      rintro e w1 ⟨rfl, hd⟩
      have HW := Lib.hid hd; clear hd
      go_wp2_with fail
      refine (D.out w1 HW.out).mono ?_
      rintro e w2 ⟨rfl, m2, rfl⟩
      go_wp2
      go_ret
      exact ⟨rfl, HW.out.more _⟩
  · rw [if_pos h1]
    have hb : (cvE fs == 0) = false := by simpa using h1
    clear h1
    generalize cvE fs = n at *
    go_enter Tryd.func7, Tryd.ntmps7
    go_wp2_with fail
    refine C.out.mono ?_
    rintro e w1 ⟨rfl, hd⟩
    have HW := Lib.hid hd; clear hd
    go_wp2
    go_ret
    exact ⟨rfl, HW.out⟩
end Go.Proofs.YtikdpjedlbkkjaaDoor
