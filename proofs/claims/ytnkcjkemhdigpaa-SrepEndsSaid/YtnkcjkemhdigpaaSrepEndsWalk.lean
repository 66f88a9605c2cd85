/- SrepEnds returns true for every input: the walk. -/
import Derived.Test.YtnkcjkemhdigpaaSrepF
namespace Go.Proofs.Ytnkcjkemhdigpaa.srepEnds
open Go.RowKit
set_option linter.unusedSimpArgs false
set_option linter.unusedVariables false

theorem fine_len (fs : List (Bool × Bool)) : Sr.fine fs ≤ fs.length := by
  induction fs with
  | nil => simp [Sr.fine]
  | cons f fs ih => simp only [Sr.fine, List.length_cons]; split <;> omega

set_option maxHeartbeats 8000000 in
set_option maxRecDepth 100000 in
theorem walk (a : Option Addr) (len cap : Nat) (zs : List Int) (win rnd : Int) (af : Option Addr) (lf cf : Nat) (fs : List (Bool × Bool)) (w : World) (hI : Ints w w.heap.size a len zs) (hw : -9223372036854775808 ≤ win ∧ win ≤ 9223372036854775807) (hr : -9223372036854775808 ≤ rnd ∧ rnd ≤ 9223372036854775807) (hF : Pairs w w.heap.size af lf fs) :
    Calls Try.prog 9 #[.slice a len cap, .int .i64 win, .int .i64 rnd, .slice af lf cf] w fun e w' => e = .returned (.bool true) ∧ Below w.heap.size w w' := by
  have hroom := hI.room
  have hlz := Lib.hid hI.size
  have HI := Lib.hid hI; clear hI
  have HF := Lib.hid hF; clear hF
  go_enter Try.func9, Try.ntmps9
  go_wp2_with fail
  refine (sfact_any _).mono ?_
  rintro e w1 ⟨rfl, hb1⟩
  have B1 := Lib.hid hb1; clear hb1
  have I1 := Lib.hid (HI.out.later B1.out)
  have F1 := Lib.hid ((HF.out.below B1.out).mono B1.out.size)
  by_cases he : aheadE zs lf win rnd = 0
  · obtain ⟨_, o1, o2, o3, o4, o5, o6⟩ := ahead_ok he
    obtain ⟨W, rfl⟩ := Int.eq_ofNat_of_zero_le (show 0 ≤ win by omega)
    obtain ⟨R, rfl⟩ := Int.eq_ofNat_of_zero_le (show 0 ≤ rnd by omega)
    have hl20 : len ≤ 20 := by rw [← hlz.out]; exact o1
    have C := Lib.hid (fun w' h1 h2 => srun_yes a len cap W R af lf cf zs fs w' h1 h2 he (by omega) (by omega) (by omega) (by omega) hl20 o2)
    have HX : Hid (2 * W ≤ R → (Sr.fine fs < len → (Sr.run zs W R fs).known ≤ Sr.fine fs) ∧ (len ≤ Sr.fine fs → (Sr.run zs W R fs).known = len ∧ (Sr.run zs W R fs).got = zs)) := fun h => by
      have := Sr.ends_law zs (show 1 ≤ W by omega) h fs
      rwa [hlz.out] at this
    have hlf := Lib.hid HF.out.size
    have hl200 : lf ≤ 200 := o2
    clear he
    generalize Sr.run zs W R fs = s at *
    go_wp2_with fail
    refine (C.out _ I1.out F1.out).mono ?_
    clear C
    rintro e w2 ⟨ga, gc, rfl, hgi, hB⟩
    have G := Lib.hid hgi; clear hgi
    have B3 := Lib.hid hB
    have B2 : Hid (Below w.heap.size w w2) := B1.out.trans (hB.mono B1.out.size)
    clear hB
    by_cases hwr : 2 * W ≤ R
    · obtain ⟨hx1, hx2⟩ := HX.out hwr
      have HX1 := Lib.hid hx1; clear hx1
      have HX2 := Lib.hid hx2; clear hx2
      clear HX
      go_wp2_with fail
      go_loop [13, 14] (fun vf vi => ∃ k : Nat, k ≤ lf ∧ vi = .int .i64 k ∧ vf = .int .i64 (Sr.fine (fs.take k) : Nat)) (fun _ vi => lf - (intOf vi).toNat)
      case atStart => exact ⟨0, by omega, rfl, rfl⟩
      case round =>
        obtain ⟨k, hk, rfl, rfl⟩ := hrel
        by_cases hlt : k < lf
        · obtain ⟨fb, foff, rfl, hfb, hf1, hf2⟩ := F1.out.cell k hlt
          have g1 := (B3.out.cell (p := ⟨fb, foff + k * 2, none⟩) hfb).trans hf1
          have g2 := (B3.out.cell (p := ⟨fb, foff + k * 2 + 1, none⟩) hfb).trans hf2
          clear hf1 hf2
          have hst := Sr.fine_snoc (fs.take k) (fs.getD k (false, false))
          rw [← take_succ_getD fs k (by rw [hlf.out]; exact hlt)] at hst
          have hle := fine_len (fs.take k)
          generalize fs.getD k (false, false) = f at *
          obtain ⟨t, bk⟩ := f
          have hlk : (fs.take k).length ≤ k := by simp; omega
          have HST := Lib.hid hst; clear hst
          generalize Sr.fine (fs.take k) = m at *
          cases t <;> cases bk
          all_goals
            go_wp2
            go_round
            case rel => exact ⟨k + 1, by omega, by go_num, by rw [HST.out]; simp⟩
            case measure => simp [intOf]; omega
        · have hkk : k = lf := by omega
          subst hkk
          rw [List.take_of_length_le (by rw [hlf.out]; omega)]
          generalize Sr.fine fs = m at *
          by_cases hm : m < len
          · have h1 := HX1.out hm
            generalize s.known = kn at *
            generalize s.got = got at *
            go_wp2_with fail
            go_ret
            exact ⟨by first | (simp; done) | (simp; omega), B2.out⟩
          · have hm2 : len ≤ m := by omega
            obtain ⟨h1, h2⟩ := HX2.out hm2
            rw [h2] at G
            have G2 : Hid (Ints w2 w2.heap.size ga len zs) := by have := G.out; rw [hlz.out] at this; exact this
            rw [h1, h2, hlz.out]
            clear h1 h2 HX1 HX2 G hm
            go_wp2_with fail
            refine (same_yes _ _ len _ _ zs _ _ _ G2.out (I1.out.below B3.out)).mono ?_
            rintro e w3 ⟨rfl, m2, rfl⟩
            go_wp2
            go_ret
            exact ⟨by first | (simp; done) | (simp; omega), below_drewN B2.out _⟩
    · have hwr2 : R < 2 * W := by omega
      clear hwr HX
      generalize s.got.length = n at *
      generalize s.known = kn at *
      go_wp2
      go_ret
      exact ⟨by first | (simp; done) | (simp; omega), B2.out⟩
  · have C := Lib.hid (fun w' h => srun_no a len cap win rnd af lf cf zs w1.heap.size w' h he)
    clear he
    generalize aheadE zs lf win rnd = n at *
    go_wp2_with fail
    refine (C.out _ I1.out).mono ?_
    rintro e w2 ⟨rfl, rfl⟩
    go_wp2
    go_ret
    exact ⟨rfl, B1.out⟩
end Go.Proofs.Ytnkcjkemhdigpaa.srepEnds
