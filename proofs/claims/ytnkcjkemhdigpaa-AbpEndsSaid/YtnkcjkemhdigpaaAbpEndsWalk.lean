/- AbpEnds returns true for every input: the walk. -/
import Derived.Test.YtnkcjkemhdigpaaAbpF
namespace Go.Proofs.Ytnkcjkemhdigpaa.abpEnds
open Go.RowKit
set_option linter.unusedSimpArgs false
set_option linter.unusedVariables false

theorem fine_le (fs : List (Bool × Bool)) : fineOf fs ≤ fs.length := List.length_filter_le _ _

set_option maxHeartbeats 4000000 in
set_option maxRecDepth 100000 in
theorem walk (a : Option Addr) (len cap : Nat) (zs : List Int) (af : Option Addr) (lf cf : Nat) (fs : List (Bool × Bool)) (w : World) (hI : Ints w w.heap.size a len zs) (hF : Pairs w w.heap.size af lf fs) :
    Calls Try.prog 4 #[.slice a len cap, .slice af lf cf] w fun e w' => e = .returned (.bool true) ∧ Below w.heap.size w w' := by
  have hroom := hI.room
  have hlz := Lib.hid hI.size
  have HI := Lib.hid hI; clear hI
  have HF := Lib.hid hF; clear hF
  go_enter Try.func4, Try.ntmps4
  go_wp2_with fail
  refine (afact_any _).mono ?_
  rintro e w1 ⟨rfl, hb1⟩
  have B1 := Lib.hid hb1; clear hb1
  have I1 := Lib.hid (HI.out.later B1.out)
  have F1 := Lib.hid ((HF.out.below B1.out).mono B1.out.size)
  by_cases he : sentE zs lf = 0
  · have hmany := abp_many zs fs
    have hinv := abp_known_le (abp_inv zs fs)
    have C := Lib.hid (fun w' h1 h2 => arun_yes a len cap af lf cf zs fs w' h1 h2 he)
    have hl200 : lf ≤ 200 := by
      rcases sent_cases zs lf with ⟨h, e⟩ | ⟨_, h, _⟩ | ⟨_, h, _⟩ <;> omega
    clear he
    generalize abpRun zs fs = p at *
    obtain ⟨got, known⟩ := p
    unfold AbpMany at hmany
    rw [hlz.out] at hmany hinv
    have HM := Lib.hid hmany; clear hmany
    have hkl : known ≤ len := hinv
    clear hinv
    have hlf := Lib.hid HF.out.size
    go_wp2_with fail
    refine (C.out _ I1.out F1.out).mono ?_
    clear C
    rintro e w2 ⟨ga, gc, rfl, hgi, hB⟩
    have B3 := Lib.hid hB
    have B2 : Hid (Below w.heap.size w w2) := B1.out.trans (hB.mono B1.out.size)
    clear hB hgi
    generalize got.length = n at *
    go_wp2_with fail
    go_loop [9, 10] (fun v9 v10 => ∃ k : Nat, k ≤ lf ∧ v10 = .int .i64 k ∧ v9 = .int .i64 (fineOf (fs.take k) : Nat)) (fun _ v10 => lf - (intOf v10).toNat)
    case atStart => exact ⟨0, by omega, rfl, rfl⟩
    case round =>
      obtain ⟨k, hk, rfl, rfl⟩ := hrel
      by_cases hlt : k < lf
      · obtain ⟨fb, foff, rfl, hfb, hf1, hf2⟩ := F1.out.cell k hlt
        have g1 := (B3.out.cell (p := ⟨fb, foff + k * 2, none⟩) hfb).trans hf1
        have g2 := (B3.out.cell (p := ⟨fb, foff + k * 2 + 1, none⟩) hfb).trans hf2
        clear hf1 hf2
        have hst := fine_snoc (fs.take k) (fs.getD k (false, false))
        rw [← take_succ_getD fs k (by rw [hlf.out]; exact hlt)] at hst
        have hle := fine_le (fs.take k)
        generalize fs.getD k (false, false) = f at *
        obtain ⟨t, bk⟩ := f
        have hlk : (fs.take k).length ≤ k := by simp; omega
        have HST := Lib.hid hst; clear hst
        generalize fineOf (fs.take k) = m at *
        cases t <;> cases bk
        all_goals
          go_wp2
          go_round
          case rel => exact ⟨k + 1, by omega, by go_num, by rw [HST.out]; simp⟩
          case measure => simp [intOf]; omega
      · have hkk : k = lf := by omega
        subst hkk
        rw [List.take_of_length_le (by rw [hlf.out]; omega)]
        have hm := HM.out
        generalize fineOf fs = m at *
        rcases (show known = m ∨ (known ≠ m ∧ known = len ∧ len ≤ m) by omega) with h | ⟨h, h2, h3⟩
        · subst h
          go_wp2
          go_ret
          exact ⟨by simp, B2.out⟩
        · subst h2
          have hb : ((known : Int) == (m : Int)) = false := by simp; omega
          clear h HM hm
          go_wp2
          go_ret
          exact ⟨by simp, B2.out⟩
  · have C := Lib.hid (fun w' h => arun_no a len cap af lf cf zs w1.heap.size w' h he)
    clear he
    generalize sentE zs lf = n at *
    go_wp2_with fail
    refine (C.out _ I1.out).mono ?_
    rintro e w2 ⟨rfl, rfl⟩
    go_wp2
    go_ret
    exact ⟨rfl, B1.out⟩
end Go.Proofs.Ytnkcjkemhdigpaa.abpEnds
