/- The contracts of core.All and of the statements' Ints. -/
import Derived.Test.YtkpflghhmnkjmaaCore
namespace Go.Proofs.Ytkpflghhmnkjmaa
open Go.RowKit
set_option linter.unusedSimpArgs false
set_option linter.unusedVariables false

theorem all_yes (a : Option Addr) (len cap : Nat) (zs : List Int) (lo hi : Int) (B : Nat) (w : World) (hI : Ints w B a len zs) (h : ∀ k, k < len → lo ≤ zs.getD k 0 ∧ zs.getD k 0 ≤ hi) :
    Calls Try.prog 22 #[.slice a len cap, .int .i64 lo, .int .i64 hi] w fun e w' => e = .returned (.bool true) ∧ w = w' := by
  have hroom := hI.room
  have HI := Lib.hid hI; clear hI
  have HH := Lib.hid h; clear h
  go_enter Try.func22, Try.ntmps22
  go_wp2_with fail
  go_loop [11] (fun v => ∃ k : Nat, k ≤ len ∧ v = .int .i64 k) (fun v => len - (intOf v).toNat)
  case atStart => exact ⟨0, by omega, rfl⟩
  case round =>
    obtain ⟨k, hk, rfl⟩ := hrel
    by_cases hlt : k < len
    · obtain ⟨b, off, rfl, hb, hc⟩ := HI.out.cell k hlt
      obtain ⟨h1, h2⟩ := HH.out k hlt
      generalize zs.getD k 0 = n at *
      go_wp2_with fail
      refine (within_in _ _ _ _ h1 h2).mono ?_
      rintro e w' ⟨rfl, rfl⟩
      go_wp2
      go_round
      case rel => exact ⟨k + 1, by omega, by go_num⟩
      case measure => simp [intOf]; omega
    · go_wp2
      go_ret
      exact ⟨rfl, rfl⟩

theorem all_no (a : Option Addr) (len cap : Nat) (zs : List Int) (lo hi : Int) (B : Nat) (w : World) (hI : Ints w B a len zs) (h : ∃ k, k < len ∧ (zs.getD k 0 < lo ∨ hi < zs.getD k 0)) :
    Calls Try.prog 22 #[.slice a len cap, .int .i64 lo, .int .i64 hi] w fun e w' => e = .returned (.bool false) ∧ w = w' := by
  have hroom := hI.room
  have HI := Lib.hid hI; clear hI
  have HH := Lib.hid h; clear h
  go_enter Try.func22, Try.ntmps22
  go_wp2_with fail
  go_loop [11] (fun v => ∃ k : Nat, k ≤ len ∧ v = .int .i64 k ∧ Hid (∀ j, j < k → ¬ (zs.getD j 0 < lo ∨ hi < zs.getD j 0))) (fun v => len - (intOf v).toNat)
  case atStart => exact ⟨0, by omega, rfl, fun j hj => by omega⟩
  case round =>
    obtain ⟨k, hk, rfl, HN⟩ := hrel
    by_cases hlt : k < len
    · obtain ⟨b, off, rfl, hb, hc⟩ := HI.out.cell k hlt
      by_cases hz : zs.getD k 0 < lo ∨ hi < zs.getD k 0
      · have HZ := Lib.hid hz; clear hz
        generalize zs.getD k 0 = n at *
        go_wp2_with fail
        refine (within_out _ _ _ _ HZ.out).mono ?_
        rintro e w' ⟨rfl, rfl⟩
        go_wp2
        go_ret
        exact ⟨rfl, rfl⟩
      · have HN2 : Hid (∀ j, j < k + 1 → ¬ (zs.getD j 0 < lo ∨ hi < zs.getD j 0)) := fun j hj => by
          rcases Nat.lt_or_ge j k with h1 | h1
          · exact HN.out j h1
          · rw [show j = k from by omega]; exact hz
        have h1 : lo ≤ zs.getD k 0 := by omega
        have h2 : zs.getD k 0 ≤ hi := by omega
        clear hz
        generalize hn : zs.getD k 0 = n at h1 h2 hc
        clear hn
        go_wp2_with fail
        refine (within_in _ _ _ _ h1 h2).mono ?_
        rintro e w' ⟨rfl, rfl⟩
        go_wp2
        go_round
        case rel => exact ⟨k + 1, by omega, by go_num, HN2⟩
        case measure => simp [intOf]; omega
    · exfalso
      obtain ⟨j, hj1, hj2⟩ := HH.out
      exact HN.out j (by omega) hj2
end Go.Proofs.Ytkpflghhmnkjmaa
