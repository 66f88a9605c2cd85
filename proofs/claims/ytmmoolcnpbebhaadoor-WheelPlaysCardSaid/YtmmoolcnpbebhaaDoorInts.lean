/- The contract of the statements' Ints: two equal lists. -/
import Derived.Test.YtmmoolcnpbebhaaDoorCore
namespace Go.Proofs.YtmmoolcnpbebhaaDoor
open Go.RowKit
set_option linter.unusedSimpArgs false
set_option linter.unusedVariables false

theorem same_yes (a1 a2 : Option Addr) (len c1 c2 : Nat) (zs : List Int) (B1 B2 : Nat) (w : World) (h1 : Ints w B1 a1 len zs) (h2 : Ints w B2 a2 len zs) :
    Calls Tryd.prog 14 #[.slice a1 len c1, .slice a2 len c2] w fun e w' => e = .returned (.bool true) ∧ ∃ n, w' = w.drewN n := by
  have hroom := h1.room
  have H1 := Lib.hid h1; clear h1
  have H2 := Lib.hid h2; clear h2
  have hne : ((len : Int) != (len : Int)) = false := by simp
  go_enter Tryd.func14, Tryd.ntmps14
  go_wp2_with fail
  go_loopw [5] (fun v wr => ∃ k m : Nat, k ≤ len ∧ v = .int .i64 k ∧ wr = w.drewN m) (fun v _ => len - (intOf v).toNat)
  case atStart => exact ⟨0, 0, by omega, rfl, rfl⟩
  case round =>
    obtain ⟨k, m, hk, rfl, rfl⟩ := hrel
    by_cases hlt : k < len
    · obtain ⟨b, off, rfl, _, hc⟩ := H1.out.cell k hlt
      obtain ⟨b2, off2, rfl, _, hc2⟩ := H2.out.cell k hlt
      have hl0 : (0 : Int) ≤ (k : Int) := by omega
      have hl1 : (k : Int) < (len : Int) := by omega
      generalize zs.getD k 0 = n at *
      go_wp2_with fail
      go_quiet (fail)
      go_wp2
      go_roundw
      case rel => exact ⟨k + 1, _, by omega, by go_num, rfl⟩
      case measure => simp [intOf]; omega
    · go_wp2
      go_ret
      exact ⟨rfl, _, rfl⟩
end Go.Proofs.YtmmoolcnpbebhaaDoor
