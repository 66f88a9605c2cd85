/- The pipe's contracts whatever is asked; the closed fact on the pipe. -/
import Derived.Test.YtkpflghhmnkjmaaDoorWin
import Derived.Test.YtkpflghhmnkjmaaDoorTold
namespace Go.Proofs.YtkpflghhmnkjmaaDoor
open Go.RowKit
set_option linter.unusedSimpArgs false
set_option linter.unusedVariables false

theorem Pip.below {w w' : World} {B b : Nat} {r s l e : Int} (h : Pip w b r s l e) (hb : Below w.heap.size w w') : Pip w' b r s l e := (hb.block b h.lt).trans h
theorem grown_q {w w' : World} {b : Option Nat} (h : ∃ m, w' = w.drewN m) : w.grownBy w' b := by
  obtain ⟨m, rfl⟩ := h; exact grown_drewN (grown_refl _ _) m

/-- Whatever is sent. -/
theorem wsend_all (b : Nat) (r s l d n : Int) (w : World) (ho : Pip w b r s l d) (hk : PipOk r s l d) : Calls Tryd.prog 8 #[.pointer (some ⟨b, 0, none⟩), .int .i64 n] w fun e w' => ∃ v s', e = .returned v ∧ s ≤ s' ∧ s' ≤ s + 100 ∧ s' ≤ l ∧ Pip w' b r s' l d ∧ w.grownBy w' (some b) := by
  have hs := hk.sl
  by_cases h1 : 0 ≤ n ∧ n ≤ 100
  · by_cases h2 : s + n ≤ l
    · exact (wsend_yes b r s l d n w ho hk h1.1 h1.2 h2).mono fun e w' ⟨a, c, g⟩ => ⟨_, s + n, a, by omega, by omega, h2, c, g⟩
    · exact (wsend_full b r s l d n w ho hk h1.1 h1.2 (by omega)).mono fun e w' ⟨a, c⟩ => ⟨_, s, a, by omega, by omega, hs, by obtain ⟨m, rfl⟩ := c; exact ho.drewN m, grown_q c⟩
  · exact (wsend_no b n w (by omega)).mono fun e w' ⟨a, c⟩ => ⟨_, s, a, by omega, by omega, hs, by subst c; exact ho, by subst c; exact grown_refl _ _⟩
theorem weat_all (b : Nat) (r s l d n : Int) (w : World) (ho : Pip w b r s l d) (hk : PipOk r s l d) : Calls Tryd.prog 9 #[.pointer (some ⟨b, 0, none⟩), .int .i64 n] w fun e w' => ∃ v d', e = .returned v ∧ d ≤ d' ∧ d' ≤ s ∧ Pip w' b r s l d' ∧ w.grownBy w' (some b) := by
  have hs := hk.es
  by_cases h1 : 0 ≤ n ∧ n ≤ 100
  · by_cases h2 : d + n ≤ s
    · exact (weat_yes b r s l d n w ho hk h1.1 h1.2 h2).mono fun e w' ⟨a, c, g⟩ => ⟨_, d + n, a, by omega, h2, c, g⟩
    · exact (weat_none b r s l d n w ho hk h1.1 h1.2 (by omega)).mono fun e w' ⟨a, c⟩ => ⟨_, d, a, by omega, hs, by obtain ⟨m, rfl⟩ := c; exact ho.drewN m, grown_q c⟩
  · exact (weat_no b n w (by omega)).mono fun e w' ⟨a, c⟩ => ⟨_, d, a, by omega, hs, by subst c; exact ho, by subst c; exact grown_refl _ _⟩
end Go.Proofs.YtkpflghhmnkjmaaDoor
