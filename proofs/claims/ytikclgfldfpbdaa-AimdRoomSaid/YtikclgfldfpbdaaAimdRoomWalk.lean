/- AimdRoom returns true for every input: the walk. -/
import Derived.Test.YtikclgfldfpbdaaAimdF2
namespace Go.Proofs.Ytikclgfldfpbdaa.aimdRoom
open Go.RowKit
set_option linter.unusedSimpArgs false
set_option linter.unusedVariables false

set_option maxHeartbeats 4000000 in
set_option maxRecDepth 100000 in
theorem walk (a : Option Addr) (len cap : Nat) (zs : List Int) (room steps : Int) (w : World) (hI : Ints w w.heap.size a len zs) (hr : -9223372036854775808 ≤ room ∧ room ≤ 9223372036854775807) (hst : -9223372036854775808 ≤ steps ∧ steps ≤ 9223372036854775807) :
    Calls Try.prog 7 #[.slice a len cap, .int .i64 room, .int .i64 steps] w fun e w' => e = .returned (.bool true) ∧ Below w.heap.size w w' := by
  have hlz := Lib.hid hI.size
  have HI := Lib.hid hI; clear hI
  go_enter Try.func7, Try.ntmps7
  go_wp2_with fail
  refine (afact_any _).mono ?_
  rintro e w1 ⟨rfl, hb1⟩
  have B1 := Lib.hid hb1; clear hb1
  have I1 := Lib.hid (HI.out.later B1.out)
  by_cases he : aiE zs room = 0
  · by_cases hs : 0 ≤ steps ∧ steps ≤ 1000
    · obtain ⟨h1, h2, h3, h4, h5⟩ := ai_ok he
      have hL : 1 ≤ len ∧ len ≤ 5 := by rw [← hlz.out]; exact ⟨h1, h2⟩
      obtain ⟨b, off, rfl, _, _⟩ := I1.out.cell 0 (by omega)
      have C := Lib.hid (airun_yes b off len cap room steps zs w1 I1.out he hL (all_mem h3) hs)
      have HB := Lib.hid (ai_bounds room zs steps.toNat (all_mem h3))
      have hS := ai_room room zs steps.toNat (fun x hx => (all_mem h3 x hx).1)
      have HLN := Lib.hid (ai_len room zs steps.toNat)
      have H3 : Hid (∀ k, k < len → 0 ≤ zs.getD k 0 ∧ zs.getD k 0 ≤ 1000000) := fun k hk => by have := h3 k (by rw [hlz.out]; exact hk); omega
      rw [hlz.out] at hS
      clear he h3
      generalize aiRun room zs steps.toNat = st at *
      obtain ⟨l, hv⟩ := st
      simp only at *
      go_wp2_with fail
      refine C.out.mono ?_
      clear C
      rintro e w2 ⟨g, c, rfl, hrow, hB⟩
      have hle : l.length = len := by rw [HLN.out]; exact hlz.out
      have hb : ∀ k, k < len → 0 ≤ l.getD k 0 ∧ l.getD k 0 ≤ 1000000 := fun k hk => by
        have := mem_getD HB.out k (by omega)
        omega
      have G := Lib.hid (hrow.ints (by omega) (M := 1000 + (steps.toNat : Int)) (by omega) HB.out)
      have H4 := Lib.hid hb
      have I2 := Lib.hid (I1.out.later hB)
      have B2 : Hid (Below w.heap.size w w2) := B1.out.trans (hB.mono B1.out.size)
      have X := Lib.hid (fun n => esum _ len cap zs _ (w2.drewN n) (I2.out.later (below_drewN (Below.refl _ _) n)) hL.2 H3.out)
      have Y := Lib.hid (fun n => esum _ len c l _ (w2.drewN n) (G.out.later (below_drewN (Below.refl _ _) n)) hL.2 H4.out)
      clear hb hB hrow hle h1 h2
      obtain ⟨L1, L2⟩ := hL
      generalize l.sum = sl at *
      generalize zs.sum = sz at *
      by_cases hsum : room + len < sz
      · go_wp2_with fail
        refine (X.out 0).mono ?_
        rintro e w' ⟨rfl, rfl⟩
        go_wp2_with fail
        refine (Y.out 0).mono ?_
        rintro e w' ⟨rfl, rfl⟩
        go_wp2_with fail
        refine (X.out 0).mono ?_
        rintro e w' ⟨rfl, rfl⟩
        go_wp2_with fail
        go_ret
        exact ⟨by simp; omega, B2.out⟩
      · have hsum2 : sz ≤ room + len := by omega
        clear hsum
        go_wp2_with fail
        refine (X.out 0).mono ?_
        rintro e w' ⟨rfl, rfl⟩
        go_wp2_with fail
        refine (Y.out 0).mono ?_
        rintro e w' ⟨rfl, rfl⟩
        go_wp2_with fail
        go_ret
        exact ⟨by simp [hsum2]; try omega, B2.out⟩
    · have C := Lib.hid (airun_long a len cap room steps zs _ w1 I1.out he (by omega))
      clear hs he
      go_wp2_with fail
      refine C.out.mono ?_
      rintro e w2 ⟨rfl, rfl⟩
      go_wp2
      go_ret
      exact ⟨rfl, B1.out⟩
  · have C := Lib.hid (airun_no a len cap room steps zs _ w1 I1.out he)
    clear he
    generalize aiE zs room = n at *
    go_wp2_with fail
    refine C.out.mono ?_
    rintro e w2 ⟨rfl, rfl⟩
    go_wp2
    go_ret
    exact ⟨rfl, B1.out⟩
end Go.Proofs.Ytikclgfldfpbdaa.aimdRoom
