/- AimdFair returns true for every input: the walk. -/
import Derived.Test.YtikclgfldfpbdaaAimdF2
import Derived.Test.YtikclgfldfpbdaaRisingWalk
namespace Go.Proofs.Ytikclgfldfpbdaa.aimdFair
open Go.RowKit
set_option linter.unusedSimpArgs false
set_option linter.unusedVariables false

theorem aiE_one {zs : List Int} {room : Int} (h : aiE zs 1 ≠ 0) : aiE zs room ≠ 0 := fun he => by
  obtain ⟨h1, h2, h3, _, _⟩ := ai_ok he
  rcases ai_cases zs 1 with ⟨_, e⟩ | ⟨_, e⟩ | ⟨_, _, ⟨k, hk, h'⟩, e⟩ | ⟨_, _, _, h', e⟩ | ⟨_, _, _, _, e⟩
  · omega
  · omega
  · have := h3 k hk; omega
  · omega
  · exact h e

set_option maxHeartbeats 4000000 in
set_option maxRecDepth 100000 in
theorem walk (a : Option Addr) (len cap : Nat) (zs : List Int) (room steps : Int) (w : World) (hI : Ints w w.heap.size a len zs) (hr : -9223372036854775808 ≤ room ∧ room ≤ 9223372036854775807) (hst : -9223372036854775808 ≤ steps ∧ steps ≤ 9223372036854775807) :
    Calls Try.prog 9 #[.slice a len cap, .int .i64 room, .int .i64 steps] w fun e w' => e = .returned (.bool true) ∧ Below w.heap.size w w' := by
  have hlz := Lib.hid hI.size
  have HI := Lib.hid hI; clear hI
  go_enter Try.func9, Try.ntmps9
  go_wp2_with fail
  refine (afact_any _).mono ?_
  rintro e w1 ⟨rfl, hb1⟩
  have B1 := Lib.hid hb1; clear hb1
  have I1 := Lib.hid (HI.out.later B1.out)
  by_cases h1e : aiE zs 1 = 0
  · have A := Lib.hid (apart_yes a len cap zs _ w1 I1.out h1e)
    obtain ⟨h1, h2, h3, _, _⟩ := ai_ok h1e
    have hL : 1 ≤ len ∧ len ≤ 5 := by rw [← hlz.out]; exact ⟨h1, h2⟩
    have hd : 0 ≤ mxN zs (len - 1) - mnN zs (len - 1) ∧ mxN zs (len - 1) - mnN zs (len - 1) ≤ 1000 := by
      obtain ⟨j, hj, e⟩ := mxN_mem zs (len - 1)
      obtain ⟨j2, hj2, e2⟩ := mnN_mem zs (len - 1)
      have g1 := h3 j (by rw [hlz.out]; omega)
      have g2 := h3 j2 (by rw [hlz.out]; omega)
      have g3 := mxN_ge zs (len - 1) j2 hj2
      omega
    have HD : Hid (∀ i j, i < zs.length → j < zs.length → zs.getD i 0 - zs.getD j 0 ≤ mxN zs (len - 1) - mnN zs (len - 1)) := fun i j hi hj => by
      have g1 := mxN_ge zs (len - 1) i (by rw [hlz.out] at hi; omega)
      have g2 := mnN_le zs (len - 1) j (by rw [hlz.out] at hj; omega)
      omega
    have H3 := Lib.hid h3
    clear h1e h3
    generalize mxN zs (len - 1) - mnN zs (len - 1) = d at *
    go_wp2_with fail
    refine A.out.mono ?_
    clear A
    rintro e w2 ⟨rfl, m1, rfl⟩
    have B2 : Hid (Below w.heap.size w (w1.drewN m1)) := below_drewN B1.out _
    have I2 := Lib.hid (I1.out.later (below_drewN (Below.refl _ _) m1))
    generalize w1.drewN m1 = w2 at *
    by_cases he : aiE zs room = 0
    · by_cases hs : 0 ≤ steps ∧ steps ≤ 1000
      · obtain ⟨b, off, rfl, _, _⟩ := I2.out.cell 0 (by omega)
        have C := Lib.hid (airun_yes b off len cap room steps zs w2 I2.out he hL (all_mem H3.out) hs)
        have HB := Lib.hid (ai_bounds room zs steps.toNat (all_mem H3.out))
        have HLN := Lib.hid (ai_len room zs steps.toNat)
        have HF := Lib.hid (fun i j hi hj => ai_fair room zs steps.toNat HD.out i j hi hj)
        have hh := ai_halved room zs steps.toNat
        clear he
        generalize aiRun room zs steps.toNat = st at *
        obtain ⟨l, hv⟩ := st
        simp only at *
        go_wp2_with fail
        refine C.out.mono ?_
        clear C
        rintro e w3 ⟨g, c, rfl, hrow, hB⟩
        have hle : Hid (l.length = len) := by show l.length = len; rw [HLN.out]; exact hlz.out
        have G := Lib.hid (hrow.ints (by omega) (M := 1000 + (steps.toNat : Int)) (by omega) HB.out)
        have B3 : Hid (Below w.heap.size w w3) := B2.out.trans (hB.mono B2.out.size)
        clear hB hrow h1 h2
        obtain ⟨L1, L2⟩ := hL
        go_wp2_with fail
        refine (rising_any g 0 len c l w3 G.out L1 (by omega)).mono ?_
        rintro e w4 ⟨g2, c2, idx, rfl, hcel, hil, ⟨us, hris⟩, hB⟩
        have B4 : Hid (Below w.heap.size w w4) := B3.out.trans (hB.mono B3.out.size)
        clear hB
        have hin : ∀ k, k < len → ∃ j, j < zs.length ∧ w4.cell? ⟨g2, k, none⟩ = some (.int .i64 (l.getD j 0)) := fun k hk => by
          have hc := hcel.cell k (by simp; omega)
          rw [map_at (Value.int .i64) _ 0 k (by simp; omega)] at hc
          have hk2 : k < idx.length := by omega
          refine ⟨idx[k], ?_, ?_⟩
          · have := hris.inn _ (List.getElem_mem hk2); rw [HLN.out] at this; exact this
          · rw [hc]; simp [List.getD_eq_getElem?_getD, hk2]
        obtain ⟨j1, hj1, hc1⟩ := hin (len - 1) (by omega)
        obtain ⟨j0, hj0, hc0⟩ := hin 0 (by omega)
        clear hin hcel hil hris
        have hb1 := mem_getD HB.out j1 (by rw [HLN.out]; exact hj1)
        have hb0 := mem_getD HB.out j0 (by rw [HLN.out]; exact hj0)
        have hf := HF.out j1 j0 hj1 hj0
        have HW0 : Hid (∀ n k, aiW (n + k) d ≤ aiW n d) := fun n k => aiW_le n k hd.1
        have HW1 : Hid (∀ n, 0 ≤ aiW n d) := fun n => aiW_pos n hd.1
        have HW2 : Hid (aiW 10 d ≤ 1) := aiW_ten hd.1 (by omega)
        have hfin : Hid (∀ k : Nat, k ≤ hv → (hv ≤ k ∨ 20 ≤ k) → l.getD j1 0 - l.getD j0 0 ≤ aiW k d) := fun k hk hk2 => by
          have := HW0.out k (hv - k)
          rw [show k + (hv - k) = hv from by omega] at this
          omega
        have hten : Hid (10 ≤ hv → l.getD j1 0 - l.getD j0 0 ≤ 1) := fun h => by
          have := HW0.out 10 (hv - 10)
          rw [show 10 + (hv - 10) = hv from by omega] at this
          have := HW2.out
          omega
        clear hf hj1 hj0
        generalize l.getD j1 0 = x1 at *
        generalize l.getD j0 0 = x0 at *
        have q1 : (0 : Int) ≤ (len : Int) - 1 := by omega
        have q2 : (len : Int) - 1 < (len : Int) := by omega
        have q3 : ((len : Int) - 1).toNat = len - 1 := by omega
        have q4 : hv ≤ 1000 := by omega
        clear hh
        go_wp2_with fail
        go_quiet (fail)
        go_wp2_with fail
        go_loop [8, 15] (fun v5 v12 => ∃ (k : Nat) (x : Int), k ≤ hv ∧ k ≤ 20 ∧ v12 = .int .i64 k ∧ v5 = .int .i64 x ∧ 0 ≤ x ∧ x ≤ 1000 ∧ Hid (x = aiW k d)) (fun _ v12 => 20 - (intOf v12).toNat)
        case atStart => exact ⟨0, d, by omega, by omega, rfl, rfl, hd.1, hd.2, by rfl⟩
        case round =>
          obtain ⟨k, x, hk, hk2, rfl, rfl, x0', x1', HX⟩ := hrel
          by_cases hlt : k < hv
          · by_cases hlt2 : k < 20
            · have HX2 : Hid ((x + 1) / 2 = aiW (k + 1) d) := by show (x + 1) / 2 = (aiW k d + 1) / 2; rw [HX.out]
              go_wp2_with fail
              go_round
              case rel => exact ⟨k + 1, (x + 1) / 2, by omega, by omega, by go_num, by go_num, by omega, by omega, HX2⟩
              case measure => simp [intOf]; omega
            · have hfi := hfin.out k hk (by omega)
              rw [← HX.out] at hfi
              go_wp2_with fail
              all_goals (have ht := hten.out; go_ret; exact ⟨by simp [hfi]; try omega, below_drewN B4.out _⟩)
          · have hfi := hfin.out k hk (by omega)
            rw [← HX.out] at hfi
            go_wp2_with fail
            all_goals (have ht := hten.out; go_ret; exact ⟨by simp [hfi]; try omega, below_drewN B4.out _⟩)
      · have C := Lib.hid (airun_long a len cap room steps zs _ w2 I2.out he (by omega))
        clear hs he
        go_wp2_with fail
        refine C.out.mono ?_
        rintro e w2 ⟨rfl, rfl⟩
        go_wp2
        go_ret
        exact ⟨rfl, B2.out⟩
    · have C := Lib.hid (airun_no a len cap room steps zs _ w2 I2.out he)
      clear he
      generalize aiE zs room = n at *
      go_wp2_with fail
      refine C.out.mono ?_
      rintro e w2 ⟨rfl, rfl⟩
      go_wp2
      go_ret
      exact ⟨rfl, B2.out⟩
  · have A := Lib.hid (apart_no a len cap zs _ w1 I1.out h1e)
    have C := Lib.hid (airun_no a len cap room steps zs _ w1 I1.out (aiE_one h1e))
    clear h1e
    generalize aiE zs room = n at *
    generalize aiE zs 1 = n2 at *
    go_wp2_with fail
    refine A.out.mono ?_
    rintro e w2 ⟨rfl, rfl⟩
    go_wp2_with fail
    refine C.out.mono ?_
    rintro e w2 ⟨rfl, rfl⟩
    go_wp2
    go_ret
    exact ⟨rfl, B1.out⟩
end Go.Proofs.Ytikclgfldfpbdaa.aimdFair
