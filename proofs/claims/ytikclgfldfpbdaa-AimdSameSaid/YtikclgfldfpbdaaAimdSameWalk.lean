/- AimdSame returns true for every input: the walk. -/
import Derived.Test.YtikclgfldfpbdaaAimdF2
import Derived.Test.YtikclgfldfpbdaaCel
namespace Go.Proofs.Ytikclgfldfpbdaa.aimdSame
open Go.RowKit
set_option linter.unusedSimpArgs false
set_option linter.unusedVariables false

theorem same_at (room x : Int) (many steps : Nat) (i : Nat) (hi : i < many) : (aiRun room (List.replicate many x) steps).1.getD i 0 = (aiRun room (List.replicate many x) steps).1.getD 0 0 := by
  have e : ∀ j, j < many → (List.replicate many x).getD j 0 = x := fun j hj => by simp [List.getD_eq_getElem?_getD, hj]
  have h1 := ai_mono room (List.replicate many x) steps i 0 (by simpa using hi) (by simp; omega) (by rw [e i hi, e 0 (by omega)]; exact Int.le_refl _)
  have h2 := ai_mono room (List.replicate many x) steps 0 i (by simp; omega) (by simpa using hi) (by rw [e i hi, e 0 (by omega)]; exact Int.le_refl _)
  omega

set_option maxHeartbeats 8000000 in
set_option maxRecDepth 100000 in
theorem walk (x mn : Int) (a : Option Addr) (len cap : Nat) (zs : List Int) (room steps : Int) (w : World) (hx : -9223372036854775808 ≤ x ∧ x ≤ 9223372036854775807) (hmn : -9223372036854775808 ≤ mn ∧ mn ≤ 9223372036854775807) (hI : Ints w w.heap.size a len zs) (hr : -9223372036854775808 ≤ room ∧ room ≤ 9223372036854775807) (hst : -9223372036854775808 ≤ steps ∧ steps ≤ 9223372036854775807) :
    Calls Try.prog 8 #[.int .i64 x, .int .i64 mn, .slice a len cap, .int .i64 room, .int .i64 steps] w fun e w' => e = .returned (.bool true) ∧ Below w.heap.size w w' := by
  have hlz := Lib.hid hI.size
  have HI := Lib.hid hI; clear hI
  have HX := Lib.hid hx; clear hx
  obtain ⟨i0, hi, hz0, hz1, hz2⟩ := info_parts info3
  go_enter Try.func8, Try.ntmps8
  go_wp2_with fail
  refine (afact_any _).mono ?_
  rintro e w1 ⟨rfl, hb1⟩
  have B1 := Lib.hid hb1; clear hb1
  have I1 := Lib.hid (HI.out.later B1.out)
  by_cases hm : 1 ≤ mn ∧ mn ≤ 5
  · obtain ⟨m1, m2⟩ := hm
    go_wp2_with fail
    refine (in_in _ _ _ _ m1 m2).mono ?_
    rintro e w' ⟨rfl, rfl⟩
    obtain ⟨many, rfl⟩ := Int.eq_ofNat_of_zero_le (show 0 ≤ mn by omega)
    go_wp2_with fail
    go_loopw [12, 13] (fun v7 v8 wr => ∃ k : Nat, k ≤ many ∧ v8 = .int .i64 k ∧ wr.ownsRow w1.heap.size 3 1 v7 k ((List.replicate k x).map (.int .i64)) ∧ Below w1.heap.size w1 wr) (fun _ v8 _ => many - (intOf v8).toNat)
    case atStart => exact ⟨0, by omega, rfl, World.ownsRow_nil _ _ _ _, Below.refl _ _⟩
    case round =>
      obtain ⟨k, hk, rfl, hown, hB⟩ := hrel
      have HB := Lib.hid hB; clear hB
      have HOW := Lib.hid hown; clear hown
      have hsz := HB.out.size
      by_cases hkl : k < many
      · go_wp2_with (first | (at_builtin; go_loud (refine wpList_append_lies _ rfl _ _ 22 rfl w1.heap.size 3 i0 (.int .i64 0) 1 8 Try.underlying22 hi hz0 hz1 hz2 rfl (by decide) _ _ _ rfl (HOW.out.alloc _) ⟨wr.heap.size, 0, none⟩ 1 1 [.int .i64 x] rfl rfl (cell_one_new _ _ _) (by intro u hu; simp at hu; subst hu; rfl) (by decide) (by unfold maxLen; omega) (by omega) (by simp; omega) _ rfl ?_)))
        intro g c w4 hown1 hgrow1 hat1 hlt1
        have HB3 : Hid (Below w1.heap.size w1 w4) := below_row (HB.out.alloc hsz _) hgrow1 (Nat.le_refl _) (by simp; omega) (HOW.out.alloc _)
        have HOW3 := Lib.hid hown1
        clear hown1 hgrow1 hat1 hlt1
        go_wp2_with fail
        go_roundw
        case rel => exact ⟨k + 1, by omega, by go_num, by have := HOW3.out; rw [List.replicate_succ']; simpa using this, HB3.out⟩
        case measure => simp [intOf]; omega
      · obtain rfl : k = many := by omega
        obtain ⟨g, c, hv, hcel, _⟩ := Cel.form HOW.out (by omega)
        subst hv
        have HJ := Lib.hid (hcel.ints (n := k) (by simp) (by omega) (fun j => by
          have := HX.out
          rw [List.getD_eq_getElem?_getD, List.getElem?_replicate]; split <;> simp <;> omega))
        clear hcel
        have IR := Lib.hid (I1.out.later HB.out)
        have BR : Hid (Below w.heap.size w wr) := B1.out.trans (HB.out.mono B1.out.size)
        by_cases he : aiE (List.replicate k x) room = 0
        · by_cases hs : 0 ≤ steps ∧ steps ≤ 1000
          · obtain ⟨h1, h2, h3, _, _⟩ := ai_ok he
            have C := Lib.hid (airun_yes g 0 k c room steps (List.replicate k x) wr HJ.out he (by omega) (all_mem h3) hs)
            have HS := Lib.hid (same_at room x k steps.toNat)
            clear he h1 h2 h3
            generalize aiRun room (List.replicate k x) steps.toNat = st at *
            obtain ⟨l, hv⟩ := st
            simp only at *
            go_wp2_with fail
            refine C.out.mono ?_
            clear C
            rintro e wX ⟨g2, c2, rfl, hrow, hB⟩
            have HR := Lib.hid hrow; clear hrow
            have I := Lib.hid (IR.out.later hB)
            have B : Hid (Below w.heap.size w wX) := BR.out.trans (hB.mono BR.out.size)
            clear hB
            have hc0 := HR.out.cell 0 (by omega)
            go_wp2_with fail
            go_loopw [17] (fun v12 wr2 => ∃ i m : Nat, 1 ≤ i ∧ i ≤ k ∧ v12 = .int .i64 i ∧ wr2 = wX.drewN m) (fun v12 _ => k - (intOf v12).toNat)
            case atStart => exact ⟨1, 0, by omega, by omega, rfl, rfl⟩
            case round =>
              obtain ⟨i, m, hi1, hi2, rfl, rfl⟩ := hrel
              by_cases hil : i < k
              · have hci := HR.out.cell i hil
                rw [HS.out i hil] at hci
                generalize l.getD 0 0 = y at *
                have q1 : (0 : Int) ≤ (i : Int) := by omega
                have q2 : (i : Int) < (k : Int) := by omega
                go_wp2_with fail
                go_quiet (fail)
                go_wp2_with fail
                go_roundw
                case rel => exact ⟨i + 1, _, by omega, by omega, by go_num, rfl⟩
                case measure => simp [intOf]; omega
              · have I' := I
                have B' := B
                have I := Lib.hid (I'.out.later (below_drewN (Below.refl _ _) m))
                have B : Hid (Below w.heap.size w (wX.drewN m)) := below_drewN B'.out m
                clear I' B' hc0 HR
                generalize wX.drewN m = wY at *
                by_cases he : aiE zs room = 0
                · by_cases hs : 0 ≤ steps ∧ steps ≤ 1000
                  · obtain ⟨h1, h2, h3, _, _⟩ := ai_ok he
                    have hL : 1 ≤ len ∧ len ≤ 5 := by rw [← hlz.out]; exact ⟨h1, h2⟩
                    obtain ⟨b, off, rfl, _, _⟩ := I.out.cell 0 (by omega)
                    have C := Lib.hid (airun_yes b off len cap room steps zs wY I.out he hL (all_mem h3) hs)
                    have HM := Lib.hid (fun i j hi hj h => ai_mono room zs steps.toNat i j hi hj h)
                    have HLN := Lib.hid (ai_len room zs steps.toNat)
                    clear he h3
                    generalize aiRun room zs steps.toNat = st at *
                    obtain ⟨l, hv⟩ := st
                    simp only at *
                    go_wp2_with fail
                    refine C.out.mono ?_
                    clear C
                    rintro e w3 ⟨g, c, rfl, hrow, hB⟩
                    have HROW := Lib.hid hrow
                    have I3 := Lib.hid (I.out.later hB)
                    have B3 : Hid (Below w.heap.size w w3) := B.out.trans (hB.mono B.out.size)
                    clear hB hrow h1 h2
                    obtain ⟨L1, L2⟩ := hL
                    go_wp2_with fail
                    go_loopw [21] (fun v16 wr => ∃ i m : Nat, i ≤ len ∧ v16 = .int .i64 i ∧ wr = w3.drewN m) (fun v16 _ => len - (intOf v16).toNat)
                    case atStart => exact ⟨0, 0, by omega, rfl, rfl⟩
                    case round =>
                      obtain ⟨i, m, hi, rfl, rfl⟩ := hrel
                      by_cases hil : i < len
                      · go_wp2_with fail
                        go_loopw [22] (fun v17 wr => ∃ k m : Nat, k ≤ len ∧ v17 = .int .i64 k ∧ wr = w3.drewN m) (fun v17 _ => len - (intOf v17).toNat)
                        case atStart => exact ⟨0, _, by omega, rfl, rfl⟩
                        case round =>
                          obtain ⟨k, m2, hk, rfl, rfl⟩ := hrel
                          by_cases hkl : k < len
                          · obtain ⟨bb, oo, e1, _, hci⟩ := I3.out.cell i hil
                            simp only [Option.some.injEq, Addr.mk.injEq, and_true] at e1
                            obtain ⟨rfl, rfl⟩ := e1
                            obtain ⟨bb, oo, e1, _, hck⟩ := I3.out.cell k hkl
                            simp only [Option.some.injEq, Addr.mk.injEq, and_true] at e1
                            obtain ⟨rfl, rfl⟩ := e1
                            have hmi := HROW.out.cell i hil
                            have hmk := HROW.out.cell k hkl
                            have hmono := HM.out i k (by rw [hlz.out]; exact hil) (by rw [hlz.out]; exact hkl)
                            generalize zs.getD i 0 = zi at *
                            generalize zs.getD k 0 = zk at *
                            generalize l.getD i 0 = li at *
                            generalize l.getD k 0 = lk at *
                            have q1 : (0 : Int) ≤ (i : Int) := by omega
                            have q2 : (i : Int) < (len : Int) := by omega
                            have q3 : (0 : Int) ≤ (k : Int) := by omega
                            have q4 : (k : Int) < (len : Int) := by omega
                            by_cases hz : zi ≤ zk
                            · have hl := hmono hz
                              have hz2 : decide (zi ≤ zk) = true := by simpa using hz
                              have hl2 : decide (lk < li) = false := by simp; omega
                              clear hmono
                              go_wp2_with fail
                              go_quiet (fail)
                              go_wp2_with fail
                              go_roundw
                              case rel => exact ⟨k + 1, _, by omega, by go_num, rfl⟩
                              case measure => simp [intOf]; omega
                            · have hz2 : decide (zi ≤ zk) = false := by simp; omega
                              have hz3 : zk < zi := by omega
                              clear hmono hz
                              go_wp2_with fail
                              go_quiet (fail)
                              go_wp2_with fail
                              go_roundw
                              case rel => exact ⟨k + 1, _, by omega, by go_num, rfl⟩
                              case measure => simp [intOf]; omega
                          · go_wp2_with fail
                            go_roundw
                            case rel => exact ⟨i + 1, _, by omega, by go_num, rfl⟩
                            case measure => simp [intOf]; omega
                      · go_wp2_with fail
                        go_ret
                        exact ⟨rfl, below_drewN B3.out _⟩
                  · have C := Lib.hid (airun_long a len cap room steps zs _ wY I.out he (by omega))
                    clear hs he
                    go_wp2_with fail
                    refine C.out.mono ?_
                    rintro e w2 ⟨rfl, rfl⟩
                    go_wp2
                    go_ret
                    exact ⟨rfl, B.out⟩
                · have C := Lib.hid (airun_no a len cap room steps zs _ wY I.out he)
                  clear he
                  generalize aiE zs room = n at *
                  go_wp2_with fail
                  refine C.out.mono ?_
                  rintro e w2 ⟨rfl, rfl⟩
                  go_wp2
                  go_ret
                  exact ⟨rfl, B.out⟩
          · have C := Lib.hid (airun_long _ k c room steps _ _ wr HJ.out he (by omega))
            clear hs he
            go_wp2_with fail
            refine C.out.mono ?_
            rintro e w2 ⟨rfl, rfl⟩
            go_wp2
            go_ret
            exact ⟨rfl, BR.out⟩
        · have C := Lib.hid (airun_no _ k c room steps _ _ wr HJ.out he)
          clear he
          generalize aiE (List.replicate k x) room = n at *
          go_wp2_with fail
          refine C.out.mono ?_
          rintro e w2 ⟨rfl, rfl⟩
          go_wp2
          go_ret
          exact ⟨rfl, BR.out⟩
  · have HM := Lib.hid (show mn < 1 ∨ 5 < mn by omega)
    clear hm
    go_wp2_with fail
    refine (in_out _ _ _ _ HM.out).mono ?_
    rintro e w' ⟨rfl, rfl⟩
    have I := I1
    have B := B1
    by_cases he : aiE zs room = 0
    · by_cases hs : 0 ≤ steps ∧ steps ≤ 1000
      · obtain ⟨h1, h2, h3, _, _⟩ := ai_ok he
        have hL : 1 ≤ len ∧ len ≤ 5 := by rw [← hlz.out]; exact ⟨h1, h2⟩
        obtain ⟨b, off, rfl, _, _⟩ := I.out.cell 0 (by omega)
        have C := Lib.hid (airun_yes b off len cap room steps zs w1 I.out he hL (all_mem h3) hs)
        have HM := Lib.hid (fun i j hi hj h => ai_mono room zs steps.toNat i j hi hj h)
        have HLN := Lib.hid (ai_len room zs steps.toNat)
        clear he h3
        generalize aiRun room zs steps.toNat = st at *
        obtain ⟨l, hv⟩ := st
        simp only at *
        go_wp2_with fail
        refine C.out.mono ?_
        clear C
        rintro e w3 ⟨g, c, rfl, hrow, hB⟩
        have HROW := Lib.hid hrow
        have I3 := Lib.hid (I.out.later hB)
        have B3 : Hid (Below w.heap.size w w3) := B.out.trans (hB.mono B.out.size)
        clear hB hrow h1 h2
        obtain ⟨L1, L2⟩ := hL
        go_wp2_with fail
        go_loopw [21] (fun v16 wr => ∃ i m : Nat, i ≤ len ∧ v16 = .int .i64 i ∧ wr = w3.drewN m) (fun v16 _ => len - (intOf v16).toNat)
        case atStart => exact ⟨0, 0, by omega, rfl, rfl⟩
        case round =>
          obtain ⟨i, m, hi, rfl, rfl⟩ := hrel
          by_cases hil : i < len
          · go_wp2_with fail
            go_loopw [22] (fun v17 wr => ∃ k m : Nat, k ≤ len ∧ v17 = .int .i64 k ∧ wr = w3.drewN m) (fun v17 _ => len - (intOf v17).toNat)
            case atStart => exact ⟨0, _, by omega, rfl, rfl⟩
            case round =>
              obtain ⟨k, m2, hk, rfl, rfl⟩ := hrel
              by_cases hkl : k < len
              · obtain ⟨bb, oo, e1, _, hci⟩ := I3.out.cell i hil
                simp only [Option.some.injEq, Addr.mk.injEq, and_true] at e1
                obtain ⟨rfl, rfl⟩ := e1
                obtain ⟨bb, oo, e1, _, hck⟩ := I3.out.cell k hkl
                simp only [Option.some.injEq, Addr.mk.injEq, and_true] at e1
                obtain ⟨rfl, rfl⟩ := e1
                have hmi := HROW.out.cell i hil
                have hmk := HROW.out.cell k hkl
                have hmono := HM.out i k (by rw [hlz.out]; exact hil) (by rw [hlz.out]; exact hkl)
                generalize zs.getD i 0 = zi at *
                generalize zs.getD k 0 = zk at *
                generalize l.getD i 0 = li at *
                generalize l.getD k 0 = lk at *
                have q1 : (0 : Int) ≤ (i : Int) := by omega
                have q2 : (i : Int) < (len : Int) := by omega
                have q3 : (0 : Int) ≤ (k : Int) := by omega
                have q4 : (k : Int) < (len : Int) := by omega
                by_cases hz : zi ≤ zk
                · have hl := hmono hz
                  have hz2 : decide (zi ≤ zk) = true := by simpa using hz
                  have hl2 : decide (lk < li) = false := by simp; omega
                  clear hmono
                  go_wp2_with fail
                  go_quiet (fail)
                  go_wp2_with fail
                  go_roundw
                  case rel => exact ⟨k + 1, _, by omega, by go_num, rfl⟩
                  case measure => simp [intOf]; omega
                · have hz2 : decide (zi ≤ zk) = false := by simp; omega
                  have hz3 : zk < zi := by omega
                  clear hmono hz
                  go_wp2_with fail
                  go_quiet (fail)
                  go_wp2_with fail
                  go_roundw
                  case rel => exact ⟨k + 1, _, by omega, by go_num, rfl⟩
                  case measure => simp [intOf]; omega
              · go_wp2_with fail
                go_roundw
                case rel => exact ⟨i + 1, _, by omega, by go_num, rfl⟩
                case measure => simp [intOf]; omega
          · go_wp2_with fail
            go_ret
            exact ⟨rfl, below_drewN B3.out _⟩
      · have C := Lib.hid (airun_long a len cap room steps zs _ w1 I.out he (by omega))
        clear hs he
        go_wp2_with fail
        refine C.out.mono ?_
        rintro e w2 ⟨rfl, rfl⟩
        go_wp2
        go_ret
        exact ⟨rfl, B.out⟩
    · have C := Lib.hid (airun_no a len cap room steps zs _ w1 I.out he)
      clear he
      generalize aiE zs room = n at *
      go_wp2_with fail
      refine C.out.mono ?_
      rintro e w2 ⟨rfl, rfl⟩
      go_wp2
      go_ret
      exact ⟨rfl, B.out⟩
end Go.Proofs.Ytikclgfldfpbdaa.aimdSame
