/- GbnFast returns true for every input: the walk. -/
import Derived.Test.YtnkcjkemhdigpaaGbnF
import Derived.Test.YtnkcjkemhdigpaaGbnPlain2
namespace Go.Proofs.Ytnkcjkemhdigpaa.gbnFast
open Go.RowKit
set_option linter.unusedSimpArgs false
set_option linter.unusedVariables false

theorem infoF : (Try.prog.info? 32).map (fun i => (i.zero, i.size, i.bytes)) = some (some (.agg #[.bool false, .bool false]), 2, 2) := by kernel_rfl
theorem flat_len (fs : List (Bool × Bool)) : (flat fs).length = fs.length * 2 := by
  induction fs with
  | nil => rfl
  | cons f fs ih => simp only [flat, List.length_cons, ih]; omega
theorem flat_snoc (fs : List (Bool × Bool)) (f : Bool × Bool) : flat (fs ++ [f]) = flat fs ++ [.bool f.1, .bool f.2] := by
  induction fs with
  | nil => rfl
  | cons g fs ih => simp only [List.cons_append, flat, ih]
theorem pairs_own {w : World} {base n : Nat} {v : Value} {fs : List (Bool × Bool)} (h : w.ownsRow base 32 2 v n (flat fs)) (hl : fs.length = n) (hn : n ≤ 1000) :
    ∃ a c, v = .slice a n c ∧ Pairs w w.heap.size a n fs := by
  rcases Nat.eq_zero_or_pos n with h0 | h0
  · rcases h.2 with ⟨hv, _⟩ | ⟨g, cap, cur, hv, _⟩
    · subst h0; exact ⟨none, 0, hv, hl, by omega, by intro k hk; omega⟩
    · exact ⟨_, _, hv, hl, by omega, by intro k hk; omega⟩
  · rcases h.2 with ⟨_, h1⟩ | ⟨g, cap, cur, hv, hb, hg, hc, hm, _⟩
    · omega
    · refine ⟨some ⟨g, 0, none⟩, cap, hv, hl, by omega, fun k hk => ⟨g, 0, rfl, lt_of_block hg, ?_, ?_⟩⟩ <;> subst hv
      · rw [Nat.zero_add, h.cellAt (k * 2) (by omega)]; exact (flat_at fs k (by omega)).1
      · rw [Nat.zero_add, h.cellAt (k * 2 + 1) (by omega)]; exact (flat_at fs k (by omega)).2

theorem fate_one (w : World) : ∀ j u, [Value.bool false, Value.bool false][j]? = some u → (w.alloc (.cells #[.bool false, .bool false] 32 (0, 0))).cell? ((⟨w.heap.size, 0, none⟩ : Addr).add j) = some u := by
  intro j u hj
  have hc := (Obj.new w [.bool false, .bool false] 32).cell j
  rw [hj] at hc
  have e : (⟨w.heap.size, 0, none⟩ : Addr).add j = ⟨w.heap.size, j, none⟩ := by simp [Addr.add, eq_comm]
  rw [e]; exact hc

set_option maxHeartbeats 8000000 in
set_option maxRecDepth 100000 in
theorem walk (a : Option Addr) (len cap : Nat) (zs : List Int) (win rnd more : Int) (w : World) (hI : Ints w w.heap.size a len zs) (hw : -9223372036854775808 ≤ win ∧ win ≤ 9223372036854775807) (hr : -9223372036854775808 ≤ rnd ∧ rnd ≤ 9223372036854775807) (hm : -9223372036854775808 ≤ more ∧ more ≤ 9223372036854775807) :
    Calls Try.prog 6 #[.slice a len cap, .int .i64 win, .int .i64 rnd, .int .i64 more] w fun e w' => e = .returned (.bool true) ∧ Below w.heap.size w w' := by
  have hroom := hI.room
  have hlz := Lib.hid hI.size
  have HI := Lib.hid hI; clear hI
  obtain ⟨i0, hi, hz0, hz1, hz2⟩ := info_parts infoF
  go_enter Try.func6, Try.ntmps6
  go_wp2_with fail
  refine (gfact_any _).mono ?_
  rintro e w1 ⟨rfl, hb1⟩
  have B1 := Lib.hid hb1; clear hb1
  have I1 := Lib.hid (HI.out.later B1.out)
  by_cases hv : 0 ≤ more ∧ more ≤ 99
  · obtain ⟨v0, v1⟩ := hv
    by_cases hwr : rnd ≤ win
    · go_wp2_with fail
      refine (in_in _ _ _ _ v0 v1).mono ?_
      rintro e w' ⟨rfl, rfl⟩
      go_wp2
      go_ret
      exact ⟨rfl, B1.out⟩
    · have hwr2 : win < rnd := by omega
      clear hwr
      go_wp2_with fail
      refine (in_in _ _ _ _ v0 v1).mono ?_
      rintro e w' ⟨rfl, rfl⟩
      obtain ⟨m, rfl⟩ := Int.eq_ofNat_of_zero_le v0
      have hm9 : m ≤ 99 := by omega
      clear hm v0 v1
      by_cases hnw : len + m ≤ 9223372036854775807
      · clear hroom
        go_wp2_with fail
        go_loopw [10, 11] (fun v10 v11 wr => ∃ k : Nat, k ≤ len + m ∧ k ≤ 200 ∧ v11 = .int .i64 k ∧ wr.ownsRow w1.heap.size 32 2 v10 k (flat (List.replicate k (false, false))) ∧ Below w1.heap.size w1 wr) (fun _ v11 _ => 200 - (intOf v11).toNat)
        case atStart => exact ⟨0, by omega, by omega, rfl, World.ownsRow_nil _ _ _ _, Below.refl _ _⟩
        case round =>
          obtain ⟨k, hk, hk2, rfl, hown, hB⟩ := hrel
          have HB := Lib.hid hB; clear hB
          have HOW := Lib.hid hown; clear hown
          by_cases h1 : k < len + m
          · by_cases h2 : k < 200
            · clear hk hk2
              go_wp2_with (first | (at_builtin; go_loud (refine wpList_append_lies _ rfl (.tmp 38) (.tmp 40) 23 rfl w1.heap.size 32 i0 (.agg #[.bool false, .bool false]) 2 2 Try.underlying23 hi hz0 hz1 hz2 rfl (by decide) _ _ _ rfl (HOW.out.alloc _) ⟨wr.heap.size, 0, none⟩ 1 1 [.bool false, .bool false] rfl rfl (fate_one wr) (by intro u hu; simp at hu; subst hu; rfl) (by decide) (by unfold maxLen; omega) (by omega) (by have := HB.out.size; simp; omega) _ rfl ?_)))
              intro g cap w4 hown1 hgrow1 hat1 hlt1
              have HB2 : Hid (Below w1.heap.size w1 w4) := grown_below (HB.out.alloc HB.out.size _) hgrow1 (Nat.le_refl _) (by have := HB.out.size; simp; omega) (HOW.out.alloc _)
              have HOW2 := Lib.hid hown1
              clear hown1 hgrow1 hat1 hlt1
              go_wp2_with fail
              go_roundw
              case rel => exact ⟨k + 1, by omega, by omega, by go_num, by rw [List.replicate_succ', flat_snoc]; exact HOW2.out, HB2.out⟩
              case measure => simp [intOf]; omega
            · obtain ⟨fa, fc, hv, hfi⟩ := pairs_own HOW.out (by simp) (by omega)
              subst hv
              have F := Lib.hid hfi; clear hfi
              have I := Lib.hid (I1.out.later HB.out)
              have hle := hlz.out
              subst hle
              by_cases he : aheadE zs k win rnd = 0
              · obtain ⟨_, o1, o2, o3, o4, o5, o6⟩ := ahead_ok he
                exfalso; omega
              · have C := Lib.hid (fun w' af cf h => grun_no a zs.length cap win rnd af k cf zs wr.heap.size w' h he)
                have B2 : Hid (Below w.heap.size w wr) := B1.out.trans (HB.out.mono B1.out.size)
                generalize zs.length = n at *
                generalize aheadE zs k win rnd = n2 at *
                go_wp2_with fail
                refine (C.out _ _ _ I.out).mono ?_
                rintro e w2 ⟨rfl, rfl⟩
                go_wp2
                go_ret
                exact ⟨rfl, B2.out⟩
          · obtain ⟨fa, fc, hv, hfi⟩ := pairs_own HOW.out (by simp) (by omega)
            subst hv
            have F := Lib.hid hfi; clear hfi
            have I := Lib.hid (I1.out.later HB.out)
            have hle := hlz.out
            subst hle
            by_cases he : aheadE zs k win rnd = 0
            · obtain ⟨_, o1, o2, o3, o4, o5, o6⟩ := ahead_ok he
              obtain ⟨W, rfl⟩ := Int.eq_ofNat_of_zero_le (show 0 ≤ win by omega)
              obtain ⟨R, rfl⟩ := Int.eq_ofNat_of_zero_le (show 0 ≤ rnd by omega)
              have C := Lib.hid (fun w' af cf h1 h2 => grun_yes a zs.length cap W R af k cf zs (List.replicate k (false, false)) w' h1 h2 he (by omega) (by omega) (by omega) (by omega) o1 o2)
              rw [fast_run zs (show 1 ≤ W by omega) (show W < R by omega) k, show min k zs.length = zs.length from by omega, List.take_of_length_le (show zs.length ≤ k by omega)] at C
              clear he
              go_wp2_with fail
              refine (C.out _ _ _ I.out F.out).mono ?_
              clear C
              rintro e w2 ⟨ga, gc, rfl, hgi, hB2⟩
              have G := Lib.hid hgi; clear hgi
              have IB := Lib.hid (I.out.below hB2)
              have B2 : Hid (Below w.heap.size w w2) := B1.out.trans ((HB.out.mono B1.out.size).trans (hB2.mono (Nat.le_trans B1.out.size HB.out.size)))
              clear hB2
              generalize zs.length = n at *
              go_wp2_with fail
              refine (same_yes _ _ n _ _ zs _ _ _ G.out IB.out).mono ?_
              rintro e w3 ⟨rfl, n2, rfl⟩
              go_wp2
              go_ret
              exact ⟨by simp, below_drewN B2.out _⟩
            · have C := Lib.hid (fun w' af cf h => grun_no a zs.length cap win rnd af k cf zs wr.heap.size w' h he)
              have B2 : Hid (Below w.heap.size w wr) := B1.out.trans (HB.out.mono B1.out.size)
              generalize zs.length = n at *
              generalize aheadE zs k win rnd = n2 at *
              go_wp2_with fail
              refine (C.out _ _ _ I.out).mono ?_
              rintro e w2 ⟨rfl, rfl⟩
              go_wp2
              go_ret
              exact ⟨rfl, B2.out⟩
      · have hwv : IntKind.i64.wrap ((len : Int) + (m : Int)) = (len : Int) + (m : Int) - 18446744073709551616 := by
          rw [IntKind.wrap_i64]; omega
        go_wp2_with fail
        go_loopw [10, 11] (fun v10 v11 wr => v10 = .slice none 0 0 ∧ v11 = .int .i64 ((0 : Nat) : Int) ∧ wr = w1) (fun _ _ _ => 0)
        case atStart => exact ⟨rfl, rfl, rfl⟩
        case round =>
          obtain ⟨rfl, rfl, rfl⟩ := hrel
          have F := Lib.hid (show Pairs wr wr.heap.size none 0 [] from ⟨rfl, by omega, by intro k hk; omega⟩)
          have hle := hlz.out
          subst hle
          have he : ¬ aheadE zs 0 win rnd = 0 := by
            intro he
            obtain ⟨_, o1, o2, o3, o4, o5, o6⟩ := ahead_ok he
            omega
          have C := Lib.hid (fun w' af cf h => grun_no a zs.length cap win rnd af 0 cf zs wr.heap.size w' h he)
          generalize zs.length = n at *
          generalize aheadE zs 0 win rnd = n2 at *
          go_wp2_with fail
          refine (C.out _ _ _ I1.out).mono ?_
          rintro e w2 ⟨rfl, rfl⟩
          go_wp2
          go_ret
          exact ⟨rfl, B1.out⟩
  · have HV := Lib.hid (show more < 0 ∨ 99 < more by omega)
    clear hv
    go_wp2_with fail
    refine (in_out _ _ _ _ HV.out).mono ?_
    rintro e w' ⟨rfl, rfl⟩
    go_wp2
    go_ret
    exact ⟨rfl, B1.out⟩
end Go.Proofs.Ytnkcjkemhdigpaa.gbnFast
