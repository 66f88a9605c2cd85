/- GcraShift returns true for every input: the walk. -/
import Derived.Test.YtikclgfldfpbdaaGcraF
import Derived.Test.YtikclgfldfpbdaaGcraPlain2
namespace Go.Proofs.Ytikclgfldfpbdaa.gcraShift
open Go.RowKit
set_option linter.unusedSimpArgs false
set_option linter.unusedVariables false

theorem ints_own {w : World} {base n : Nat} {v : Value} {zs : List Int} (h : w.ownsRow base 3 1 v n (zs.map (Value.int .i64))) (hl : zs.length = n) (hf : ∀ k, -9223372036854775808 ≤ zs.getD k 0 ∧ zs.getD k 0 ≤ 9223372036854775807) :
    ∃ a c, v = .slice a n c ∧ Ints w w.heap.size a n zs := by
  rcases Nat.eq_zero_or_pos n with h0 | h0
  · rcases h.2 with ⟨hv, _⟩ | ⟨g, cap, cur, hv, _⟩
    · subst h0; exact ⟨none, 0, hv, hl, by omega, by intro k hk; omega, hf⟩
    · exact ⟨_, _, hv, hl, by omega, by intro k hk; omega, hf⟩
  · rcases h.2 with ⟨_, h1⟩ | ⟨g, cap, cur, hv, hb, hg, hc, hm, _⟩
    · omega
    · refine ⟨some ⟨g, 0, none⟩, cap, hv, hl, by unfold maxLen at hm; omega, fun k hk => ⟨g, 0, rfl, lt_of_block hg, ?_⟩, hf⟩
      subst hv
      rw [Nat.zero_add, h.cellAt k (by omega)]
      simp only [List.getElem?_map, List.getD_eq_getElem?_getD]
      rw [List.getElem?_eq_getElem (by omega)]
      rfl
theorem info3g : (Try.prog.info? 3).map (fun i => (i.zero, i.size, i.bytes)) = some (some (.int .i64 0), 1, 8) := by kernel_rfl
theorem list_all {ts : List Int} {n : Nat} {P : Int → Prop} (hl : ts.length = n) (h : ∀ j, j < n → P (ts.getD j 0)) : ∀ t ∈ ts, P t := fun t ht => by
  obtain ⟨j, hj, rfl⟩ := List.getElem_of_mem ht
  have := h j (by omega)
  simpa [List.getD_eq_getElem?_getD, hj] using this

set_option maxHeartbeats 8000000 in
set_option maxRecDepth 100000 in
theorem walk (st sl : Int) (a : Option Addr) (len cap : Nat) (ts : List Int) (d : Int) (w : World) (hst : -9223372036854775808 ≤ st ∧ st ≤ 9223372036854775807) (hsl : -9223372036854775808 ≤ sl ∧ sl ≤ 9223372036854775807) (hI : Ints w w.heap.size a len ts) (hd : -9223372036854775808 ≤ d ∧ d ≤ 9223372036854775807) :
    Calls Try.prog 5 #[.int .i64 st, .int .i64 sl, .slice a len cap, .int .i64 d] w fun e w' => e = .returned (.bool true) ∧ Below w.heap.size w w' := by
  have hroom := hI.room
  have hlz := Lib.hid hI.size
  have HI := Lib.hid hI; clear hI
  obtain ⟨i0, hi3, hz0, hz1, hz2⟩ := info_parts info3g
  go_enter Try.func5, Try.ntmps5
  go_wp2_with fail
  refine (gfact_any _).mono ?_
  rintro e w1 ⟨rfl, hb1⟩
  have B1 := Lib.hid hb1; clear hb1
  have I1 := Lib.hid (HI.out.later B1.out)
  have CL := Lib.hid (leak_any st sl a len cap ts w1 I1.out)
  by_cases hE : leakE st sl ts = 0
  · have HE := Lib.hid hE; clear hE
    obtain ⟨s0, s1, l0, l1, hl2, htm⟩ := leak_zero HE.out
    have HTM := Lib.hid htm; clear htm
    have hlen : len ≤ 200 := by rw [hlz.out] at hl2; exact hl2
    clear hl2
    have HOUT := Lib.hid (lk_out (st := st) (sl := sl) HTM.out s0 l0)
    have HAT := Lib.hid (lk_at (st := st) (sl := sl) HTM.out s0 l0)
    go_wp2_with fail
    refine CL.out.mono ?_
    clear CL
    rintro e w2 ⟨he, _⟩
    obtain ⟨ga, gc, he2, hgi, hol, hB⟩ := he HE.out
    clear he
    rw [hol, hlz.out] at hgi he2
    subst he2
    have HG := Lib.hid hgi; clear hgi
    have BB := Lib.hid hB
    have B2 : Hid (Below w.heap.size w w2) := B1.out.trans (hB.mono B1.out.size)
    clear hB hol
    have HTA := Lib.hid (fun k hk => (tm_at (st := st) (sl := sl) HTM.out s0 l0 k hk))
    by_cases hv : 0 ≤ d ∧ d ≤ 1000
    · obtain ⟨d0, d1⟩ := hv
      have HSR := Lib.hid (shift_run st sl d d0 ts HTM.out)
      go_wp2_with fail
      refine (in_in _ _ _ _ d0 d1).mono ?_
      rintro e w' ⟨rfl, rfl⟩
      go_wp2_with fail
      go_loopw [12, 13] (fun v12 v13 wr => ∃ k : Nat, k ≤ len ∧ v13 = .int .i64 k ∧ wr.ownsRow w2.heap.size 3 1 v12 k (((ts.take k).map (· + d)).map (Value.int .i64)) ∧ Hid (∀ j, j < k → ts.getD j 0 + d ≤ 1000) ∧ Below w2.heap.size w2 wr)
        (fun _ v13 _ => len - (intOf v13).toNat)
      case atStart => exact ⟨0, by omega, rfl, World.ownsRow_nil _ _ _ _, fun j hj => by omega, Below.refl _ _⟩
      case round =>
        obtain ⟨k, hk, rfl, hown, HJ, hB⟩ := hrel
        have HB := Lib.hid hB; clear hB
        have HOW := Lib.hid hown; clear hown
        have hsz := HB.out.size
        by_cases hlt : k < len
        · obtain ⟨tb, toff, rfl, htb, hti⟩ := I1.out.cell k hlt
          have hcx := (HB.out.cell (p := ⟨tb, toff + k, none⟩) (Nat.lt_of_lt_of_le htb BB.out.size)).trans ((BB.out.cell (p := ⟨tb, toff + k, none⟩) htb).trans hti)
          clear hti
          obtain ⟨t0, t1⟩ := HTA.out k (by rw [hlz.out]; exact hlt)
          have HTS := Lib.hid (take_succ_int ts k (by rw [hlz.out]; exact hlt))
          by_cases hov : ts.getD k 0 ≤ 1000 - d
          · have HJ2 : Hid (∀ j, j < k + 1 → ts.getD j 0 + d ≤ 1000) := fun j hj => by
              rcases Nat.lt_or_ge j k with h | h
              · exact HJ.out j h
              · rw [show j = k from by omega]; omega
            generalize ts.getD k 0 = t at *
            go_wp2_with (first | (at_builtin; refine wpList_append_lies _ rfl (.tmp 46) (.tmp 53) 22 rfl w2.heap.size 3 i0 (.int .i64 0) 1 8 Try.underlying22 hi3 hz0 hz1 hz2 rfl (by decide) _ _ _ rfl (HOW.out.alloc _) ⟨wr.heap.size, 0, none⟩ 1 1 [.int .i64 (t + d)] rfl rfl (cell_one_new _ _ _) (by intro u hu; simp at hu; subst hu; rfl) (by decide) (by unfold maxLen; omega) (by omega) (by simp; omega) _ rfl ?_))
            intro g9 c9 w4 hown1 hgrow1 hat1 hlt1
            have HB4 : Hid (Below w2.heap.size w2 w4) := (HB.out.alloc HB.out.size _).grown hgrow1 (by simp; omega) (fun kk hkk => (HOW.out.lt kk hkk).1)
            have HOW2 := Lib.hid hown1
            clear hown1 hgrow1 hat1 hlt1 hcx
            go_wp2_with fail
            go_roundw
            case rel => exact ⟨k + 1, by omega, by go_num, by rw [HTS.out]; simpa using HOW2.out, HJ2, HB4.out⟩
            case measure => simp [intOf]; omega
          · generalize ts.getD k 0 = t at *
            go_wp2_with fail
            go_ret
            exact ⟨rfl, B2.out.trans (HB.out.mono B2.out.size)⟩
        · have hkk : k = len := by omega
          subst hkk
          have hall : ts.take k = ts := List.take_of_length_le (by rw [hlz.out]; exact Nat.le_refl _)
          have HTAs := Lib.hid (list_all (P := fun t => 0 ≤ t ∧ t ≤ 1000) hlz.out (fun j hj => HTA.out j (by rw [hlz.out]; exact hj)))
          have HJs := Lib.hid (list_all (P := fun t => t + d ≤ 1000) hlz.out HJ.out)
          have hown2 := HOW.out
          rw [hall] at hown2
          have hlm : (ts.map (· + d)).length = k := by simp [hlz.out]
          obtain ⟨ga2, gc2, hv2, hgi2⟩ := ints_own hown2 hlm (fun j => by
            rcases Nat.lt_or_ge j ts.length with h | h
            · have h1 := HTAs.out _ (List.getElem_mem h)
              simp [List.getD_eq_getElem?_getD, h]; omega
            · rw [List.getD_eq_getElem?_getD, List.getElem?_eq_none (by simpa using h)]; simp)
          subst hv2
          have HLM := Lib.hid hlm
          have CL2 := Lib.hid (leak_any st sl ga2 k gc2 (ts.map (· + d)) wr hgi2)
          have hE2 : Hid (leakE st sl (ts.map (· + d)) = 0) := by
            show _ = _
            unfold leakE
            rw [if_pos ⟨⟨s0, s1⟩, l0, l1⟩, if_neg (by rw [HLM.out]; omega)]
            exact shift_tm d ts 0 0 HTM.out (by omega) (fun t ht => by have := HTAs.out t ht; have := HJs.out t ht; omega)
          clear hown2 hgi2 hall hlm
          go_wp2_with fail
          refine CL2.out.mono ?_
          clear CL2
          rintro e w5 ⟨he, _⟩
          obtain ⟨gb3, gc3, he3, hgi3, hol3, hB3⟩ := he hE2.out
          clear he
          rw [hol3, HLM.out] at hgi3 he3
          rw [← HSR.out] at hgi3
          subst he3
          have HG3 := Lib.hid hgi3; clear hgi3 hol3
          have HG1 : Hid (Bools w5 w2.heap.size ga k (lkRun st sl ts).out) := (HG.out.below HB.out).below (hB3.mono HB.out.size)
          have B5 : Hid (Below w.heap.size w w5) := B2.out.trans ((HB.out.mono B2.out.size).trans (hB3.mono (Nat.le_trans B2.out.size HB.out.size)))
          clear hB3
          generalize (lkRun st sl ts).out = bs at *
          go_wp2_with fail
          refine (bsame_yes _ _ k _ _ bs _ _ _ HG1.out HG3.out).mono ?_
          rintro e w6 ⟨rfl, n, rfl⟩
          go_wp2
          go_ret
          exact ⟨by simp, below_drewN B5.out _⟩
    · have HV := Lib.hid (show d < 0 ∨ 1000 < d by omega)
      clear hv
      go_wp2_with fail
      refine (in_out _ _ _ _ HV.out).mono ?_
      rintro e w' ⟨rfl, rfl⟩
      go_wp2
      go_ret
      exact ⟨rfl, B2.out⟩
  · have HE := Lib.hid hE; clear hE
    go_wp2_with fail
    refine CL.out.mono ?_
    clear CL
    rintro e w2 ⟨_, he⟩
    obtain ⟨he2, hB⟩ := he HE.out
    clear he
    subst he2
    have B2 : Hid (Below w.heap.size w w2) := B1.out.trans (hB.mono B1.out.size)
    clear hB
    generalize leakE st sl ts = n at *
    go_wp2
    go_ret
    exact ⟨rfl, B2.out⟩
end Go.Proofs.Ytikclgfldfpbdaa.gcraShift
