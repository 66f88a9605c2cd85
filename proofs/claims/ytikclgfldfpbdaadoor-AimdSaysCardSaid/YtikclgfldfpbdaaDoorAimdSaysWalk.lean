/- AimdSays returns true for every input: the walk. -/
import Derived.Test.YtikclgfldfpbdaaDoorAimdRef
import Derived.Test.YtikclgfldfpbdaaDoorInts
import Derived.Test.YtikclgfldfpbdaaDoorTold
namespace Go.Proofs.YtikclgfldfpbdaaDoor.aimdSays
open Go.RowKit
set_option linter.unusedSimpArgs false
set_option linter.unusedVariables false

theorem aiE_one {zs : List Int} {room : Int} (h : aiE zs 1 ≠ 0) : aiE zs room ≠ 0 := fun he => by
  obtain ⟨h1, h2, h3, _, _⟩ := ai_ok he
  rcases ai_cases zs 1 with ⟨_, e⟩ | ⟨_, e⟩ | ⟨_, _, ⟨k, hk, h'⟩, e⟩ | ⟨_, _, _, h', e⟩ | ⟨_, _, _, _, e⟩
  · omega
  · omega
  · have := h3 k hk; omega
  · omega
  · exact h e
/-- The last and the first of what is rising. -/
theorem ris_ends {zs : List Int} {us : List Bool} {idx : List Nat} (h : Ris zs us idx) (hl : idx.length = zs.length) (h1 : 1 ≤ zs.length) :
    ∃ p q, p < zs.length ∧ q < zs.length ∧ idx[zs.length - 1]? = some p ∧ idx[0]? = some q ∧ zs.getD p 0 = mxN zs (zs.length - 1) ∧ zs.getD q 0 = mnN zs (zs.length - 1) := by
  have hp1 : zs.length - 1 < idx.length := by omega
  have hp0 : 0 < idx.length := by omega
  refine ⟨idx[zs.length - 1], idx[0], h.inn _ (List.getElem_mem hp1), h.inn _ (List.getElem_mem hp0), List.getElem?_eq_getElem hp1, List.getElem?_eq_getElem hp0, ?_, ?_⟩
  all_goals
    have hful := nodup_full zs.length idx h.nodup h.inn (by omega)
    have hmem : ∀ i, i < zs.length → i ∈ idx := fun i hi => hful.mem_iff.2 (List.mem_range.2 hi)
    have hrise := h.rise
    rw [List.pairwise_map, List.pairwise_iff_getElem] at hrise
  · have hle : ∀ i, i < zs.length → zs.getD i 0 ≤ zs.getD idx[zs.length - 1] 0 := fun i hi => by
      obtain ⟨j, hj, e⟩ := List.getElem_of_mem (hmem i hi)
      rcases Nat.lt_or_ge j (zs.length - 1) with h' | h'
      · have := hrise j (zs.length - 1) hj hp1 h'
        rw [e] at this; exact this
      · have e2 : j = zs.length - 1 := by omega
        subst e2; rw [← e]; exact Int.le_refl _
    obtain ⟨j, hj, e⟩ := mxN_mem zs (zs.length - 1)
    have g1 := hle j (by omega)
    have g2 := mxN_ge zs (zs.length - 1) idx[zs.length - 1] (by have := h.inn _ (List.getElem_mem hp1); omega)
    omega
  · have hle : ∀ i, i < zs.length → zs.getD idx[0] 0 ≤ zs.getD i 0 := fun i hi => by
      obtain ⟨j, hj, e⟩ := List.getElem_of_mem (hmem i hi)
      rcases Nat.eq_zero_or_pos j with h' | h'
      · subst h'; rw [← e]; exact Int.le_refl _
      · have := hrise 0 j hp0 hj h'
        rw [e] at this; exact this
    obtain ⟨j, hj, e⟩ := mnN_mem zs (zs.length - 1)
    have g1 := hle j (by omega)
    have g2 := mnN_le zs (zs.length - 1) idx[0] (by have := h.inn _ (List.getElem_mem hp0); omega)
    omega

set_option maxHeartbeats 16000000 in
set_option maxRecDepth 100000 in
theorem walk (a : Option Addr) (len cap : Nat) (zs : List Int) (room steps : Int) (w : World) (hI : Ints w w.heap.size a len zs) (hr : -9223372036854775808 ≤ room ∧ room ≤ 9223372036854775807) (hst : -9223372036854775808 ≤ steps ∧ steps ≤ 9223372036854775807) (hd : Hd w) :
    Calls Tryd.prog 4 #[.slice a len cap, .int .i64 room, .int .i64 steps] w fun e w' => e = .returned (.bool true) ∧ Below w.heap.size w w' := by
  have hlz := Lib.hid hI.size
  have HI := Lib.hid hI; clear hI
  have HD := Lib.hid hd; clear hd
  have eerr : ∀ n, aiErr n = errOr n := fun _ => rfl
  have F := Lib.hid (mflows_any a len cap room zs _ w HI.out)
  have K := Lib.hid (aicheck_any a len cap room zs _ w HI.out)
  rw [eerr] at K
  clear eerr
  by_cases he : aiE zs room = 0
  · obtain ⟨h1, h2, h3, h4, h5⟩ := ai_ok he
    have he1 : aiE zs 1 = 0 := by
      apply Classical.byContradiction
      intro h
      exact aiE_one (room := room) h he
    have hL : 1 ≤ len ∧ len ≤ 5 := by rw [← hlz.out]; exact ⟨h1, h2⟩
    have AM := Lib.hid (all_mem h3)
    rw [he] at F K
    obtain ⟨b, off, rfl, _, _⟩ := HI.out.cell 0 (by omega)
    have E := Lib.hid (err_same 0 w HD.out)
    have e0 : errOr 0 = .nilIface := rfl
    rw [e0] at E K
    clear e0
    go_enter Tryd.func4, Tryd.ntmps4
    go_wp2_with fail
    refine F.out.mono ?_
    rintro e w' ⟨rfl, rfl⟩
    go_wp2_with fail
    refine K.out.mono ?_
    rintro e w' ⟨rfl, rfl⟩
    go_wp2_with fail
    refine E.out.mono ?_
    clear E F K
    rintro e w1 ⟨rfl, hB⟩
    have B1 := Lib.hid hB; clear hB
    have I1 := Lib.hid (HI.out.later B1.out)
    by_cases hs : 0 ≤ steps ∧ steps ≤ 1000
    · have R := Lib.hid (maimd_any b off len cap room steps zs w1 I1.out hL AM.out hs)
      have P := Lib.hid (fun w' h => airun_yes b off len cap room steps zs w' h he hL AM.out hs)
      have HB := Lib.hid (ai_bounds room zs steps.toNat AM.out)
      obtain ⟨s1, s2⟩ := hs
      clear he h1 h2 h3 h4 h5
      generalize aiRun room zs steps.toNat = st at *
      obtain ⟨l, hv⟩ := st
      simp only at *
      go_wp2_with fail
      refine (in_in _ _ _ _ s1 s2).mono ?_
      rintro e w' ⟨rfl, rfl⟩
      go_wp2_with fail
      refine R.out.mono ?_
      clear R
      rintro e w2 ⟨g, o, c, rfl, hint, hB⟩
      have G := Lib.hid hint; clear hint
      have B2 : Hid (Below w.heap.size w w2) := B1.out.trans (hB.mono B1.out.size)
      have I2 := Lib.hid (I1.out.later hB)
      clear hB
      go_wp2_with fail
      refine (P.out w2 I2.out).mono ?_
      clear P
      rintro e w3 ⟨g2, c2, rfl, hrow, hB⟩
      have B3 : Hid (Below w.heap.size w w3) := B2.out.trans (hB.mono B2.out.size)
      have G3 := Lib.hid (G.out.later hB)
      have M3 := Lib.hid (hrow.ints (by omega) (M := 1000 + (steps.toNat : Int)) (by omega) HB.out)
      clear hB hrow G
      have E := Lib.hid (err_same 0 w3 (HD.out.later B3.out))
      have e0 : errOr 0 = .nilIface := rfl
      rw [e0] at E
      clear e0
      go_wp2_with fail
      refine E.out.mono ?_
      clear E
      rintro e w4 ⟨rfl, hB⟩
      have B4 : Hid (Below w.heap.size w w4) := B3.out.trans (hB.mono B3.out.size)
      have G4 := Lib.hid (G3.out.later hB)
      have M4 := Lib.hid (M3.out.later hB)
      clear hB G3 M3
      go_wp2_with fail
      refine (same_yes _ _ len _ _ l _ _ w4 M4.out G4.out).mono ?_
      clear M4 G4
      rintro e w5 ⟨rfl, m, rfl⟩
      have B5 : Hid (Below w.heap.size w (w4.drewN m)) := below_drewN B4.out m
      generalize w4.drewN m = wX at *
      have IX := Lib.hid (HI.out.later B5.out)
      have F := Lib.hid (mflows_any (some ⟨b, off, none⟩) len cap 1 zs _ wX IX.out)
      rw [he1] at F
      obtain ⟨L1, L2⟩ := hL
      go_wp2_with fail
      refine F.out.mono ?_
      clear F
      rintro e w' ⟨rfl, rfl⟩
      go_wp2_with fail
      refine (rising_any b off len cap zs wX IX.out L1 (by omega)).mono ?_
      rintro e w6 ⟨g6, c6, idx, rfl, hcel, hil, ⟨us, hris⟩, hB⟩
      have B6 : Hid (Below w.heap.size w w6) := B5.out.trans (hB.mono B5.out.size)
      have I6 := Lib.hid (IX.out.later hB)
      clear hB
      obtain ⟨p, q, hp, hq, ip, iq, ep, eq_⟩ := ris_ends hris (by rw [hil, hlz.out]) (by rw [hlz.out]; exact L1)
      rw [hlz.out] at ip ep eq_
      have cl : w6.cell? ⟨g6, len - 1, none⟩ = some (.int .i64 (mxN zs (len - 1))) := by
        rw [hcel.cell (len - 1) (by simp; omega), List.getElem?_map, List.getElem?_map, ip, ← ep]; rfl
      have cf : w6.cell? ⟨g6, 0, none⟩ = some (.int .i64 (mnN zs (len - 1))) := by
        rw [hcel.cell 0 (by simp; omega), List.getElem?_map, List.getElem?_map, iq, ← eq_]; rfl
      have A := Lib.hid (fun n => apart_yes (some ⟨b, off, none⟩) len cap zs _ (w6.drewN n) (I6.out.later (below_drewN (Below.refl _ _) n)) he1)
      obtain ⟨_, _, h3, _, _⟩ := ai_ok he1
      have hb1 : 0 ≤ mxN zs (len - 1) ∧ mxN zs (len - 1) ≤ 1000 := by
        rw [← ep]; exact h3 p hp
      have hb2 : 0 ≤ mnN zs (len - 1) ∧ mnN zs (len - 1) ≤ 1000 := by
        rw [← eq_]; exact h3 q hq
      clear h3 hcel hil hris hp hq ip iq ep eq_ he1
      generalize mxN zs (len - 1) = x at *
      generalize mnN zs (len - 1) = y at *
      have q1 : (0 : Int) ≤ (len : Int) - 1 := by omega
      have q2 : (len : Int) - 1 < (len : Int) := by omega
      have q3 : ((len : Int) - 1).toNat = len - 1 := by omega
      go_wp2_with fail
      go_quiet (fail)
      go_wp2_with fail
      refine (A.out _).mono ?_
      clear A
      rintro e w7 ⟨rfl, hw7⟩
      have B7 : Hid (Below w.heap.size w w7) := by
        show Below w.heap.size w w7
        obtain ⟨m7, hm7⟩ := hw7
        rw [hm7]; exact below_drewN (below_drewN B6.out _) m7
      clear hw7
      have E := Lib.hid (err_same 0 _ (HD.out.later B7.out))
      have e0 : errOr 0 = .nilIface := rfl
      rw [e0] at E
      clear e0
      go_wp2_with fail
      refine E.out.mono ?_
      clear E
      rintro e w8 ⟨rfl, hB⟩
      have B8 := Lib.hid (B7.out.trans (hB.mono B7.out.size))
      clear hB
      go_wp2_with fail
      go_ret
      exact ⟨by simp, B8.out⟩
    · have R := Lib.hid (airun_long (some ⟨b, off, none⟩) len cap room steps zs _ w1 I1.out he (by omega))
      have hs2 := Lib.hid (show steps < 0 ∨ 1000 < steps by omega)
      clear he h1 h2 h3 h4 h5 hs
      go_wp2_with fail
      refine (in_out _ _ _ _ hs2.out).mono ?_
      rintro e w' ⟨rfl, rfl⟩
      go_wp2_with fail
      refine R.out.mono ?_
      clear R
      rintro e w' ⟨rfl, rfl⟩
      have E := Lib.hid (err_same 1 w1 (HD.out.later B1.out))
      have e0 : errOr 1 = errV 1 := rfl
      rw [e0] at E
      clear e0
      go_wp2_with fail
      refine E.out.mono ?_
      clear E
      rintro e w4 ⟨rfl, hB⟩
      have B4 : Hid (Below w.heap.size w w4) := B1.out.trans (hB.mono B1.out.size)
      clear hB
      go_wp2_with fail
      refine (same_yes _ _ 0 _ _ [] _ _ w4 (ints_nil _ 0) (ints_nil _ 0)).mono ?_
      rintro e w5 ⟨rfl, m, rfl⟩
      have B5 : Hid (Below w.heap.size w (w4.drewN m)) := below_drewN B4.out m
      generalize w4.drewN m = wX at *
      have IX := Lib.hid (HI.out.later B5.out)
      have F := Lib.hid (mflows_any (some ⟨b, off, none⟩) len cap 1 zs _ wX IX.out)
      rw [he1] at F
      obtain ⟨L1, L2⟩ := hL
      go_wp2_with fail
      refine F.out.mono ?_
      clear F
      rintro e w' ⟨rfl, rfl⟩
      go_wp2_with fail
      refine (rising_any b off len cap zs wX IX.out L1 (by omega)).mono ?_
      rintro e w6 ⟨g6, c6, idx, rfl, hcel, hil, ⟨us, hris⟩, hB⟩
      have B6 : Hid (Below w.heap.size w w6) := B5.out.trans (hB.mono B5.out.size)
      have I6 := Lib.hid (IX.out.later hB)
      clear hB
      obtain ⟨p, q, hp, hq, ip, iq, ep, eq_⟩ := ris_ends hris (by rw [hil, hlz.out]) (by rw [hlz.out]; exact L1)
      rw [hlz.out] at ip ep eq_
      have cl : w6.cell? ⟨g6, len - 1, none⟩ = some (.int .i64 (mxN zs (len - 1))) := by
        rw [hcel.cell (len - 1) (by simp; omega), List.getElem?_map, List.getElem?_map, ip, ← ep]; rfl
      have cf : w6.cell? ⟨g6, 0, none⟩ = some (.int .i64 (mnN zs (len - 1))) := by
        rw [hcel.cell 0 (by simp; omega), List.getElem?_map, List.getElem?_map, iq, ← eq_]; rfl
      have A := Lib.hid (fun n => apart_yes (some ⟨b, off, none⟩) len cap zs _ (w6.drewN n) (I6.out.later (below_drewN (Below.refl _ _) n)) he1)
      obtain ⟨_, _, h3, _, _⟩ := ai_ok he1
      have hb1 : 0 ≤ mxN zs (len - 1) ∧ mxN zs (len - 1) ≤ 1000 := by
        rw [← ep]; exact h3 p hp
      have hb2 : 0 ≤ mnN zs (len - 1) ∧ mnN zs (len - 1) ≤ 1000 := by
        rw [← eq_]; exact h3 q hq
      clear h3 hcel hil hris hp hq ip iq ep eq_ he1
      generalize mxN zs (len - 1) = x at *
      generalize mnN zs (len - 1) = y at *
      have q1 : (0 : Int) ≤ (len : Int) - 1 := by omega
      have q2 : (len : Int) - 1 < (len : Int) := by omega
      have q3 : ((len : Int) - 1).toNat = len - 1 := by omega
      go_wp2_with fail
      go_quiet (fail)
      go_wp2_with fail
      refine (A.out _).mono ?_
      clear A
      rintro e w7 ⟨rfl, hw7⟩
      have B7 : Hid (Below w.heap.size w w7) := by
        show Below w.heap.size w w7
        obtain ⟨m7, hm7⟩ := hw7
        rw [hm7]; exact below_drewN (below_drewN B6.out _) m7
      clear hw7
      have E := Lib.hid (err_same 0 _ (HD.out.later B7.out))
      have e0 : errOr 0 = .nilIface := rfl
      rw [e0] at E
      clear e0
      go_wp2_with fail
      refine E.out.mono ?_
      clear E
      rintro e w8 ⟨rfl, hB⟩
      have B8 := Lib.hid (B7.out.trans (hB.mono B7.out.size))
      clear hB
      go_wp2_with fail
      go_ret
      exact ⟨by simp, B8.out⟩
  · have R := Lib.hid (fun w' h => airun_no a len cap room steps zs w.heap.size w' h he)
    have heb : (aiE zs room == 0) = false := by simpa using he
    have e1 : errOr (aiE zs room) = errV (aiE zs room) := if_neg he
    have E := Lib.hid (fun w' h => err_same (aiE zs room) w' h)
    rw [e1] at E K
    clear e1 he
    generalize aiE zs room = n at *
    go_enter Tryd.func4, Tryd.ntmps4
    go_wp2_with fail
    refine F.out.mono ?_
    rintro e w' ⟨rfl, rfl⟩
    go_wp2_with fail
    refine K.out.mono ?_
    rintro e w' ⟨rfl, rfl⟩
    go_wp2_with fail
    refine (E.out _ HD.out).mono ?_
    clear F K
    rintro e w1 ⟨rfl, hB⟩
    have B1 := Lib.hid hB; clear hB
    have I1 := Lib.hid (HI.out.below B1.out)
    go_wp2_with fail
    refine (R.out _ I1.out).mono ?_
    clear R
    rintro e w' ⟨rfl, rfl⟩
    go_wp2_with fail
    refine (E.out _ (HD.out.later B1.out)).mono ?_
    clear E
    rintro e w4 ⟨rfl, hB⟩
    have B4 : Hid (Below w.heap.size w w4) := B1.out.trans (hB.mono B1.out.size)
    clear hB I1
    go_wp2_with fail
    refine (same_yes _ _ 0 _ _ [] _ _ w4 (ints_nil _ 0) (ints_nil _ 0)).mono ?_
    rintro e w5 ⟨rfl, m, rfl⟩
    have B5 : Hid (Below w.heap.size w (w4.drewN m)) := below_drewN B4.out m
    generalize w4.drewN m = wX at *
    by_cases he1 : aiE zs 1 = 0
    · have hL : 1 ≤ len ∧ len ≤ 5 := by
        obtain ⟨h1, h2, _, _, _⟩ := ai_ok he1
        rw [← hlz.out]; exact ⟨h1, h2⟩
      obtain ⟨b, off, rfl, _, _⟩ := HI.out.cell 0 (by omega)
      have IX := Lib.hid (HI.out.later B5.out)
      have F := Lib.hid (mflows_any (some ⟨b, off, none⟩) len cap 1 zs _ wX IX.out)
      rw [he1] at F
      obtain ⟨L1, L2⟩ := hL
      go_wp2_with fail
      refine F.out.mono ?_
      clear F
      rintro e w' ⟨rfl, rfl⟩
      go_wp2_with fail
      refine (rising_any b off len cap zs wX IX.out L1 (by omega)).mono ?_
      rintro e w6 ⟨g6, c6, idx, rfl, hcel, hil, ⟨us, hris⟩, hB⟩
      have B6 : Hid (Below w.heap.size w w6) := B5.out.trans (hB.mono B5.out.size)
      have I6 := Lib.hid (IX.out.later hB)
      clear hB
      obtain ⟨p, q, hp, hq, ip, iq, ep, eq_⟩ := ris_ends hris (by rw [hil, hlz.out]) (by rw [hlz.out]; exact L1)
      rw [hlz.out] at ip ep eq_
      have cl : w6.cell? ⟨g6, len - 1, none⟩ = some (.int .i64 (mxN zs (len - 1))) := by
        rw [hcel.cell (len - 1) (by simp; omega), List.getElem?_map, List.getElem?_map, ip, ← ep]; rfl
      have cf : w6.cell? ⟨g6, 0, none⟩ = some (.int .i64 (mnN zs (len - 1))) := by
        rw [hcel.cell 0 (by simp; omega), List.getElem?_map, List.getElem?_map, iq, ← eq_]; rfl
      have A := Lib.hid (fun n => apart_yes (some ⟨b, off, none⟩) len cap zs _ (w6.drewN n) (I6.out.later (below_drewN (Below.refl _ _) n)) he1)
      obtain ⟨_, _, h3, _, _⟩ := ai_ok he1
      have hb1 : 0 ≤ mxN zs (len - 1) ∧ mxN zs (len - 1) ≤ 1000 := by
        rw [← ep]; exact h3 p hp
      have hb2 : 0 ≤ mnN zs (len - 1) ∧ mnN zs (len - 1) ≤ 1000 := by
        rw [← eq_]; exact h3 q hq
      clear h3 hcel hil hris hp hq ip iq ep eq_ he1
      generalize mxN zs (len - 1) = x at *
      generalize mnN zs (len - 1) = y at *
      have q1 : (0 : Int) ≤ (len : Int) - 1 := by omega
      have q2 : (len : Int) - 1 < (len : Int) := by omega
      have q3 : ((len : Int) - 1).toNat = len - 1 := by omega
      go_wp2_with fail
      go_quiet (fail)
      go_wp2_with fail
      refine (A.out _).mono ?_
      clear A
      rintro e w7 ⟨rfl, hw7⟩
      have B7 : Hid (Below w.heap.size w w7) := by
        show Below w.heap.size w w7
        obtain ⟨m7, hm7⟩ := hw7
        rw [hm7]; exact below_drewN (below_drewN B6.out _) m7
      clear hw7
      have E := Lib.hid (err_same 0 _ (HD.out.later B7.out))
      have e0 : errOr 0 = .nilIface := rfl
      rw [e0] at E
      clear e0
      go_wp2_with fail
      refine E.out.mono ?_
      clear E
      rintro e w8 ⟨rfl, hB⟩
      have B8 := Lib.hid (B7.out.trans (hB.mono B7.out.size))
      clear hB
      go_wp2_with fail
      go_ret
      exact ⟨by simp, B8.out⟩
    · have IX := Lib.hid (HI.out.later B5.out)
      have F := Lib.hid (mflows_any a len cap 1 zs _ wX IX.out)
      have A := Lib.hid (apart_no a len cap zs _ wX IX.out he1)
      have heb1 : (aiE zs 1 == 0) = false := by simpa using he1
      have e1 : errOr (aiE zs 1) = errV (aiE zs 1) := if_neg he1
      have E := Lib.hid (err_same (aiE zs 1) wX (HD.out.later B5.out))
      rw [e1] at E
      clear e1 he1
      generalize aiE zs 1 = n1 at *
      go_wp2_with fail
      refine F.out.mono ?_
      clear F
      rintro e w' ⟨rfl, rfl⟩
      go_wp2_with fail
      refine A.out.mono ?_
      clear A
      rintro e w' ⟨rfl, rfl⟩
      go_wp2_with fail
      refine E.out.mono ?_
      clear E
      rintro e w6 ⟨rfl, hB⟩
      have B6 : Hid (Below w.heap.size w w6) := B5.out.trans (hB.mono B5.out.size)
      clear hB
      go_wp2_with fail
      go_ret
      exact ⟨by simp, B6.out⟩
end Go.Proofs.YtikclgfldfpbdaaDoor.aimdSays
