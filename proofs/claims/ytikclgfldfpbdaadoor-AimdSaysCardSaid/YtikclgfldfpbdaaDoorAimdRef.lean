/- The reference's Flows and Aimd. -/
import Derived.Test.YtikclgfldfpbdaaDoorAimdF
import Derived.Test.YtikclgfldfpbdaaDoorRisingWalk
import Derived.Test.YtikclgfldfpbdaaDoorRAll
import Derived.Test.YtikclgfldfpbdaaDoorMIn
namespace Go.Proofs.YtikclgfldfpbdaaDoor
open Go.RowKit
set_option linter.unusedSimpArgs false
set_option linter.unusedVariables false

theorem mflows_any (a : Option Addr) (len cap : Nat) (room : Int) (zs : List Int) (B : Nat) (w : World) (hI : Ints w B a len zs) :
    Calls Tryd.prog 13 #[.slice a len cap, .int .i64 room] w fun e w' => e = .returned (.int .i64 (aiE zs room)) ∧ w = w' := by
  have hlz := hI.size
  have hroom := hI.room
  rcases ai_cases zs room with ⟨h1, he⟩ | ⟨h1, he⟩ | ⟨h1, h2, h3, he⟩ | ⟨h1, h2, h3, h4, he⟩ | ⟨h1, h2, h3, h4, he⟩
  all_goals
    rw [he]
    clear he
    rw [hlz] at h1
    clear hroom
  · subst h1
    clear hlz hI
    go_enter Tryd.func13, Tryd.ntmps13
    go_wp2
    go_ret
    exact ⟨rfl, rfl⟩
  · clear hlz hI
    go_enter Tryd.func13, Tryd.ntmps13
    go_wp2
    go_ret
    exact ⟨rfl, rfl⟩
  · rw [hlz] at h2 h3
    clear hlz
    have HI := Lib.hid hI; clear hI
    have HH := Lib.hid h3; clear h3
    go_enter Tryd.func13, Tryd.ntmps13
    go_wp2_with fail
    refine (rall_no _ _ _ _ _ _ _ _ HI.out HH.out).mono ?_
    rintro e w' ⟨rfl, rfl⟩
    go_wp2
    go_ret
    exact ⟨rfl, rfl⟩
  · rw [hlz] at h2 h3
    clear hlz
    have HI := Lib.hid hI; clear hI
    have HH := Lib.hid h3; clear h3
    have HR := Lib.hid h4; clear h4
    go_enter Tryd.func13, Tryd.ntmps13
    go_wp2_with fail
    refine (rall_yes _ _ _ _ _ _ _ _ HI.out HH.out).mono ?_
    rintro e w' ⟨rfl, rfl⟩
    go_wp2_with fail
    refine (min_out _ _ _ _ HR.out).mono ?_
    rintro e w' ⟨rfl, rfl⟩
    go_wp2
    go_ret
    exact ⟨rfl, rfl⟩
  · rw [hlz] at h2 h3
    clear hlz
    have HI := Lib.hid hI; clear hI
    have HH := Lib.hid h3; clear h3
    obtain ⟨r1, r2⟩ := h4
    go_enter Tryd.func13, Tryd.ntmps13
    go_wp2_with fail
    refine (rall_yes _ _ _ _ _ _ _ _ HI.out HH.out).mono ?_
    rintro e w' ⟨rfl, rfl⟩
    go_wp2_with fail
    refine (min_in _ _ _ _ r1 r2).mono ?_
    rintro e w' ⟨rfl, rfl⟩
    go_wp2
    go_ret
    exact ⟨rfl, rfl⟩

theorem take_map_succ (f : Int → Int) (l : List Int) (i : Nat) (h : i < l.length) : (l.take (i + 1)).map f = (l.take i).map f ++ [f (l.getD i 0)] := by
  rw [List.take_succ_eq_append_getElem h, List.map_append]
  simp [List.getD_eq_getElem?_getD, h]
theorem sum_take (l : List Int) (i : Nat) (h : i < l.length) : (l.take (i + 1)).sum = (l.take i).sum + l.getD i 0 := by
  rw [List.take_succ_eq_append_getElem h, List.sum_append]
  simp [List.getD_eq_getElem?_getD, h]

set_option maxHeartbeats 8000000 in
set_option maxRecDepth 100000 in
theorem maimd_any (b off : Nat) (len cap : Nat) (room steps : Int) (zs : List Int) (w : World) (hI : Ints w w.heap.size (some ⟨b, off, none⟩) len zs) (hl : 1 ≤ len ∧ len ≤ 5) (hz : ∀ x ∈ zs, 0 ≤ x ∧ x ≤ 1000) (hs : 0 ≤ steps ∧ steps ≤ 1000) :
    Calls Tryd.prog 15 #[.slice (some ⟨b, off, none⟩) len cap, .int .i64 room, .int .i64 steps] w fun e w' => ∃ g o c, e = .returned (.tuple #[.slice (some ⟨g, o, none⟩) len c, .int .i64 (((aiRun room zs steps.toNat).2 : Nat) : Int)]) ∧ Ints w' w'.heap.size (some ⟨g, o, none⟩) len (aiRun room zs steps.toNat).1 ∧ Below w.heap.size w w' := by
  obtain ⟨s1, s2⟩ := hs
  obtain ⟨L1, L2⟩ := hl
  have hlz := Lib.hid hI.size
  have HI := Lib.hid hI; clear hI
  have HZ := Lib.hid hz; clear hz
  obtain ⟨i0, hi, hz0, hz1, hz2⟩ := info_parts info3
  go_enter Tryd.func15, Tryd.ntmps15
  go_wp2_with fail
  go_loopw [0, 8, 9] (fun v0 v8 v9 wr => ∃ k g o c : Nat, (k : Int) ≤ steps ∧ v9 = .int .i64 k ∧ v8 = .int .i64 (((aiRun room zs k).2 : Nat) : Int) ∧ v0 = .slice (some ⟨g, o, none⟩) len c ∧ Ints wr wr.heap.size (some ⟨g, o, none⟩) len (aiRun room zs k).1 ∧ Below w.heap.size w wr) (fun _ _ v9 _ => 1000 - (intOf v9).toNat)
  case atStart => exact ⟨0, b, off, cap, by omega, rfl, rfl, rfl, HI.out, Below.refl _ _⟩
  case round =>
    obtain ⟨k, g, o, c, hk, rfl, rfl, rfl, hint, hB⟩ := hrel
    have I := Lib.hid hint; clear hint
    have HB := Lib.hid hB; clear hB
    have HS : Hid (aiRun room zs (k + 1) = aiStep room (aiRun room zs k)) := rfl
    have hh := ai_halved room zs k
    have hbd : Hid (∀ x ∈ (aiRun room zs k).1, 0 ≤ x ∧ x ≤ 1000 + (k : Int)) := ai_bounds room zs k HZ.out
    obtain ⟨st, hst⟩ : ∃ st, aiRun room zs k = st := ⟨_, rfl⟩
    have HAI := Lib.hid hst
    rw [hst] at I HS hh hbd
    rw [hst]
    clear hst
    obtain ⟨l, hv⟩ := st
    simp only at *
    by_cases hlt : (k : Int) < steps
    · have hks : (k : Int) ≤ 1000 := by omega
      have hlen : Hid (l.length = len) := I.out.size
      have hsb : Hid (∀ j, j < len → 0 ≤ l.getD j 0 ∧ l.getD j 0 ≤ 1000000) := fun j hj => by
        have := mem_getD hbd.out j (by rw [hlen.out]; exact hj)
        omega
      go_wp2_with fail
      go_loop [10, 11] (fun v10 v11 => ∃ (i : Nat) (n : Int), i ≤ len ∧ v11 = .int .i64 i ∧ v10 = .int .i64 n ∧ 0 ≤ n ∧ n ≤ 1000000 * i ∧ Hid (n = (l.take i).sum)) (fun _ v11 => len - (intOf v11).toNat)
      case atStart => exact ⟨0, 0, by omega, rfl, rfl, by omega, by omega, by rfl⟩
      case round =>
        obtain ⟨i, n, hi', rfl, rfl, n1, n2, HN⟩ := hrel
        by_cases hil : i < len
        · obtain ⟨bb, oo, he, _, hc⟩ := I.out.cell i hil
          simp only [Option.some.injEq, Addr.mk.injEq, and_true] at he
          obtain ⟨rfl, rfl⟩ := he
          obtain ⟨h1, h2⟩ := hsb.out i hil
          have hs := sum_take l i (by rw [hlen.out]; exact hil)
          rw [← HN.out] at hs
          have HSU := Lib.hid hs; clear hs
          generalize l.getD i 0 = x at *
          go_wp2_with fail
          go_round
          case rel => exact ⟨i + 1, n + x, by omega, by go_num, by go_num, by omega, by omega, HSU.out.symm⟩
          case measure => simp [intOf]; omega
        · have HT : Hid (n = l.sum) := by show n = l.sum; rw [HN.out, List.take_of_length_le (by rw [hlen.out]; omega)]
          clear HN
          obtain ⟨wq, hwq⟩ : ∃ wq : World, wq = wr := ⟨_, rfl⟩
          subst hwq
          by_cases hsum : room < n
          · have HS2 : Hid (aiRun room zs (k + 1) = (l.map (· / 2), hv + 1)) := HS.out.trans (if_pos (by rw [← HT.out]; exact hsum))
            clear HS HT
            go_wp2_with fail
            go_loopw [12, 13] (fun v12 v13 wx => ∃ j : Nat, j ≤ len ∧ v13 = .int .i64 j ∧ wx.ownsRow wq.heap.size 3 1 v12 j (((l.take j).map (· / 2)).map (.int .i64)) ∧ Below wq.heap.size wq wx) (fun _ v13 _ => len - (intOf v13).toNat)
            case atStart => exact ⟨0, by omega, rfl, World.ownsRow_nil _ _ _ _, Below.refl _ _⟩
            case round =>
              obtain ⟨j, hj, rfl, hown, hB⟩ := hrel
              have HOW := Lib.hid hown; clear hown
              have HBX := Lib.hid hB; clear hB
              have hsz := HBX.out.size
              by_cases hjl : j < len
              · obtain ⟨bb, oo, he, hbl, hc⟩ := I.out.cell j hjl
                simp only [Option.some.injEq, Addr.mk.injEq, and_true] at he
                obtain ⟨rfl, rfl⟩ := he
                have hcx := (HBX.out.cell (p := ⟨g, o + j, none⟩) hbl).trans hc
                clear hc
                obtain ⟨h1, h2⟩ := hsb.out j hjl
                have htk := take_map_succ (· / 2) l j (by rw [hlen.out]; exact hjl)
                have HTK := Lib.hid htk; clear htk
                generalize l.getD j 0 = x at *
                go_wp2_with (first | (at_builtin; go_loud (refine wpList_append_lies _ rfl _ _ 22 rfl wq.heap.size 3 i0 (.int .i64 0) 1 8 Tryd.underlying22 hi hz0 hz1 hz2 rfl (by decide) _ _ _ rfl (HOW.out.alloc _) ⟨wr.heap.size, 0, none⟩ 1 1 [.int .i64 (x / 2)] rfl rfl (cell_one_new _ _ _) (by intro u hu; simp at hu; subst hu; rfl) (by decide) (by unfold maxLen; omega) (by omega) (by simp; omega) _ rfl ?_)))
                intro g9 c9 w4 hown1 hgrow1 hat1 hlt1
                have HB3 : Hid (Below wq.heap.size wq w4) := below_row (HBX.out.alloc hsz _) hgrow1 (Nat.le_refl _) (by simp; omega) (HOW.out.alloc _)
                have HOW3 := Lib.hid hown1
                clear hown1 hgrow1 hat1 hlt1 hcx
                go_wp2_with fail
                go_roundw
                case rel => exact ⟨j + 1, by omega, by go_num, by have := HOW3.out; rw [HTK.out]; simpa using this, HB3.out⟩
                case measure => simp [intOf]; omega
              · have hall : l.take j = l := List.take_of_length_le (by rw [hlen.out]; omega)
                have HOW3 := HOW.out
                rw [hall, show j = len from by omega] at HOW3
                obtain ⟨g9, c9, hv9, hcel, _⟩ := Cel.form HOW3 L1
                subst hv9
                have HJ := Lib.hid (hcel.ints (n := len) (by rw [List.length_map]; exact hlen.out) (by omega) (fits_of (M := 2000000) (by decide) (fun x hx => by
                  obtain ⟨y, hy, rfl⟩ := List.mem_map.1 hx
                  have := hbd.out y hy
                  omega)))
                have HB4 : Hid (Below w.heap.size w wr) := HB.out.trans (HBX.out.mono HB.out.size)
                clear hcel HOW3 hall HOW
                go_wp2_with fail
                go_roundw
                case rel => exact ⟨k + 1, g9, 0, c9, by omega, by go_num, by rw [HS2.out]; go_num, rfl, by rw [HS2.out]; exact HJ.out, HB4.out⟩
                case measure => simp [intOf]; omega
          · have HS2 : Hid (aiRun room zs (k + 1) = (l.map (· + 1), hv)) := HS.out.trans (if_neg (by rw [← HT.out]; exact hsum))
            have hsum2 : n ≤ room := by omega
            clear HS HT hsum
            go_wp2_with fail
            go_loopw [12, 13] (fun v12 v13 wx => ∃ j : Nat, j ≤ len ∧ v13 = .int .i64 j ∧ wx.ownsRow wq.heap.size 3 1 v12 j (((l.take j).map (· + 1)).map (.int .i64)) ∧ Below wq.heap.size wq wx) (fun _ v13 _ => len - (intOf v13).toNat)
            case atStart => exact ⟨0, by omega, rfl, World.ownsRow_nil _ _ _ _, Below.refl _ _⟩
            case round =>
              obtain ⟨j, hj, rfl, hown, hB⟩ := hrel
              have HOW := Lib.hid hown; clear hown
              have HBX := Lib.hid hB; clear hB
              have hsz := HBX.out.size
              by_cases hjl : j < len
              · obtain ⟨bb, oo, he, hbl, hc⟩ := I.out.cell j hjl
                simp only [Option.some.injEq, Addr.mk.injEq, and_true] at he
                obtain ⟨rfl, rfl⟩ := he
                have hcx := (HBX.out.cell (p := ⟨g, o + j, none⟩) hbl).trans hc
                clear hc
                obtain ⟨h1, h2⟩ := hsb.out j hjl
                have htk := take_map_succ (· + 1) l j (by rw [hlen.out]; exact hjl)
                have HTK := Lib.hid htk; clear htk
                generalize l.getD j 0 = x at *
                go_wp2_with (first | (at_builtin; go_loud (refine wpList_append_lies _ rfl _ _ 22 rfl wq.heap.size 3 i0 (.int .i64 0) 1 8 Tryd.underlying22 hi hz0 hz1 hz2 rfl (by decide) _ _ _ rfl (HOW.out.alloc _) ⟨wr.heap.size, 0, none⟩ 1 1 [.int .i64 (x + 1)] rfl rfl (cell_one_new _ _ _) (by intro u hu; simp at hu; subst hu; rfl) (by decide) (by unfold maxLen; omega) (by omega) (by simp; omega) _ rfl ?_)))
                intro g9 c9 w4 hown1 hgrow1 hat1 hlt1
                have HB3 : Hid (Below wq.heap.size wq w4) := below_row (HBX.out.alloc hsz _) hgrow1 (Nat.le_refl _) (by simp; omega) (HOW.out.alloc _)
                have HOW3 := Lib.hid hown1
                clear hown1 hgrow1 hat1 hlt1 hcx
                go_wp2_with fail
                go_roundw
                case rel => exact ⟨j + 1, by omega, by go_num, by have := HOW3.out; rw [HTK.out]; simpa using this, HB3.out⟩
                case measure => simp [intOf]; omega
              · have hall : l.take j = l := List.take_of_length_le (by rw [hlen.out]; omega)
                have HOW3 := HOW.out
                rw [hall, show j = len from by omega] at HOW3
                obtain ⟨g9, c9, hv9, hcel, _⟩ := Cel.form HOW3 L1
                subst hv9
                have HJ := Lib.hid (hcel.ints (n := len) (by rw [List.length_map]; exact hlen.out) (by omega) (fits_of (M := 2000000) (by decide) (fun x hx => by
                  obtain ⟨y, hy, rfl⟩ := List.mem_map.1 hx
                  have := hbd.out y hy
                  omega)))
                have HB4 : Hid (Below w.heap.size w wr) := HB.out.trans (HBX.out.mono HB.out.size)
                clear hcel HOW3 hall HOW
                go_wp2_with fail
                go_roundw
                case rel => exact ⟨k + 1, g9, 0, c9, by omega, by go_num, by rw [HS2.out], rfl, by rw [HS2.out]; exact HJ.out, HB4.out⟩
                case measure => simp [intOf]; omega
    · have hkn : k = steps.toNat := by omega
      have HF : Hid (aiRun room zs steps.toNat = (l, hv)) := by rw [← hkn]; exact HAI.out
      go_wp2_with fail
      go_ret2
      rw [HF.out]
      exact ⟨g, o, ⟨c, rfl⟩, I.out, HB.out⟩
end Go.Proofs.YtikclgfldfpbdaaDoor
