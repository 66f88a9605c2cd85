/- The reference's Ahead and Gbn. -/
import Derived.Test.YtnkcjkemhdigpaaDoorAbpRef
import Derived.Test.YtnkcjkemhdigpaaDoorGbnRun
namespace Go.Proofs.YtnkcjkemhdigpaaDoor
open Go.RowKit
set_option linter.unusedSimpArgs false
set_option linter.unusedVariables false

theorem mahead_any (a : Option Addr) (len cap : Nat) (win rnd : Int) (af : Option Addr) (lf cf : Nat) (zs : List Int) (B : Nat) (w : World) (hI : Ints w B a len zs) :
    Calls Tryd.prog 11 #[.slice a len cap, .int .i64 win, .int .i64 rnd, .slice af lf cf] w fun e w' => e = .returned (.int .i64 (aheadE zs lf win rnd)) ∧ w = w' := by
  have C := Lib.hid (fun w' h => msent_any a len cap af lf cf zs B w' h)
  have HI := Lib.hid hI; clear hI
  unfold aheadE
  by_cases he : sentE zs lf = 0
  · rw [if_neg (by simpa using he)]
    rw [he] at C
    clear he
    by_cases h1 : 1 ≤ win ∧ win ≤ 8
    · obtain ⟨a1, a2⟩ := h1
      by_cases h2 : 2 ≤ rnd ∧ rnd ≤ 16
      · rw [if_pos ⟨⟨a1, a2⟩, h2⟩]
        obtain ⟨a3, a4⟩ := h2
        go_enter Tryd.func11, Tryd.ntmps11
        go_wp2_with fail
        refine (C.out _ HI.out).mono ?_
        rintro e w' ⟨rfl, rfl⟩
        go_wp2_with fail
        refine (min_in _ _ _ _ a1 a2).mono ?_
        rintro e w' ⟨rfl, rfl⟩
        go_wp2_with fail
        refine (min_in _ _ _ _ a3 a4).mono ?_
        rintro e w' ⟨rfl, rfl⟩
        go_wp2
        go_ret
        exact ⟨rfl, rfl⟩
      · rw [if_neg (fun h => h2 h.2)]
        have HV := Lib.hid (show rnd < 2 ∨ 16 < rnd by omega)
        clear h2
        go_enter Tryd.func11, Tryd.ntmps11
        go_wp2_with fail
        refine (C.out _ HI.out).mono ?_
        rintro e w' ⟨rfl, rfl⟩
        go_wp2_with fail
        refine (min_in _ _ _ _ a1 a2).mono ?_
        rintro e w' ⟨rfl, rfl⟩
        go_wp2_with fail
        refine (min_out _ _ _ _ HV.out).mono ?_
        rintro e w' ⟨rfl, rfl⟩
        go_wp2
        go_ret
        exact ⟨rfl, rfl⟩
    · rw [if_neg (fun h => h1 h.1)]
      have HV := Lib.hid (show win < 1 ∨ 8 < win by omega)
      clear h1
      go_enter Tryd.func11, Tryd.ntmps11
      go_wp2_with fail
      refine (C.out _ HI.out).mono ?_
      rintro e w' ⟨rfl, rfl⟩
      go_wp2_with fail
      refine (min_out _ _ _ _ HV.out).mono ?_
      rintro e w' ⟨rfl, rfl⟩
      go_wp2
      go_ret
      exact ⟨rfl, rfl⟩
  · rw [if_pos he]
    have h0 : (sentE zs lf == 0) = false := by simpa using he
    clear he
    generalize sentE zs lf = n at *
    go_enter Tryd.func11, Tryd.ntmps11
    go_wp2_with fail
    refine (C.out _ HI.out).mono ?_
    rintro e w' ⟨rfl, rfl⟩
    go_wp2
    go_ret
    exact ⟨rfl, rfl⟩

theorem gd_hit {L known R : Nat} (h : known ≤ L) : (known + (L - known) % R) % R = L % R := by
  rw [Nat.add_mod_mod, show known + (L - known) = L from by omega]
theorem gd_miss {L known R j : Nat} (h : known ≤ L) (hR : 0 < R) (hj : j < (L - known) % R) : (known + j) % R ≠ L % R := fun e => by
  have h1 := mod_eq_of_near (e.trans (gd_hit (R := R) h).symm) (by omega) (by have := Nat.mod_lt (L - known) hR; omega)
  omega
theorem gd_test {L known R j : Nat} (h : known ≤ L) (hR : 0 < R) (hj : j < (L - known) % R) : (((known : Int) + (j : Int)) % (R : Int) != (L : Int) % (R : Int)) = true := by
  have := gd_miss h hR hj
  simp only [bne_iff_ne, ne_eq]
  intro e; exact this (by exact_mod_cast e)
theorem gd_last {L known R : Nat} (h : known ≤ L) : (((known : Int) + (((L - known) % R : Nat) : Int)) % (R : Int) != (L : Int) % (R : Int)) = false := by
  have := gd_hit (R := R) h
  simp only [bne_eq_false_iff_eq]
  exact_mod_cast this
theorem own_drewN' {b : Nat} {w : World} {v : Value} {e size n : Nat} {xs : List Value} (ho : w.ownsRow b e size v n xs) (m : Nat) : (w.drewN m).ownsRow b e size v n xs := ho
theorem drawn_more {w w' : World} (h : ∃ m, w' = w.drewN m) : ∃ m, w'.drew = w.drewN m := by
  obtain ⟨m, rfl⟩ := h
  exact ⟨m + 1, rfl⟩

set_option maxHeartbeats 16000000 in
set_option maxRecDepth 100000 in
theorem mgbn_any (a : Option Addr) (len cap W R : Nat) (af : Option Addr) (lf cf : Nat) (zs : List Int) (fs : List (Bool × Bool)) (w : World) (hI : Ints w w.heap.size a len zs) (hF : Pairs w w.heap.size af lf fs) (he : aheadE zs lf W R = 0) (hW1 : 1 ≤ W) (hW2 : W ≤ 8) (hR1 : 2 ≤ R) (hR2 : R ≤ 16) (hl20 : len ≤ 20) (hl200 : lf ≤ 200) :
    Calls Tryd.prog 13 #[.slice a len cap, .int .i64 W, .int .i64 R, .slice af lf cf] w (Got2Post w.heap.size (gbnRun zs W R fs).got (gbnRun zs W R fs).known w) := by
  clear he
  have hlz := Lib.hid hI.size
  have hlf := Lib.hid hF.size
  have HI := Lib.hid hI; clear hI
  have HF := Lib.hid hF; clear hF
  obtain ⟨i0, hi, hz0, hz1, hz2⟩ := info_parts info3
  go_enter Tryd.func13, Tryd.ntmps13
  go_wp2_with fail
  go_loopw [10, 11, 12, 13] (fun v10 v11 v12 v13 wr => ∃ (k : Nat) (s : GbS), k ≤ lf ∧ v13 = .int .i64 k ∧ v11 = .int .i64 s.known ∧ v12 = .int .i64 s.next ∧
      wr.ownsRow w.heap.size 3 1 v10 s.got.length (s.got.map (Value.int .i64)) ∧ Hid (s = gbnRun zs W R (fs.take k)) ∧ Below w.heap.size w wr)
    (fun _ _ _ v13 _ => lf - (intOf v13).toNat)
  case atStart => exact ⟨0, ⟨[], 0, 0⟩, by omega, rfl, rfl, rfl, World.ownsRow_nil _ _ _ _, rfl, Below.refl _ _⟩
  case round =>
    obtain ⟨k, s, hk, rfl, rfl, rfl, hown, HR, hB⟩ := hrel
    have HB := Lib.hid hB; clear hB
    have HOW := Lib.hid hown; clear hown
    have hinv : GbI zs W s := by rw [HR.out]; exact gb_inv zs R hW1 _
    have hgl : s.got.length ≤ k := by rw [HR.out]; have := gb_len_run zs W R (fs.take k); simp at this; omega
    have HFI : Hid (∀ j, -9223372036854775808 ≤ s.got.getD j 0 ∧ s.got.getD j 0 ≤ 9223372036854775807) := by rw [HR.out]; exact gb_fits_run HI.out.fits W R _
    obtain ⟨ga, gc, hv, hgi⟩ := ints_own HOW.out rfl HFI.out
    subst hv
    have HGI := Lib.hid hgi; clear hgi
    have HIN := Lib.hid hinv
    obtain ⟨n1, n2, n3, n4⟩ := hinv
    rw [hlz.out] at n1 n4
    by_cases hlt : k < lf
    · by_cases hend : s.known = len
      · have HX : Hid (gbnRun zs W R fs = s) := by
          show gbnRun zs W R fs = _
          rw [gbn_split zs W R fs k, ← HR.out]
          exact gbn_stay _ _ (by rw [hlz.out]; exact hend)
        have hx1 : (len : Int) ≤ (s.known : Int) := by omega
        clear hend
        go_wp2_with fail
        go_ret2
        rw [HX.out]
        exact ⟨ga, gc, rfl, HGI.out, HB.out⟩
      · have hkl : s.known < len := by omega
        obtain ⟨fb, foff, rfl, hfb, hf1, hf2⟩ := HF.out.cell k hlt
        have g1 := (HB.out.cell (p := ⟨fb, foff + k * 2, none⟩) hfb).trans hf1
        have HG2 := Lib.hid hf2
        clear hf1 hf2
        have hstep : gbnRun zs W R (fs.take (k + 1)) = gbnStep zs W R s (fs.getD k (false, false)) := by
          rw [take_succ_getD fs k (by rw [hlf.out]; exact hlt), gbn_fold_snoc, ← HR.out]
        have HSP := Lib.hid hstep; clear hstep
        obtain ⟨t, bk, hfv⟩ : ∃ t bk, fs.getD k (false, false) = (t, bk) := ⟨_, _, rfl⟩
        rw [hfv] at g1 HG2 HSP
        clear hfv
        have hnow := gb_now HIN.out hW1 (by rw [hlz.out]; exact hkl)
        rw [hlz.out] at hnow
        have hun : gbnStep zs W R s (t, bk) = if t then ⟨s.got, s.known, gbNow zs.length W s + 1⟩ else
          if bk then ⟨gbGot zs R s (gbNow zs.length W s), s.known, gbNow zs.length W s + 1⟩ else
          if gbD R (gbGot zs R s (gbNow zs.length W s)) s.known ≤ W ∧ s.known + gbD R (gbGot zs R s (gbNow zs.length W s)) s.known ≤ zs.length then
            ⟨gbGot zs R s (gbNow zs.length W s), s.known + gbD R (gbGot zs R s (gbNow zs.length W s)) s.known, max (gbNow zs.length W s + 1) (s.known + gbD R (gbGot zs R s (gbNow zs.length W s)) s.known)⟩
          else ⟨gbGot zs R s (gbNow zs.length W s), s.known, gbNow zs.length W s + 1⟩ := by
            unfold gbnStep; rw [if_neg (by rw [hlz.out]; exact hend)]
        rw [hun, hlz.out] at HSP
        clear hun hend
        have hcase : (s.known + W ≤ s.next ∧ gbNow len W s = s.known) ∨ (s.next < s.known + W ∧ len ≤ s.next ∧ gbNow len W s = s.known) ∨ (s.next < s.known + W ∧ s.next < len ∧ gbNow len W s = s.next) := by
          unfold gbNow
          split <;> omega
        have n5 : s.next ≤ len := by omega
        clear n4
        obtain ⟨got, known, next⟩ := s
        simp only at *
        rcases hcase with ⟨q1, q3⟩ | ⟨q1, q2, q3⟩ | ⟨q1, q2, q3⟩
        · rw [q3] at HSP hnow
          clear q3
          obtain ⟨hn1, hn2, hn3⟩ := hnow
          obtain ⟨db, doff, rfl, hdb, hdc⟩ := HI.out.cell known (by omega)
          have HDC := Lib.hid hdc; clear hdc
          cases t
          · by_cases hp : known % R = got.length % R
            · have hp2 : ((known : Int) % (R : Int) == (got.length : Int) % (R : Int)) = true := by
                rw [beq_iff_eq]; exact_mod_cast hp
              cases bk
              · have hg : gbGot zs R ⟨got, known, next⟩ known = (got ++ [zs.getD known 0]) := by unfold gbGot; rw [if_pos hp]
                rw [hg] at HSP
                clear hg hp
                have hsp := HSP.out
                rw [if_neg (by decide : ¬ (false = true)), if_neg (by decide : ¬ (false = true))] at hsp
                rw [show gbD R (got ++ [zs.getD known 0]) known = ((got.length + 1) - known) % R from by unfold gbD; rw [show (got ++ [zs.getD known 0]).length = got.length + 1 from by simp]] at hsp
                have HSP := Lib.hid hsp
                clear hsp
                have hcz := (HB.out.cell (p := ⟨db, doff + known, none⟩) hdb).trans HDC.out
                have hsz := HB.out.size
                generalize zs.getD known 0 = z at *
                have hczd : wr.drew.cell? ⟨db, doff + known, none⟩ = some (.int .i64 z) := hcz
                go_wp2_with fail
                go_region
                go_wp2_with (first | (at_builtin; go_loud (refine wpList_append_lies _ rfl _ _ 22 rfl w.heap.size 3 i0 (.int .i64 0) 1 8 Tryd.underlying22 hi hz0 hz1 hz2 rfl (by decide) _ _ _ rfl (HOW.out.alloc _).drew ⟨wr.heap.size, 0, none⟩ 1 1 [.int .i64 z] rfl rfl (by have := (cell_one_new wr (.int .i64 z) 3); simpa using this) (by intro u hu; simp at hu; subst hu; rfl) (by decide) (by unfold maxLen; omega) (by omega) (by simp; omega) _ rfl ?_)))
                intro g9 c9 w4 hown1 hgrow1 hat1 hlt1
                have HB2 : Hid (Below w.heap.size w w4) := grown_below (HB.out.alloc HB.out.size _).drew hgrow1 (Nat.le_refl _) (by simp; omega) (HOW.out.alloc _)
                have HOW2 : Hid (w4.ownsRow w.heap.size 3 1 (.slice (some ⟨g9, 0, none⟩) (got.length + 1) c9) (got.length + 1) ((got ++ [z]).map (Value.int .i64))) := by
                  have := hown1
                  show w4.ownsRow w.heap.size 3 1 (.slice (some ⟨g9, 0, none⟩) (got.length + 1) c9) (got.length + 1) ((got ++ [z]).map (Value.int .i64))
                  simpa using this
                clear hown1 hgrow1 hat1 hlt1 hcz hczd
                have g2 := (HB2.out.cell (p := ⟨fb, foff + k * 2 + 1, none⟩) hfb).trans HG2.out
                go_wp2_with fail
                have hd1 : ((got.length + 1) - known) % R ≤ (got.length + 1) - known := Nat.mod_le _ _
                have hd2 : ((got.length + 1) - known) % R < R := Nat.mod_lt _ (by omega)
                have HT : Hid (∀ j : Nat, j < ((got.length + 1) - known) % R → (((known : Int) + (j : Int)) % (R : Int) != ((got.length : Int) + 1) % (R : Int)) = true) := fun j hj => by
                  have := gd_test (L := (got.length + 1)) (by omega) (by omega) hj
                  simpa using this
                have HL : Hid ((((known : Int) + ((((got.length + 1) - known) % R : Nat) : Int)) % (R : Int) != ((got.length : Int) + 1) % (R : Int)) = false) := by
                  have := gd_last (L := (got.length + 1)) (known := known) (R := R) (by omega)
                  show _ = false
                  simpa using this
                generalize ((got.length + 1) - known) % R = D at *
                go_loopw [15] (fun v15 wx => ∃ j : Nat, j ≤ D ∧ v15 = .int .i64 j ∧ ∃ m, wx = w4.drewN m) (fun v15 _ => D - (intOf v15).toNat)
                case atStart => exact ⟨0, by omega, rfl, 0, rfl⟩
                case round =>
                  obtain ⟨j, hj, rfl, hdw⟩ := hrel
                  have HDW := Lib.hid hdw; clear hdw
                  by_cases hjd : j < D
                  · have ht := HT.out j hjd
                    go_wp2_with fail
                    go_region
                    go_wp2_with fail
                    go_roundw
                    case rel => exact ⟨j + 1, by omega, by go_num, drawn_more HDW.out⟩
                    case measure => simp [intOf]; omega
                  · obtain rfl : j = D := by omega
                    have ht := HL.out
                    clear hjd hj HT HL
                    obtain ⟨m, rfl⟩ := HDW.out
                    have HB5 := Lib.hid (below_drewN HB2.out m)
                    have HOW5 := Lib.hid (own_drewN' HOW2.out m)
                    clear HDW HB2 HOW2 g2
                    generalize w4.drewN m = w5 at *
                    by_cases hq : j ≤ W ∧ known + j ≤ len
                    · have HSP := Lib.hid (HSP.out.trans (if_pos hq))
                      obtain ⟨hq1, hq2⟩ := hq
                      by_cases hm : known + 1 < known + j
                      · have hmx : max (known + 1) (known + j) = known + j := by omega
                        rw [hmx] at HSP
                        clear hmx
                        go_wp2_with fail
                        go_region
                        go_wp2_with fail
                        go_roundw
                        case rel => exact ⟨k + 1, ⟨(got ++ [z]), known + j, known + j⟩, by omega, by go_num, by go_num, by go_num, by simpa using HOW5.out.drew, HSP.out.symm, HB5.out.drew⟩
                        case measure => simp [intOf]; omega
                      · have hmx : max (known + 1) (known + j) = known + 1 := by omega
                        rw [hmx] at HSP
                        clear hmx
                        go_wp2_with fail
                        go_region
                        go_wp2_with fail
                        go_roundw
                        case rel => exact ⟨k + 1, ⟨(got ++ [z]), known + j, known + 1⟩, by omega, by go_num, by go_num, by go_num, by simpa using HOW5.out.drew, HSP.out.symm, HB5.out.drew⟩
                        case measure => simp [intOf]; omega
                    · have HSP := Lib.hid (HSP.out.trans (if_neg hq))
                      have hq2 : W < j ∨ (j ≤ W ∧ len < known + j) := by omega
                      clear hq
                      rcases hq2 with hq2 | ⟨hq2, hq3⟩
                      · go_wp2_with fail
                        go_region
                        go_wp2_with fail
                        go_roundw
                        case rel => exact ⟨k + 1, ⟨(got ++ [z]), known, known + 1⟩, by omega, by go_num, by go_num, by go_num, by simpa using HOW5.out.drew, HSP.out.symm, HB5.out.drew⟩
                        case measure => simp [intOf]; omega
                      · have hq4 : decide ((known : Int) + (j : Int) ≤ (len : Int)) = false := by simp; omega
                        clear hq3
                        go_wp2_with fail
                        go_region
                        go_wp2_with fail
                        go_roundw
                        case rel => exact ⟨k + 1, ⟨(got ++ [z]), known, known + 1⟩, by omega, by go_num, by go_num, by go_num, by simpa using HOW5.out.drew, HSP.out.symm, HB5.out.drew⟩
                        case measure => simp [intOf]; omega
              · have hg : gbGot zs R ⟨got, known, next⟩ known = (got ++ [zs.getD known 0]) := by unfold gbGot; rw [if_pos hp]
                rw [hg] at HSP
                clear hg hp
                have hsp := HSP.out
                rw [if_neg (by decide : ¬ (false = true)), if_pos rfl] at hsp
                have HSP := Lib.hid hsp
                clear hsp
                have hcz := (HB.out.cell (p := ⟨db, doff + known, none⟩) hdb).trans HDC.out
                have hsz := HB.out.size
                generalize zs.getD known 0 = z at *
                have hczd : wr.drew.cell? ⟨db, doff + known, none⟩ = some (.int .i64 z) := hcz
                go_wp2_with fail
                go_region
                go_wp2_with (first | (at_builtin; go_loud (refine wpList_append_lies _ rfl _ _ 22 rfl w.heap.size 3 i0 (.int .i64 0) 1 8 Tryd.underlying22 hi hz0 hz1 hz2 rfl (by decide) _ _ _ rfl (HOW.out.alloc _).drew ⟨wr.heap.size, 0, none⟩ 1 1 [.int .i64 z] rfl rfl (by have := (cell_one_new wr (.int .i64 z) 3); simpa using this) (by intro u hu; simp at hu; subst hu; rfl) (by decide) (by unfold maxLen; omega) (by omega) (by simp; omega) _ rfl ?_)))
                intro g9 c9 w4 hown1 hgrow1 hat1 hlt1
                have HB2 : Hid (Below w.heap.size w w4) := grown_below (HB.out.alloc HB.out.size _).drew hgrow1 (Nat.le_refl _) (by simp; omega) (HOW.out.alloc _)
                have HOW2 : Hid (w4.ownsRow w.heap.size 3 1 (.slice (some ⟨g9, 0, none⟩) (got.length + 1) c9) (got.length + 1) ((got ++ [z]).map (Value.int .i64))) := by
                  have := hown1
                  show w4.ownsRow w.heap.size 3 1 (.slice (some ⟨g9, 0, none⟩) (got.length + 1) c9) (got.length + 1) ((got ++ [z]).map (Value.int .i64))
                  simpa using this
                clear hown1 hgrow1 hat1 hlt1 hcz hczd
                have g2 := (HB2.out.cell (p := ⟨fb, foff + k * 2 + 1, none⟩) hfb).trans HG2.out
                go_wp2_with fail
                go_roundw
                case rel => exact ⟨k + 1, ⟨(got ++ [z]), known, known + 1⟩, by omega, by go_num, by go_num, by go_num, by simpa using HOW2.out, HSP.out.symm, HB2.out⟩
                case measure => simp [intOf]; omega
            · have hp2 : ((known : Int) % (R : Int) == (got.length : Int) % (R : Int)) = false := by
                rw [beq_eq_false_iff_ne]; intro e; exact hp (by exact_mod_cast e)
              cases bk
              · have hg : gbGot zs R ⟨got, known, next⟩ known = got := by unfold gbGot; rw [if_neg hp]
                rw [hg] at HSP
                clear hg hp
                have hsp := HSP.out
                rw [if_neg (by decide : ¬ (false = true)), if_neg (by decide : ¬ (false = true))] at hsp
                rw [show gbD R got known = (got.length - known) % R from by unfold gbD; rfl] at hsp
                have HSP := Lib.hid hsp
                clear hsp
                go_wp2_with fail
                go_region
                obtain ⟨w4, hw4⟩ : ∃ w4, w4 = wr.drew := ⟨_, rfl⟩
                have HB2 : Hid (Below w.heap.size w w4) := by rw [hw4]; exact HB.out.drew
                have HOW2 : Hid (w4.ownsRow w.heap.size 3 1 (.slice ga got.length gc) got.length (got.map (Value.int .i64))) := by rw [hw4]; exact HOW.out.drew
                rw [← hw4]
                clear hw4 g1
                have g2 := (HB2.out.cell (p := ⟨fb, foff + k * 2 + 1, none⟩) hfb).trans HG2.out
                go_wp2_with fail
                have hd1 : (got.length - known) % R ≤ got.length - known := Nat.mod_le _ _
                have hd2 : (got.length - known) % R < R := Nat.mod_lt _ (by omega)
                have HT : Hid (∀ j : Nat, j < (got.length - known) % R → (((known : Int) + (j : Int)) % (R : Int) != (got.length : Int) % (R : Int)) = true) := fun j hj => by
                  have := gd_test (L := got.length) (by omega) (by omega) hj
                  simpa using this
                have HL : Hid ((((known : Int) + (((got.length - known) % R : Nat) : Int)) % (R : Int) != (got.length : Int) % (R : Int)) = false) := by
                  have := gd_last (L := got.length) (known := known) (R := R) (by omega)
                  show _ = false
                  simpa using this
                generalize (got.length - known) % R = D at *
                go_loopw [15] (fun v15 wx => ∃ j : Nat, j ≤ D ∧ v15 = .int .i64 j ∧ ∃ m, wx = w4.drewN m) (fun v15 _ => D - (intOf v15).toNat)
                case atStart => exact ⟨0, by omega, rfl, 0, rfl⟩
                case round =>
                  obtain ⟨j, hj, rfl, hdw⟩ := hrel
                  have HDW := Lib.hid hdw; clear hdw
                  by_cases hjd : j < D
                  · have ht := HT.out j hjd
                    go_wp2_with fail
                    go_region
                    go_wp2_with fail
                    go_roundw
                    case rel => exact ⟨j + 1, by omega, by go_num, drawn_more HDW.out⟩
                    case measure => simp [intOf]; omega
                  · obtain rfl : j = D := by omega
                    have ht := HL.out
                    clear hjd hj HT HL
                    obtain ⟨m, rfl⟩ := HDW.out
                    have HB5 := Lib.hid (below_drewN HB2.out m)
                    have HOW5 := Lib.hid (own_drewN' HOW2.out m)
                    clear HDW HB2 HOW2 g2
                    generalize w4.drewN m = w5 at *
                    by_cases hq : j ≤ W ∧ known + j ≤ len
                    · have HSP := Lib.hid (HSP.out.trans (if_pos hq))
                      obtain ⟨hq1, hq2⟩ := hq
                      by_cases hm : known + 1 < known + j
                      · have hmx : max (known + 1) (known + j) = known + j := by omega
                        rw [hmx] at HSP
                        clear hmx
                        go_wp2_with fail
                        go_region
                        go_wp2_with fail
                        go_roundw
                        case rel => exact ⟨k + 1, ⟨got, known + j, known + j⟩, by omega, by go_num, by go_num, by go_num, HOW5.out.drew, HSP.out.symm, HB5.out.drew⟩
                        case measure => simp [intOf]; omega
                      · have hmx : max (known + 1) (known + j) = known + 1 := by omega
                        rw [hmx] at HSP
                        clear hmx
                        go_wp2_with fail
                        go_region
                        go_wp2_with fail
                        go_roundw
                        case rel => exact ⟨k + 1, ⟨got, known + j, known + 1⟩, by omega, by go_num, by go_num, by go_num, HOW5.out.drew, HSP.out.symm, HB5.out.drew⟩
                        case measure => simp [intOf]; omega
                    · have HSP := Lib.hid (HSP.out.trans (if_neg hq))
                      have hq2 : W < j ∨ (j ≤ W ∧ len < known + j) := by omega
                      clear hq
                      rcases hq2 with hq2 | ⟨hq2, hq3⟩
                      · go_wp2_with fail
                        go_region
                        go_wp2_with fail
                        go_roundw
                        case rel => exact ⟨k + 1, ⟨got, known, known + 1⟩, by omega, by go_num, by go_num, by go_num, HOW5.out.drew, HSP.out.symm, HB5.out.drew⟩
                        case measure => simp [intOf]; omega
                      · have hq4 : decide ((known : Int) + (j : Int) ≤ (len : Int)) = false := by simp; omega
                        clear hq3
                        go_wp2_with fail
                        go_region
                        go_wp2_with fail
                        go_roundw
                        case rel => exact ⟨k + 1, ⟨got, known, known + 1⟩, by omega, by go_num, by go_num, by go_num, HOW5.out.drew, HSP.out.symm, HB5.out.drew⟩
                        case measure => simp [intOf]; omega
              · have hg : gbGot zs R ⟨got, known, next⟩ known = got := by unfold gbGot; rw [if_neg hp]
                rw [hg] at HSP
                clear hg hp
                have hsp := HSP.out
                rw [if_neg (by decide : ¬ (false = true)), if_pos rfl] at hsp
                have HSP := Lib.hid hsp
                clear hsp
                go_wp2_with fail
                go_region
                obtain ⟨w4, hw4⟩ : ∃ w4, w4 = wr.drew := ⟨_, rfl⟩
                have HB2 : Hid (Below w.heap.size w w4) := by rw [hw4]; exact HB.out.drew
                have HOW2 : Hid (w4.ownsRow w.heap.size 3 1 (.slice ga got.length gc) got.length (got.map (Value.int .i64))) := by rw [hw4]; exact HOW.out.drew
                rw [← hw4]
                clear hw4 g1
                have g2 := (HB2.out.cell (p := ⟨fb, foff + k * 2 + 1, none⟩) hfb).trans HG2.out
                go_wp2_with fail
                go_roundw
                case rel => exact ⟨k + 1, ⟨got, known, known + 1⟩, by omega, by go_num, by go_num, by go_num, HOW2.out, HSP.out.symm, HB2.out⟩
                case measure => simp [intOf]; omega
          · have hsp := HSP.out
            rw [if_pos (by rfl : true = true)] at hsp
            have HSP := Lib.hid hsp
            clear hsp
            go_wp2_with fail
            go_roundw
            case rel => exact ⟨k + 1, ⟨got, known, known + 1⟩, by omega, by go_num, by go_num, by go_num, HOW.out, HSP.out.symm, HB.out⟩
            case measure => simp [intOf]; omega
        · rw [q3] at HSP hnow
          clear q3
          obtain ⟨hn1, hn2, hn3⟩ := hnow
          obtain ⟨db, doff, rfl, hdb, hdc⟩ := HI.out.cell known (by omega)
          have HDC := Lib.hid hdc; clear hdc
          cases t
          · by_cases hp : known % R = got.length % R
            · have hp2 : ((known : Int) % (R : Int) == (got.length : Int) % (R : Int)) = true := by
                rw [beq_iff_eq]; exact_mod_cast hp
              cases bk
              · have hg : gbGot zs R ⟨got, known, next⟩ known = (got ++ [zs.getD known 0]) := by unfold gbGot; rw [if_pos hp]
                rw [hg] at HSP
                clear hg hp
                have hsp := HSP.out
                rw [if_neg (by decide : ¬ (false = true)), if_neg (by decide : ¬ (false = true))] at hsp
                rw [show gbD R (got ++ [zs.getD known 0]) known = ((got.length + 1) - known) % R from by unfold gbD; rw [show (got ++ [zs.getD known 0]).length = got.length + 1 from by simp]] at hsp
                have HSP := Lib.hid hsp
                clear hsp
                have hcz := (HB.out.cell (p := ⟨db, doff + known, none⟩) hdb).trans HDC.out
                have hsz := HB.out.size
                generalize zs.getD known 0 = z at *
                have hczd : wr.drew.cell? ⟨db, doff + known, none⟩ = some (.int .i64 z) := hcz
                go_wp2_with fail
                go_region
                go_wp2_with (first | (at_builtin; go_loud (refine wpList_append_lies _ rfl _ _ 22 rfl w.heap.size 3 i0 (.int .i64 0) 1 8 Tryd.underlying22 hi hz0 hz1 hz2 rfl (by decide) _ _ _ rfl (HOW.out.alloc _).drew ⟨wr.heap.size, 0, none⟩ 1 1 [.int .i64 z] rfl rfl (by have := (cell_one_new wr (.int .i64 z) 3); simpa using this) (by intro u hu; simp at hu; subst hu; rfl) (by decide) (by unfold maxLen; omega) (by omega) (by simp; omega) _ rfl ?_)))
                intro g9 c9 w4 hown1 hgrow1 hat1 hlt1
                have HB2 : Hid (Below w.heap.size w w4) := grown_below (HB.out.alloc HB.out.size _).drew hgrow1 (Nat.le_refl _) (by simp; omega) (HOW.out.alloc _)
                have HOW2 : Hid (w4.ownsRow w.heap.size 3 1 (.slice (some ⟨g9, 0, none⟩) (got.length + 1) c9) (got.length + 1) ((got ++ [z]).map (Value.int .i64))) := by
                  have := hown1
                  show w4.ownsRow w.heap.size 3 1 (.slice (some ⟨g9, 0, none⟩) (got.length + 1) c9) (got.length + 1) ((got ++ [z]).map (Value.int .i64))
                  simpa using this
                clear hown1 hgrow1 hat1 hlt1 hcz hczd
                have g2 := (HB2.out.cell (p := ⟨fb, foff + k * 2 + 1, none⟩) hfb).trans HG2.out
                go_wp2_with fail
                have hd1 : ((got.length + 1) - known) % R ≤ (got.length + 1) - known := Nat.mod_le _ _
                have hd2 : ((got.length + 1) - known) % R < R := Nat.mod_lt _ (by omega)
                have HT : Hid (∀ j : Nat, j < ((got.length + 1) - known) % R → (((known : Int) + (j : Int)) % (R : Int) != ((got.length : Int) + 1) % (R : Int)) = true) := fun j hj => by
                  have := gd_test (L := (got.length + 1)) (by omega) (by omega) hj
                  simpa using this
                have HL : Hid ((((known : Int) + ((((got.length + 1) - known) % R : Nat) : Int)) % (R : Int) != ((got.length : Int) + 1) % (R : Int)) = false) := by
                  have := gd_last (L := (got.length + 1)) (known := known) (R := R) (by omega)
                  show _ = false
                  simpa using this
                generalize ((got.length + 1) - known) % R = D at *
                go_loopw [15] (fun v15 wx => ∃ j : Nat, j ≤ D ∧ v15 = .int .i64 j ∧ ∃ m, wx = w4.drewN m) (fun v15 _ => D - (intOf v15).toNat)
                case atStart => exact ⟨0, by omega, rfl, 0, rfl⟩
                case round =>
                  obtain ⟨j, hj, rfl, hdw⟩ := hrel
                  have HDW := Lib.hid hdw; clear hdw
                  by_cases hjd : j < D
                  · have ht := HT.out j hjd
                    go_wp2_with fail
                    go_region
                    go_wp2_with fail
                    go_roundw
                    case rel => exact ⟨j + 1, by omega, by go_num, drawn_more HDW.out⟩
                    case measure => simp [intOf]; omega
                  · obtain rfl : j = D := by omega
                    have ht := HL.out
                    clear hjd hj HT HL
                    obtain ⟨m, rfl⟩ := HDW.out
                    have HB5 := Lib.hid (below_drewN HB2.out m)
                    have HOW5 := Lib.hid (own_drewN' HOW2.out m)
                    clear HDW HB2 HOW2 g2
                    generalize w4.drewN m = w5 at *
                    by_cases hq : j ≤ W ∧ known + j ≤ len
                    · have HSP := Lib.hid (HSP.out.trans (if_pos hq))
                      obtain ⟨hq1, hq2⟩ := hq
                      by_cases hm : known + 1 < known + j
                      · have hmx : max (known + 1) (known + j) = known + j := by omega
                        rw [hmx] at HSP
                        clear hmx
                        go_wp2_with fail
                        go_region
                        go_wp2_with fail
                        go_roundw
                        case rel => exact ⟨k + 1, ⟨(got ++ [z]), known + j, known + j⟩, by omega, by go_num, by go_num, by go_num, by simpa using HOW5.out.drew, HSP.out.symm, HB5.out.drew⟩
                        case measure => simp [intOf]; omega
                      · have hmx : max (known + 1) (known + j) = known + 1 := by omega
                        rw [hmx] at HSP
                        clear hmx
                        go_wp2_with fail
                        go_region
                        go_wp2_with fail
                        go_roundw
                        case rel => exact ⟨k + 1, ⟨(got ++ [z]), known + j, known + 1⟩, by omega, by go_num, by go_num, by go_num, by simpa using HOW5.out.drew, HSP.out.symm, HB5.out.drew⟩
                        case measure => simp [intOf]; omega
                    · have HSP := Lib.hid (HSP.out.trans (if_neg hq))
                      have hq2 : W < j ∨ (j ≤ W ∧ len < known + j) := by omega
                      clear hq
                      rcases hq2 with hq2 | ⟨hq2, hq3⟩
                      · go_wp2_with fail
                        go_region
                        go_wp2_with fail
                        go_roundw
                        case rel => exact ⟨k + 1, ⟨(got ++ [z]), known, known + 1⟩, by omega, by go_num, by go_num, by go_num, by simpa using HOW5.out.drew, HSP.out.symm, HB5.out.drew⟩
                        case measure => simp [intOf]; omega
                      · have hq4 : decide ((known : Int) + (j : Int) ≤ (len : Int)) = false := by simp; omega
                        clear hq3
                        go_wp2_with fail
                        go_region
                        go_wp2_with fail
                        go_roundw
                        case rel => exact ⟨k + 1, ⟨(got ++ [z]), known, known + 1⟩, by omega, by go_num, by go_num, by go_num, by simpa using HOW5.out.drew, HSP.out.symm, HB5.out.drew⟩
                        case measure => simp [intOf]; omega
              · have hg : gbGot zs R ⟨got, known, next⟩ known = (got ++ [zs.getD known 0]) := by unfold gbGot; rw [if_pos hp]
                rw [hg] at HSP
                clear hg hp
                have hsp := HSP.out
                rw [if_neg (by decide : ¬ (false = true)), if_pos rfl] at hsp
                have HSP := Lib.hid hsp
                clear hsp
                have hcz := (HB.out.cell (p := ⟨db, doff + known, none⟩) hdb).trans HDC.out
                have hsz := HB.out.size
                generalize zs.getD known 0 = z at *
                have hczd : wr.drew.cell? ⟨db, doff + known, none⟩ = some (.int .i64 z) := hcz
                go_wp2_with fail
                go_region
                go_wp2_with (first | (at_builtin; go_loud (refine wpList_append_lies _ rfl _ _ 22 rfl w.heap.size 3 i0 (.int .i64 0) 1 8 Tryd.underlying22 hi hz0 hz1 hz2 rfl (by decide) _ _ _ rfl (HOW.out.alloc _).drew ⟨wr.heap.size, 0, none⟩ 1 1 [.int .i64 z] rfl rfl (by have := (cell_one_new wr (.int .i64 z) 3); simpa using this) (by intro u hu; simp at hu; subst hu; rfl) (by decide) (by unfold maxLen; omega) (by omega) (by simp; omega) _ rfl ?_)))
                intro g9 c9 w4 hown1 hgrow1 hat1 hlt1
                have HB2 : Hid (Below w.heap.size w w4) := grown_below (HB.out.alloc HB.out.size _).drew hgrow1 (Nat.le_refl _) (by simp; omega) (HOW.out.alloc _)
                have HOW2 : Hid (w4.ownsRow w.heap.size 3 1 (.slice (some ⟨g9, 0, none⟩) (got.length + 1) c9) (got.length + 1) ((got ++ [z]).map (Value.int .i64))) := by
                  have := hown1
                  show w4.ownsRow w.heap.size 3 1 (.slice (some ⟨g9, 0, none⟩) (got.length + 1) c9) (got.length + 1) ((got ++ [z]).map (Value.int .i64))
                  simpa using this
                clear hown1 hgrow1 hat1 hlt1 hcz hczd
                have g2 := (HB2.out.cell (p := ⟨fb, foff + k * 2 + 1, none⟩) hfb).trans HG2.out
                go_wp2_with fail
                go_roundw
                case rel => exact ⟨k + 1, ⟨(got ++ [z]), known, known + 1⟩, by omega, by go_num, by go_num, by go_num, by simpa using HOW2.out, HSP.out.symm, HB2.out⟩
                case measure => simp [intOf]; omega
            · have hp2 : ((known : Int) % (R : Int) == (got.length : Int) % (R : Int)) = false := by
                rw [beq_eq_false_iff_ne]; intro e; exact hp (by exact_mod_cast e)
              cases bk
              · have hg : gbGot zs R ⟨got, known, next⟩ known = got := by unfold gbGot; rw [if_neg hp]
                rw [hg] at HSP
                clear hg hp
                have hsp := HSP.out
                rw [if_neg (by decide : ¬ (false = true)), if_neg (by decide : ¬ (false = true))] at hsp
                rw [show gbD R got known = (got.length - known) % R from by unfold gbD; rfl] at hsp
                have HSP := Lib.hid hsp
                clear hsp
                go_wp2_with fail
                go_region
                obtain ⟨w4, hw4⟩ : ∃ w4, w4 = wr.drew := ⟨_, rfl⟩
                have HB2 : Hid (Below w.heap.size w w4) := by rw [hw4]; exact HB.out.drew
                have HOW2 : Hid (w4.ownsRow w.heap.size 3 1 (.slice ga got.length gc) got.length (got.map (Value.int .i64))) := by rw [hw4]; exact HOW.out.drew
                rw [← hw4]
                clear hw4 g1
                have g2 := (HB2.out.cell (p := ⟨fb, foff + k * 2 + 1, none⟩) hfb).trans HG2.out
                go_wp2_with fail
                have hd1 : (got.length - known) % R ≤ got.length - known := Nat.mod_le _ _
                have hd2 : (got.length - known) % R < R := Nat.mod_lt _ (by omega)
                have HT : Hid (∀ j : Nat, j < (got.length - known) % R → (((known : Int) + (j : Int)) % (R : Int) != (got.length : Int) % (R : Int)) = true) := fun j hj => by
                  have := gd_test (L := got.length) (by omega) (by omega) hj
                  simpa using this
                have HL : Hid ((((known : Int) + (((got.length - known) % R : Nat) : Int)) % (R : Int) != (got.length : Int) % (R : Int)) = false) := by
                  have := gd_last (L := got.length) (known := known) (R := R) (by omega)
                  show _ = false
                  simpa using this
                generalize (got.length - known) % R = D at *
                go_loopw [15] (fun v15 wx => ∃ j : Nat, j ≤ D ∧ v15 = .int .i64 j ∧ ∃ m, wx = w4.drewN m) (fun v15 _ => D - (intOf v15).toNat)
                case atStart => exact ⟨0, by omega, rfl, 0, rfl⟩
                case round =>
                  obtain ⟨j, hj, rfl, hdw⟩ := hrel
                  have HDW := Lib.hid hdw; clear hdw
                  by_cases hjd : j < D
                  · have ht := HT.out j hjd
                    go_wp2_with fail
                    go_region
                    go_wp2_with fail
                    go_roundw
                    case rel => exact ⟨j + 1, by omega, by go_num, drawn_more HDW.out⟩
                    case measure => simp [intOf]; omega
                  · obtain rfl : j = D := by omega
                    have ht := HL.out
                    clear hjd hj HT HL
                    obtain ⟨m, rfl⟩ := HDW.out
                    have HB5 := Lib.hid (below_drewN HB2.out m)
                    have HOW5 := Lib.hid (own_drewN' HOW2.out m)
                    clear HDW HB2 HOW2 g2
                    generalize w4.drewN m = w5 at *
                    by_cases hq : j ≤ W ∧ known + j ≤ len
                    · have HSP := Lib.hid (HSP.out.trans (if_pos hq))
                      obtain ⟨hq1, hq2⟩ := hq
                      by_cases hm : known + 1 < known + j
                      · have hmx : max (known + 1) (known + j) = known + j := by omega
                        rw [hmx] at HSP
                        clear hmx
                        go_wp2_with fail
                        go_region
                        go_wp2_with fail
                        go_roundw
                        case rel => exact ⟨k + 1, ⟨got, known + j, known + j⟩, by omega, by go_num, by go_num, by go_num, HOW5.out.drew, HSP.out.symm, HB5.out.drew⟩
                        case measure => simp [intOf]; omega
                      · have hmx : max (known + 1) (known + j) = known + 1 := by omega
                        rw [hmx] at HSP
                        clear hmx
                        go_wp2_with fail
                        go_region
                        go_wp2_with fail
                        go_roundw
                        case rel => exact ⟨k + 1, ⟨got, known + j, known + 1⟩, by omega, by go_num, by go_num, by go_num, HOW5.out.drew, HSP.out.symm, HB5.out.drew⟩
                        case measure => simp [intOf]; omega
                    · have HSP := Lib.hid (HSP.out.trans (if_neg hq))
                      have hq2 : W < j ∨ (j ≤ W ∧ len < known + j) := by omega
                      clear hq
                      rcases hq2 with hq2 | ⟨hq2, hq3⟩
                      · go_wp2_with fail
                        go_region
                        go_wp2_with fail
                        go_roundw
                        case rel => exact ⟨k + 1, ⟨got, known, known + 1⟩, by omega, by go_num, by go_num, by go_num, HOW5.out.drew, HSP.out.symm, HB5.out.drew⟩
                        case measure => simp [intOf]; omega
                      · have hq4 : decide ((known : Int) + (j : Int) ≤ (len : Int)) = false := by simp; omega
                        clear hq3
                        go_wp2_with fail
                        go_region
                        go_wp2_with fail
                        go_roundw
                        case rel => exact ⟨k + 1, ⟨got, known, known + 1⟩, by omega, by go_num, by go_num, by go_num, HOW5.out.drew, HSP.out.symm, HB5.out.drew⟩
                        case measure => simp [intOf]; omega
              · have hg : gbGot zs R ⟨got, known, next⟩ known = got := by unfold gbGot; rw [if_neg hp]
                rw [hg] at HSP
                clear hg hp
                have hsp := HSP.out
                rw [if_neg (by decide : ¬ (false = true)), if_pos rfl] at hsp
                have HSP := Lib.hid hsp
                clear hsp
                go_wp2_with fail
                go_region
                obtain ⟨w4, hw4⟩ : ∃ w4, w4 = wr.drew := ⟨_, rfl⟩
                have HB2 : Hid (Below w.heap.size w w4) := by rw [hw4]; exact HB.out.drew
                have HOW2 : Hid (w4.ownsRow w.heap.size 3 1 (.slice ga got.length gc) got.length (got.map (Value.int .i64))) := by rw [hw4]; exact HOW.out.drew
                rw [← hw4]
                clear hw4 g1
                have g2 := (HB2.out.cell (p := ⟨fb, foff + k * 2 + 1, none⟩) hfb).trans HG2.out
                go_wp2_with fail
                go_roundw
                case rel => exact ⟨k + 1, ⟨got, known, known + 1⟩, by omega, by go_num, by go_num, by go_num, HOW2.out, HSP.out.symm, HB2.out⟩
                case measure => simp [intOf]; omega
          · have hsp := HSP.out
            rw [if_pos (by rfl : true = true)] at hsp
            have HSP := Lib.hid hsp
            clear hsp
            go_wp2_with fail
            go_roundw
            case rel => exact ⟨k + 1, ⟨got, known, known + 1⟩, by omega, by go_num, by go_num, by go_num, HOW.out, HSP.out.symm, HB.out⟩
            case measure => simp [intOf]; omega
        · rw [q3] at HSP hnow
          clear q3
          obtain ⟨hn1, hn2, hn3⟩ := hnow
          obtain ⟨db, doff, rfl, hdb, hdc⟩ := HI.out.cell next (by omega)
          have HDC := Lib.hid hdc; clear hdc
          cases t
          · by_cases hp : next % R = got.length % R
            · have hp2 : ((next : Int) % (R : Int) == (got.length : Int) % (R : Int)) = true := by
                rw [beq_iff_eq]; exact_mod_cast hp
              cases bk
              · have hg : gbGot zs R ⟨got, known, next⟩ next = (got ++ [zs.getD next 0]) := by unfold gbGot; rw [if_pos hp]
                rw [hg] at HSP
                clear hg hp
                have hsp := HSP.out
                rw [if_neg (by decide : ¬ (false = true)), if_neg (by decide : ¬ (false = true))] at hsp
                rw [show gbD R (got ++ [zs.getD next 0]) known = ((got.length + 1) - known) % R from by unfold gbD; rw [show (got ++ [zs.getD next 0]).length = got.length + 1 from by simp]] at hsp
                have HSP := Lib.hid hsp
                clear hsp
                have hcz := (HB.out.cell (p := ⟨db, doff + next, none⟩) hdb).trans HDC.out
                have hsz := HB.out.size
                generalize zs.getD next 0 = z at *
                have hczd : wr.drew.cell? ⟨db, doff + next, none⟩ = some (.int .i64 z) := hcz
                go_wp2_with fail
                go_region
                go_wp2_with (first | (at_builtin; go_loud (refine wpList_append_lies _ rfl _ _ 22 rfl w.heap.size 3 i0 (.int .i64 0) 1 8 Tryd.underlying22 hi hz0 hz1 hz2 rfl (by decide) _ _ _ rfl (HOW.out.alloc _).drew ⟨wr.heap.size, 0, none⟩ 1 1 [.int .i64 z] rfl rfl (by have := (cell_one_new wr (.int .i64 z) 3); simpa using this) (by intro u hu; simp at hu; subst hu; rfl) (by decide) (by unfold maxLen; omega) (by omega) (by simp; omega) _ rfl ?_)))
                intro g9 c9 w4 hown1 hgrow1 hat1 hlt1
                have HB2 : Hid (Below w.heap.size w w4) := grown_below (HB.out.alloc HB.out.size _).drew hgrow1 (Nat.le_refl _) (by simp; omega) (HOW.out.alloc _)
                have HOW2 : Hid (w4.ownsRow w.heap.size 3 1 (.slice (some ⟨g9, 0, none⟩) (got.length + 1) c9) (got.length + 1) ((got ++ [z]).map (Value.int .i64))) := by
                  have := hown1
                  show w4.ownsRow w.heap.size 3 1 (.slice (some ⟨g9, 0, none⟩) (got.length + 1) c9) (got.length + 1) ((got ++ [z]).map (Value.int .i64))
                  simpa using this
                clear hown1 hgrow1 hat1 hlt1 hcz hczd
                have g2 := (HB2.out.cell (p := ⟨fb, foff + k * 2 + 1, none⟩) hfb).trans HG2.out
                go_wp2_with fail
                have hd1 : ((got.length + 1) - known) % R ≤ (got.length + 1) - known := Nat.mod_le _ _
                have hd2 : ((got.length + 1) - known) % R < R := Nat.mod_lt _ (by omega)
                have HT : Hid (∀ j : Nat, j < ((got.length + 1) - known) % R → (((known : Int) + (j : Int)) % (R : Int) != ((got.length : Int) + 1) % (R : Int)) = true) := fun j hj => by
                  have := gd_test (L := (got.length + 1)) (by omega) (by omega) hj
                  simpa using this
                have HL : Hid ((((known : Int) + ((((got.length + 1) - known) % R : Nat) : Int)) % (R : Int) != ((got.length : Int) + 1) % (R : Int)) = false) := by
                  have := gd_last (L := (got.length + 1)) (known := known) (R := R) (by omega)
                  show _ = false
                  simpa using this
                generalize ((got.length + 1) - known) % R = D at *
                go_loopw [15] (fun v15 wx => ∃ j : Nat, j ≤ D ∧ v15 = .int .i64 j ∧ ∃ m, wx = w4.drewN m) (fun v15 _ => D - (intOf v15).toNat)
                case atStart => exact ⟨0, by omega, rfl, 0, rfl⟩
                case round =>
                  obtain ⟨j, hj, rfl, hdw⟩ := hrel
                  have HDW := Lib.hid hdw; clear hdw
                  by_cases hjd : j < D
                  · have ht := HT.out j hjd
                    go_wp2_with fail
                    go_region
                    go_wp2_with fail
                    go_roundw
                    case rel => exact ⟨j + 1, by omega, by go_num, drawn_more HDW.out⟩
                    case measure => simp [intOf]; omega
                  · obtain rfl : j = D := by omega
                    have ht := HL.out
                    clear hjd hj HT HL
                    obtain ⟨m, rfl⟩ := HDW.out
                    have HB5 := Lib.hid (below_drewN HB2.out m)
                    have HOW5 := Lib.hid (own_drewN' HOW2.out m)
                    clear HDW HB2 HOW2 g2
                    generalize w4.drewN m = w5 at *
                    by_cases hq : j ≤ W ∧ known + j ≤ len
                    · have HSP := Lib.hid (HSP.out.trans (if_pos hq))
                      obtain ⟨hq1, hq2⟩ := hq
                      by_cases hm : next + 1 < known + j
                      · have hmx : max (next + 1) (known + j) = known + j := by omega
                        rw [hmx] at HSP
                        clear hmx
                        go_wp2_with fail
                        go_region
                        go_wp2_with fail
                        go_roundw
                        case rel => exact ⟨k + 1, ⟨(got ++ [z]), known + j, known + j⟩, by omega, by go_num, by go_num, by go_num, by simpa using HOW5.out.drew, HSP.out.symm, HB5.out.drew⟩
                        case measure => simp [intOf]; omega
                      · have hmx : max (next + 1) (known + j) = next + 1 := by omega
                        rw [hmx] at HSP
                        clear hmx
                        go_wp2_with fail
                        go_region
                        go_wp2_with fail
                        go_roundw
                        case rel => exact ⟨k + 1, ⟨(got ++ [z]), known + j, next + 1⟩, by omega, by go_num, by go_num, by go_num, by simpa using HOW5.out.drew, HSP.out.symm, HB5.out.drew⟩
                        case measure => simp [intOf]; omega
                    · have HSP := Lib.hid (HSP.out.trans (if_neg hq))
                      have hq2 : W < j ∨ (j ≤ W ∧ len < known + j) := by omega
                      clear hq
                      rcases hq2 with hq2 | ⟨hq2, hq3⟩
                      · go_wp2_with fail
                        go_region
                        go_wp2_with fail
                        go_roundw
                        case rel => exact ⟨k + 1, ⟨(got ++ [z]), known, next + 1⟩, by omega, by go_num, by go_num, by go_num, by simpa using HOW5.out.drew, HSP.out.symm, HB5.out.drew⟩
                        case measure => simp [intOf]; omega
                      · have hq4 : decide ((known : Int) + (j : Int) ≤ (len : Int)) = false := by simp; omega
                        clear hq3
                        go_wp2_with fail
                        go_region
                        go_wp2_with fail
                        go_roundw
                        case rel => exact ⟨k + 1, ⟨(got ++ [z]), known, next + 1⟩, by omega, by go_num, by go_num, by go_num, by simpa using HOW5.out.drew, HSP.out.symm, HB5.out.drew⟩
                        case measure => simp [intOf]; omega
              · have hg : gbGot zs R ⟨got, known, next⟩ next = (got ++ [zs.getD next 0]) := by unfold gbGot; rw [if_pos hp]
                rw [hg] at HSP
                clear hg hp
                have hsp := HSP.out
                rw [if_neg (by decide : ¬ (false = true)), if_pos rfl] at hsp
                have HSP := Lib.hid hsp
                clear hsp
                have hcz := (HB.out.cell (p := ⟨db, doff + next, none⟩) hdb).trans HDC.out
                have hsz := HB.out.size
                generalize zs.getD next 0 = z at *
                have hczd : wr.drew.cell? ⟨db, doff + next, none⟩ = some (.int .i64 z) := hcz
                go_wp2_with fail
                go_region
                go_wp2_with (first | (at_builtin; go_loud (refine wpList_append_lies _ rfl _ _ 22 rfl w.heap.size 3 i0 (.int .i64 0) 1 8 Tryd.underlying22 hi hz0 hz1 hz2 rfl (by decide) _ _ _ rfl (HOW.out.alloc _).drew ⟨wr.heap.size, 0, none⟩ 1 1 [.int .i64 z] rfl rfl (by have := (cell_one_new wr (.int .i64 z) 3); simpa using this) (by intro u hu; simp at hu; subst hu; rfl) (by decide) (by unfold maxLen; omega) (by omega) (by simp; omega) _ rfl ?_)))
                intro g9 c9 w4 hown1 hgrow1 hat1 hlt1
                have HB2 : Hid (Below w.heap.size w w4) := grown_below (HB.out.alloc HB.out.size _).drew hgrow1 (Nat.le_refl _) (by simp; omega) (HOW.out.alloc _)
                have HOW2 : Hid (w4.ownsRow w.heap.size 3 1 (.slice (some ⟨g9, 0, none⟩) (got.length + 1) c9) (got.length + 1) ((got ++ [z]).map (Value.int .i64))) := by
                  have := hown1
                  show w4.ownsRow w.heap.size 3 1 (.slice (some ⟨g9, 0, none⟩) (got.length + 1) c9) (got.length + 1) ((got ++ [z]).map (Value.int .i64))
                  simpa using this
                clear hown1 hgrow1 hat1 hlt1 hcz hczd
                have g2 := (HB2.out.cell (p := ⟨fb, foff + k * 2 + 1, none⟩) hfb).trans HG2.out
                go_wp2_with fail
                go_roundw
                case rel => exact ⟨k + 1, ⟨(got ++ [z]), known, next + 1⟩, by omega, by go_num, by go_num, by go_num, by simpa using HOW2.out, HSP.out.symm, HB2.out⟩
                case measure => simp [intOf]; omega
            · have hp2 : ((next : Int) % (R : Int) == (got.length : Int) % (R : Int)) = false := by
                rw [beq_eq_false_iff_ne]; intro e; exact hp (by exact_mod_cast e)
              cases bk
              · have hg : gbGot zs R ⟨got, known, next⟩ next = got := by unfold gbGot; rw [if_neg hp]
                rw [hg] at HSP
                clear hg hp
                have hsp := HSP.out
                rw [if_neg (by decide : ¬ (false = true)), if_neg (by decide : ¬ (false = true))] at hsp
                rw [show gbD R got known = (got.length - known) % R from by unfold gbD; rfl] at hsp
                have HSP := Lib.hid hsp
                clear hsp
                go_wp2_with fail
                go_region
                obtain ⟨w4, hw4⟩ : ∃ w4, w4 = wr.drew := ⟨_, rfl⟩
                have HB2 : Hid (Below w.heap.size w w4) := by rw [hw4]; exact HB.out.drew
                have HOW2 : Hid (w4.ownsRow w.heap.size 3 1 (.slice ga got.length gc) got.length (got.map (Value.int .i64))) := by rw [hw4]; exact HOW.out.drew
                rw [← hw4]
                clear hw4 g1
                have g2 := (HB2.out.cell (p := ⟨fb, foff + k * 2 + 1, none⟩) hfb).trans HG2.out
                go_wp2_with fail
                have hd1 : (got.length - known) % R ≤ got.length - known := Nat.mod_le _ _
                have hd2 : (got.length - known) % R < R := Nat.mod_lt _ (by omega)
                have HT : Hid (∀ j : Nat, j < (got.length - known) % R → (((known : Int) + (j : Int)) % (R : Int) != (got.length : Int) % (R : Int)) = true) := fun j hj => by
                  have := gd_test (L := got.length) (by omega) (by omega) hj
                  simpa using this
                have HL : Hid ((((known : Int) + (((got.length - known) % R : Nat) : Int)) % (R : Int) != (got.length : Int) % (R : Int)) = false) := by
                  have := gd_last (L := got.length) (known := known) (R := R) (by omega)
                  show _ = false
                  simpa using this
                generalize (got.length - known) % R = D at *
                go_loopw [15] (fun v15 wx => ∃ j : Nat, j ≤ D ∧ v15 = .int .i64 j ∧ ∃ m, wx = w4.drewN m) (fun v15 _ => D - (intOf v15).toNat)
                case atStart => exact ⟨0, by omega, rfl, 0, rfl⟩
                case round =>
                  obtain ⟨j, hj, rfl, hdw⟩ := hrel
                  have HDW := Lib.hid hdw; clear hdw
                  by_cases hjd : j < D
                  · have ht := HT.out j hjd
                    go_wp2_with fail
                    go_region
                    go_wp2_with fail
                    go_roundw
                    case rel => exact ⟨j + 1, by omega, by go_num, drawn_more HDW.out⟩
                    case measure => simp [intOf]; omega
                  · obtain rfl : j = D := by omega
                    have ht := HL.out
                    clear hjd hj HT HL
                    obtain ⟨m, rfl⟩ := HDW.out
                    have HB5 := Lib.hid (below_drewN HB2.out m)
                    have HOW5 := Lib.hid (own_drewN' HOW2.out m)
                    clear HDW HB2 HOW2 g2
                    generalize w4.drewN m = w5 at *
                    by_cases hq : j ≤ W ∧ known + j ≤ len
                    · have HSP := Lib.hid (HSP.out.trans (if_pos hq))
                      obtain ⟨hq1, hq2⟩ := hq
                      by_cases hm : next + 1 < known + j
                      · have hmx : max (next + 1) (known + j) = known + j := by omega
                        rw [hmx] at HSP
                        clear hmx
                        go_wp2_with fail
                        go_region
                        go_wp2_with fail
                        go_roundw
                        case rel => exact ⟨k + 1, ⟨got, known + j, known + j⟩, by omega, by go_num, by go_num, by go_num, HOW5.out.drew, HSP.out.symm, HB5.out.drew⟩
                        case measure => simp [intOf]; omega
                      · have hmx : max (next + 1) (known + j) = next + 1 := by omega
                        rw [hmx] at HSP
                        clear hmx
                        go_wp2_with fail
                        go_region
                        go_wp2_with fail
                        go_roundw
                        case rel => exact ⟨k + 1, ⟨got, known + j, next + 1⟩, by omega, by go_num, by go_num, by go_num, HOW5.out.drew, HSP.out.symm, HB5.out.drew⟩
                        case measure => simp [intOf]; omega
                    · have HSP := Lib.hid (HSP.out.trans (if_neg hq))
                      have hq2 : W < j ∨ (j ≤ W ∧ len < known + j) := by omega
                      clear hq
                      rcases hq2 with hq2 | ⟨hq2, hq3⟩
                      · go_wp2_with fail
                        go_region
                        go_wp2_with fail
                        go_roundw
                        case rel => exact ⟨k + 1, ⟨got, known, next + 1⟩, by omega, by go_num, by go_num, by go_num, HOW5.out.drew, HSP.out.symm, HB5.out.drew⟩
                        case measure => simp [intOf]; omega
                      · have hq4 : decide ((known : Int) + (j : Int) ≤ (len : Int)) = false := by simp; omega
                        clear hq3
                        go_wp2_with fail
                        go_region
                        go_wp2_with fail
                        go_roundw
                        case rel => exact ⟨k + 1, ⟨got, known, next + 1⟩, by omega, by go_num, by go_num, by go_num, HOW5.out.drew, HSP.out.symm, HB5.out.drew⟩
                        case measure => simp [intOf]; omega
              · have hg : gbGot zs R ⟨got, known, next⟩ next = got := by unfold gbGot; rw [if_neg hp]
                rw [hg] at HSP
                clear hg hp
                have hsp := HSP.out
                rw [if_neg (by decide : ¬ (false = true)), if_pos rfl] at hsp
                have HSP := Lib.hid hsp
                clear hsp
                go_wp2_with fail
                go_region
                obtain ⟨w4, hw4⟩ : ∃ w4, w4 = wr.drew := ⟨_, rfl⟩
                have HB2 : Hid (Below w.heap.size w w4) := by rw [hw4]; exact HB.out.drew
                have HOW2 : Hid (w4.ownsRow w.heap.size 3 1 (.slice ga got.length gc) got.length (got.map (Value.int .i64))) := by rw [hw4]; exact HOW.out.drew
                rw [← hw4]
                clear hw4 g1
                have g2 := (HB2.out.cell (p := ⟨fb, foff + k * 2 + 1, none⟩) hfb).trans HG2.out
                go_wp2_with fail
                go_roundw
                case rel => exact ⟨k + 1, ⟨got, known, next + 1⟩, by omega, by go_num, by go_num, by go_num, HOW2.out, HSP.out.symm, HB2.out⟩
                case measure => simp [intOf]; omega
          · have hsp := HSP.out
            rw [if_pos (by rfl : true = true)] at hsp
            have HSP := Lib.hid hsp
            clear hsp
            go_wp2_with fail
            go_roundw
            case rel => exact ⟨k + 1, ⟨got, known, next + 1⟩, by omega, by go_num, by go_num, by go_num, HOW.out, HSP.out.symm, HB.out⟩
            case measure => simp [intOf]; omega
    · have HX : Hid (gbnRun zs W R fs = s) := by
        show gbnRun zs W R fs = _
        rw [HR.out, List.take_of_length_le (by rw [hlf.out]; omega)]
      go_wp2_with fail
      go_ret2
      rw [HX.out]
      exact ⟨ga, gc, rfl, HGI.out, HB.out⟩
end Go.Proofs.YtnkcjkemhdigpaaDoor
