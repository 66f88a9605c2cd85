/- The contract of gbn.Run: what is got, how much is known, as the plain function says. -/
import Derived.Test.YtnkcjkemhdigpaaGbn
namespace Go.Proofs.Ytnkcjkemhdigpaa
open Go.RowKit
set_option linter.unusedSimpArgs false
set_option linter.unusedVariables false

theorem gb_fits_run {zs : List Int} (h : ∀ k, -9223372036854775808 ≤ zs.getD k 0 ∧ zs.getD k 0 ≤ 9223372036854775807) (W R : Nat) (fs : List (Bool × Bool)) (j : Nat) : -9223372036854775808 ≤ (gbnRun zs W R fs).got.getD j 0 ∧ (gbnRun zs W R fs).got.getD j 0 ≤ 9223372036854775807 := by
  have hx := gb_fits (fun x => -9223372036854775808 ≤ x ∧ x ≤ 9223372036854775807) (by omega) h (W := W) (R := R) fs ⟨[], 0, 0⟩ (by simp)
  rcases Nat.lt_or_ge j (gbnRun zs W R fs).got.length with h1 | h1
  · rw [List.getD_eq_getElem?_getD, List.getElem?_eq_getElem h1]
    exact hx _ (List.getElem_mem h1)
  · rw [List.getD_eq_getElem?_getD, List.getElem?_eq_none h1]; simp
theorem gb_len_run (zs : List Int) (W R : Nat) (fs : List (Bool × Bool)) : (gbnRun zs W R fs).got.length ≤ fs.length := by
  have := gb_count (zs := zs) (W := W) (R := R) fs ⟨[], 0, 0⟩
  simpa [gbnRun] using this

theorem mod_facts (L known R : Nat) (h : known ≤ L) (hR : 2 ≤ R) : 0 ≤ ((L : Int) - (known : Int)) % (R : Int) ∧ ((L : Int) - (known : Int)) % (R : Int) < R ∧ (((L : Int) - (known : Int)) % (R : Int) + R) % (R : Int) = (((L - known) % R : Nat) : Int) := by
  have e : (L : Int) - (known : Int) = ((L - known : Nat) : Int) := by omega
  rw [e]
  refine ⟨Int.emod_nonneg _ (by omega), Int.emod_lt_of_pos _ (by omega), ?_⟩
  have : ((L - known) % R + R) % R = (L - known) % R := by rw [Nat.add_mod_right, Nat.mod_mod]
  exact_mod_cast this

set_option maxHeartbeats 16000000 in
set_option maxRecDepth 100000 in
theorem grun_yes (a : Option Addr) (len cap W R : Nat) (af : Option Addr) (lf cf : Nat) (zs : List Int) (fs : List (Bool × Bool)) (w : World) (hI : Ints w w.heap.size a len zs) (hF : Pairs w w.heap.size af lf fs) (he : aheadE zs lf W R = 0) (hW1 : 1 ≤ W) (hW2 : W ≤ 8) (hR1 : 2 ≤ R) (hR2 : R ≤ 16) (hl20 : len ≤ 20) (hl200 : lf ≤ 200) :
    Calls Try.prog 15 #[.slice a len cap, .int .i64 W, .int .i64 R, .slice af lf cf] w (GotPost w.heap.size (gbnRun zs W R fs).got (gbnRun zs W R fs).known w) := by
  have C := Lib.hid (fun w' h => gcheck_any a len cap W R af lf cf zs w.heap.size w' h)
  rw [he] at C
  clear he
  have hlz := Lib.hid hI.size
  have hlf := Lib.hid hF.size
  have HI := Lib.hid hI; clear hI
  have HF := Lib.hid hF; clear hF
  obtain ⟨i0, hi, hz0, hz1, hz2⟩ := info_parts info3
  go_enter Try.func15, Try.ntmps15
  go_wp2_with fail
  refine (C.out _ HI.out).mono ?_
  clear C
  rintro e w' ⟨he, rfl⟩
  have he2 : e = .returned .nilIface := he
  subst he2
  clear he
  go_wp2_with fail
  go_loopw [8, 9, 12, 13, 28] (fun v8 v9 v12 v13 v28 wr => ∃ (k : Nat) (s : GbS), k ≤ lf ∧ v28 = .int .i64 k ∧ v9 = .int .i64 s.known ∧ v12 = .int .i64 s.next ∧ v13 = .int .i64 s.got.length ∧
      wr.ownsRow w.heap.size 3 1 v8 s.got.length (s.got.map (Value.int .i64)) ∧ Hid (s = gbnRun zs W R (fs.take k)) ∧ Below w.heap.size w wr)
    (fun _ _ _ _ v28 _ => lf - (intOf v28).toNat)
  case atStart => exact ⟨0, ⟨[], 0, 0⟩, by omega, rfl, rfl, rfl, rfl, World.ownsRow_nil _ _ _ _, rfl, Below.refl _ _⟩
  case round =>
    obtain ⟨k, s, hk, rfl, rfl, rfl, rfl, hown, HR, hB⟩ := hrel
    have HB := Lib.hid hB; clear hB
    have HOW := Lib.hid hown; clear hown
    have hinv : GbI zs W s := by rw [HR.out]; exact gb_inv zs R hW1 _
    have hgl : s.got.length ≤ k := by rw [HR.out]; have := gb_len_run zs W R (fs.take k); simp at this; omega
    have HFI : Hid (∀ j, -9223372036854775808 ≤ s.got.getD j 0 ∧ s.got.getD j 0 ≤ 9223372036854775807) := by rw [HR.out]; exact gb_fits_run HI.out.fits W R _
    have HIN := Lib.hid hinv
    obtain ⟨n1, n2, n3, n4⟩ := hinv
    rw [hlz.out] at n1 n4
    by_cases hlt : k < lf
    · obtain ⟨fb, foff, rfl, hfb, hf1, hf2⟩ := HF.out.cell k hlt
      have g1 := (HB.out.cell (p := ⟨fb, foff + k * 2, none⟩) hfb).trans hf1
      have g2 := (HB.out.cell (p := ⟨fb, foff + k * 2 + 1, none⟩) hfb).trans hf2
      clear hf1 hf2
      have hstep : gbnRun zs W R (fs.take (k + 1)) = gbnStep zs W R s (fs.getD k (false, false)) := by
        rw [take_succ_getD fs k (by rw [hlf.out]; exact hlt), gbn_fold_snoc, ← HR.out]
      have HSP := Lib.hid hstep; clear hstep
      obtain ⟨t, bk, hfv⟩ : ∃ t bk, fs.getD k (false, false) = (t, bk) := ⟨_, _, rfl⟩
      rw [hfv] at g1 g2 HSP
      clear hfv
      by_cases hend : s.known = len
      · have HX : Hid (gbnRun zs W R fs = s) := by
          show gbnRun zs W R fs = _
          rw [gbn_split zs W R fs k, ← HR.out]
          exact gbn_stay _ _ (by rw [hlz.out]; exact hend)
        have hx1 : ((s.known : Int) == (len : Int)) = true := by simp; omega
        obtain ⟨ga, gc, hv, hgi⟩ := ints_own HOW.out rfl HFI.out
        subst hv
        have HGI := Lib.hid hgi; clear hgi hend
        go_wp2_with fail
        go_ret3
        rw [HX.out]
        exact ⟨ga, gc, rfl, HGI.out.alloc _, HB.out.alloc HB.out.size _⟩
      · have hkl : s.known < len := by omega
        have hne : ((s.known : Int) == (len : Int)) = false := by simp; omega
        have hnow := gb_now HIN.out hW1 (by rw [hlz.out]; exact hkl)
        rw [hlz.out] at hnow
        have hun : gbnStep zs W R s (t, bk) = if t then ⟨s.got, s.known, gbNow zs.length W s + 1⟩ else
          if bk then ⟨gbGot zs R s (gbNow zs.length W s), s.known, gbNow zs.length W s + 1⟩ else
          if gbD R (gbGot zs R s (gbNow zs.length W s)) s.known ≤ W ∧ s.known + gbD R (gbGot zs R s (gbNow zs.length W s)) s.known ≤ zs.length then
            ⟨gbGot zs R s (gbNow zs.length W s), s.known + gbD R (gbGot zs R s (gbNow zs.length W s)) s.known, max (gbNow zs.length W s + 1) (s.known + gbD R (gbGot zs R s (gbNow zs.length W s)) s.known)⟩
          else ⟨gbGot zs R s (gbNow zs.length W s), s.known, gbNow zs.length W s + 1⟩ := by
            unfold gbnStep; rw [if_neg (by rw [hlz.out]; exact hend)]
        rw [hun, hlz.out] at HSP
        clear hun hend
        have hcase : (s.next = s.known + W ∧ s.known + W ≤ len ∧ gbNow len W s = s.known) ∨ (s.next = len ∧ len < s.known + W ∧ gbNow len W s = s.known) ∨ (s.next < s.known + W ∧ s.next < len ∧ s.known + W ≤ len ∧ gbNow len W s = s.next) ∨ (s.next < s.known + W ∧ s.next < len ∧ len < s.known + W ∧ gbNow len W s = s.next) := by
          unfold gbNow
          split <;> omega
        obtain ⟨got, known, next⟩ := s
        simp only at *
        rcases hcase with ⟨q1, q2, q3⟩ | ⟨q1, q2, q3⟩ | ⟨q1, q2, q4, q3⟩ | ⟨q1, q2, q4, q3⟩
        · rw [q3] at HSP hnow
          clear q3
          obtain ⟨hn1, hn2, hn3⟩ := hnow
          have q1a : next ≤ known + W := by omega
          have q1b : known + W ≤ next := by omega
          clear q1
          obtain ⟨db, doff, rfl, hdb, hdc⟩ := HI.out.cell known (by omega)
          have HDC := Lib.hid hdc; clear hdc
          cases t
          · by_cases hp : known % R = got.length % R
            · have hp2 : ((known : Int) % (R : Int) == (got.length : Int) % (R : Int)) = true := by
                rw [beq_iff_eq]; exact_mod_cast hp
              cases bk
              · have hg : gbGot zs R ⟨got, known, next⟩ known = (got ++ [zs.getD known 0]) := by unfold gbGot; rw [if_pos hp]
                rw [hg] at HSP
                clear hg hp
                have hlen1 : (got ++ [zs.getD known 0]).length = got.length + 1 := by simp
                have hsp := HSP.out
                rw [if_neg (by decide : ¬ (false = true)), if_neg (by decide : ¬ (false = true))] at hsp
                have HSP := Lib.hid hsp
                clear hsp
                obtain ⟨d, hd⟩ : ∃ d, gbD R (got ++ [zs.getD known 0]) known = d := ⟨_, rfl⟩
                rw [hd] at HSP
                have hd0 : d = ((got.length + 1) - known) % R := by rw [← hd]; unfold gbD; rw [hlen1]
                clear hd
                have hd1 : d ≤ (got.length + 1) - known := by rw [hd0]; exact Nat.mod_le _ _
                have hd2 : d < R := by rw [hd0]; exact Nat.mod_lt _ (by omega)
                obtain ⟨hm1, hm2, hE⟩ := mod_facts (got.length + 1) known R (by omega) (by omega)
                rw [← hd0] at hE
                clear hd0
                rw [show (((got.length + 1 : Nat) : Int)) = (got.length : Int) + 1 from by omega] at hm1 hm2 hE
                have HLEN := Lib.hid hlen1
                clear hlen1
                by_cases hq : d ≤ W ∧ known + d ≤ len
                · have HSP := Lib.hid (HSP.out.trans (if_pos hq))
                  obtain ⟨hq1, hq2⟩ := hq
                  have hcz := (HB.out.cell (p := ⟨db, doff + known, none⟩) hdb).trans HDC.out
                  have hsz := HB.out.size
                  generalize zs.getD known 0 = z at *
                  have hcz2 : (wr.alloc (.cells #[.bool false, .bool false] 32 (0, 0))).cell? ⟨db, doff + known, none⟩ = some (.int .i64 z) := by rw [World.cell?_alloc_lt _ _ _ (show db < wr.heap.size by omega)]; exact hcz
                  have hcz3 : (wr.drew.alloc (.cells #[.bool false, .bool false] 32 (0, 0))).cell? ⟨db, doff + known, none⟩ = some (.int .i64 z) := hcz2
                  go_wp2_with fail
                  go_region
                  go_wp2_with (first | (at_builtin; go_loud (refine wpList_append_lies _ rfl (.tmp 57) (.tmp 62) 22 rfl w.heap.size 3 i0 (.int .i64 0) 1 8 Try.underlying22 hi hz0 hz1 hz2 rfl (by decide) _ _ _ rfl ((HOW.out.alloc _).alloc _).drew ⟨wr.heap.size + 1, 0, none⟩ 1 1 [.int .i64 z] rfl rfl (by have := (cell_one_new (wr.alloc (.cells #[.bool false, .bool false] 32 (0, 0))) (.int .i64 z) 3); simpa using this) (by intro u hu; simp at hu; subst hu; rfl) (by decide) (by unfold maxLen; omega) (by omega) (by simp; omega) _ rfl ?_)))
                  intro g1 cap1 w4 hown1 hgrow1 hat1 hlt1
                  have HB2 : Hid (Below w.heap.size w w4) := grown_below ((HB.out.alloc HB.out.size _).alloc (by simp; omega) _).drew hgrow1 (Nat.le_refl _) (by simp; omega) ((HOW.out.alloc _).alloc _)
                  have g2x : w4.cell? ⟨wr.heap.size, 1, none⟩ = some (.bool false) := by
                    rw [World.cell?_of_block (w := ((wr.alloc (.cells #[.bool false, .bool false] 32 (0, 0))).alloc (.cells #[.int .i64 z] 3 (0, 0))).drew) (hgrow1.block _ (by simp; omega) (fun e => absurd (show wr.heap.size < wr.heap.size from (HOW.out.lt _ e.symm).2) (Nat.lt_irrefl _)))]
                    rw [World.cell?_drew, World.cell?_alloc_old _ _ _ (by simp)]
                    exact World.cell?_alloc_new _ _ _ 1
                  have HOW2 := Lib.hid hown1
                  clear hown1 hgrow1 hat1 hlt1 hcz hcz2 hcz3
                  go_wp2_with fail
                  all_goals
                    go_roundw
                    case rel => exact ⟨k + 1, ⟨(got ++ [z]), known + d, max (known + 1) (known + d)⟩, by omega, by go_num, by go_num, by go_num, by rw [HLEN.out]; go_num, by simpa using HOW2.out, HSP.out.symm, HB2.out⟩
                    case measure => simp [intOf]; omega
                · have HSP := Lib.hid (HSP.out.trans (if_neg hq))
                  have hq2 : W < d ∨ (d ≤ W ∧ len < known + d) := by omega
                  clear hq
                  rcases hq2 with hq2 | ⟨hq2, hq3⟩
                  · have hcz := (HB.out.cell (p := ⟨db, doff + known, none⟩) hdb).trans HDC.out
                    have hsz := HB.out.size
                    generalize zs.getD known 0 = z at *
                    have hcz2 : (wr.alloc (.cells #[.bool false, .bool false] 32 (0, 0))).cell? ⟨db, doff + known, none⟩ = some (.int .i64 z) := by rw [World.cell?_alloc_lt _ _ _ (show db < wr.heap.size by omega)]; exact hcz
                    have hcz3 : (wr.drew.alloc (.cells #[.bool false, .bool false] 32 (0, 0))).cell? ⟨db, doff + known, none⟩ = some (.int .i64 z) := hcz2
                    go_wp2_with fail
                    go_region
                    go_wp2_with (first | (at_builtin; go_loud (refine wpList_append_lies _ rfl (.tmp 57) (.tmp 62) 22 rfl w.heap.size 3 i0 (.int .i64 0) 1 8 Try.underlying22 hi hz0 hz1 hz2 rfl (by decide) _ _ _ rfl ((HOW.out.alloc _).alloc _).drew ⟨wr.heap.size + 1, 0, none⟩ 1 1 [.int .i64 z] rfl rfl (by have := (cell_one_new (wr.alloc (.cells #[.bool false, .bool false] 32 (0, 0))) (.int .i64 z) 3); simpa using this) (by intro u hu; simp at hu; subst hu; rfl) (by decide) (by unfold maxLen; omega) (by omega) (by simp; omega) _ rfl ?_)))
                    intro g1 cap1 w4 hown1 hgrow1 hat1 hlt1
                    have HB2 : Hid (Below w.heap.size w w4) := grown_below ((HB.out.alloc HB.out.size _).alloc (by simp; omega) _).drew hgrow1 (Nat.le_refl _) (by simp; omega) ((HOW.out.alloc _).alloc _)
                    have g2x : w4.cell? ⟨wr.heap.size, 1, none⟩ = some (.bool false) := by
                      rw [World.cell?_of_block (w := ((wr.alloc (.cells #[.bool false, .bool false] 32 (0, 0))).alloc (.cells #[.int .i64 z] 3 (0, 0))).drew) (hgrow1.block _ (by simp; omega) (fun e => absurd (show wr.heap.size < wr.heap.size from (HOW.out.lt _ e.symm).2) (Nat.lt_irrefl _)))]
                      rw [World.cell?_drew, World.cell?_alloc_old _ _ _ (by simp)]
                      exact World.cell?_alloc_new _ _ _ 1
                    have HOW2 := Lib.hid hown1
                    clear hown1 hgrow1 hat1 hlt1 hcz hcz2 hcz3
                    go_wp2_with fail
                    all_goals
                      go_roundw
                      case rel => exact ⟨k + 1, ⟨(got ++ [z]), known, known + 1⟩, by omega, by go_num, by go_num, by go_num, by rw [HLEN.out]; go_num, by simpa using HOW2.out, HSP.out.symm, HB2.out⟩
                      case measure => simp [intOf]; omega
                  · have hq4 : decide ((known : Int) + (d : Int) ≤ (len : Int)) = false := by simp; omega
                    clear hq3
                    have hcz := (HB.out.cell (p := ⟨db, doff + known, none⟩) hdb).trans HDC.out
                    have hsz := HB.out.size
                    generalize zs.getD known 0 = z at *
                    have hcz2 : (wr.alloc (.cells #[.bool false, .bool false] 32 (0, 0))).cell? ⟨db, doff + known, none⟩ = some (.int .i64 z) := by rw [World.cell?_alloc_lt _ _ _ (show db < wr.heap.size by omega)]; exact hcz
                    have hcz3 : (wr.drew.alloc (.cells #[.bool false, .bool false] 32 (0, 0))).cell? ⟨db, doff + known, none⟩ = some (.int .i64 z) := hcz2
                    go_wp2_with fail
                    go_region
                    go_wp2_with (first | (at_builtin; go_loud (refine wpList_append_lies _ rfl (.tmp 57) (.tmp 62) 22 rfl w.heap.size 3 i0 (.int .i64 0) 1 8 Try.underlying22 hi hz0 hz1 hz2 rfl (by decide) _ _ _ rfl ((HOW.out.alloc _).alloc _).drew ⟨wr.heap.size + 1, 0, none⟩ 1 1 [.int .i64 z] rfl rfl (by have := (cell_one_new (wr.alloc (.cells #[.bool false, .bool false] 32 (0, 0))) (.int .i64 z) 3); simpa using this) (by intro u hu; simp at hu; subst hu; rfl) (by decide) (by unfold maxLen; omega) (by omega) (by simp; omega) _ rfl ?_)))
                    intro g1 cap1 w4 hown1 hgrow1 hat1 hlt1
                    have HB2 : Hid (Below w.heap.size w w4) := grown_below ((HB.out.alloc HB.out.size _).alloc (by simp; omega) _).drew hgrow1 (Nat.le_refl _) (by simp; omega) ((HOW.out.alloc _).alloc _)
                    have g2x : w4.cell? ⟨wr.heap.size, 1, none⟩ = some (.bool false) := by
                      rw [World.cell?_of_block (w := ((wr.alloc (.cells #[.bool false, .bool false] 32 (0, 0))).alloc (.cells #[.int .i64 z] 3 (0, 0))).drew) (hgrow1.block _ (by simp; omega) (fun e => absurd (show wr.heap.size < wr.heap.size from (HOW.out.lt _ e.symm).2) (Nat.lt_irrefl _)))]
                      rw [World.cell?_drew, World.cell?_alloc_old _ _ _ (by simp)]
                      exact World.cell?_alloc_new _ _ _ 1
                    have HOW2 := Lib.hid hown1
                    clear hown1 hgrow1 hat1 hlt1 hcz hcz2 hcz3
                    go_wp2_with fail
                    all_goals
                      go_roundw
                      case rel => exact ⟨k + 1, ⟨(got ++ [z]), known, known + 1⟩, by omega, by go_num, by go_num, by go_num, by rw [HLEN.out]; go_num, by simpa using HOW2.out, HSP.out.symm, HB2.out⟩
                      case measure => simp [intOf]; omega
              · have hg : gbGot zs R ⟨got, known, next⟩ known = (got ++ [zs.getD known 0]) := by unfold gbGot; rw [if_pos hp]
                rw [hg] at HSP
                clear hg hp
                have hlen1 : (got ++ [zs.getD known 0]).length = got.length + 1 := by simp
                have hsp := HSP.out
                rw [if_neg (by decide : ¬ (false = true)), if_pos rfl] at hsp
                have HSP := Lib.hid hsp
                clear hsp
                have HLEN := Lib.hid hlen1
                clear hlen1
                have hcz := (HB.out.cell (p := ⟨db, doff + known, none⟩) hdb).trans HDC.out
                have hsz := HB.out.size
                generalize zs.getD known 0 = z at *
                have hcz2 : (wr.alloc (.cells #[.bool false, .bool true] 32 (0, 0))).cell? ⟨db, doff + known, none⟩ = some (.int .i64 z) := by rw [World.cell?_alloc_lt _ _ _ (show db < wr.heap.size by omega)]; exact hcz
                have hcz3 : (wr.drew.alloc (.cells #[.bool false, .bool true] 32 (0, 0))).cell? ⟨db, doff + known, none⟩ = some (.int .i64 z) := hcz2
                go_wp2_with fail
                go_region
                go_wp2_with (first | (at_builtin; go_loud (refine wpList_append_lies _ rfl (.tmp 57) (.tmp 62) 22 rfl w.heap.size 3 i0 (.int .i64 0) 1 8 Try.underlying22 hi hz0 hz1 hz2 rfl (by decide) _ _ _ rfl ((HOW.out.alloc _).alloc _).drew ⟨wr.heap.size + 1, 0, none⟩ 1 1 [.int .i64 z] rfl rfl (by have := (cell_one_new (wr.alloc (.cells #[.bool false, .bool true] 32 (0, 0))) (.int .i64 z) 3); simpa using this) (by intro u hu; simp at hu; subst hu; rfl) (by decide) (by unfold maxLen; omega) (by omega) (by simp; omega) _ rfl ?_)))
                intro g1 cap1 w4 hown1 hgrow1 hat1 hlt1
                have HB2 : Hid (Below w.heap.size w w4) := grown_below ((HB.out.alloc HB.out.size _).alloc (by simp; omega) _).drew hgrow1 (Nat.le_refl _) (by simp; omega) ((HOW.out.alloc _).alloc _)
                have g2x : w4.cell? ⟨wr.heap.size, 1, none⟩ = some (.bool true) := by
                  rw [World.cell?_of_block (w := ((wr.alloc (.cells #[.bool false, .bool true] 32 (0, 0))).alloc (.cells #[.int .i64 z] 3 (0, 0))).drew) (hgrow1.block _ (by simp; omega) (fun e => absurd (show wr.heap.size < wr.heap.size from (HOW.out.lt _ e.symm).2) (Nat.lt_irrefl _)))]
                  rw [World.cell?_drew, World.cell?_alloc_old _ _ _ (by simp)]
                  exact World.cell?_alloc_new _ _ _ 1
                have HOW2 := Lib.hid hown1
                clear hown1 hgrow1 hat1 hlt1 hcz hcz2 hcz3
                go_wp2_with fail
                all_goals
                  go_roundw
                  case rel => exact ⟨k + 1, ⟨(got ++ [z]), known, known + 1⟩, by omega, by go_num, by go_num, by go_num, by rw [HLEN.out]; go_num, by simpa using HOW2.out, HSP.out.symm, HB2.out⟩
                  case measure => simp [intOf]; omega
            · have hp2 : ((known : Int) % (R : Int) == (got.length : Int) % (R : Int)) = false := by
                rw [beq_eq_false_iff_ne]; intro e; exact hp (by exact_mod_cast e)
              cases bk
              · have hg : gbGot zs R ⟨got, known, next⟩ known = got := by unfold gbGot; rw [if_neg hp]
                rw [hg] at HSP
                clear hg hp
                have hsp := HSP.out
                rw [if_neg (by decide : ¬ (false = true)), if_neg (by decide : ¬ (false = true))] at hsp
                have HSP := Lib.hid hsp
                clear hsp
                obtain ⟨d, hd⟩ : ∃ d, gbD R got known = d := ⟨_, rfl⟩
                rw [hd] at HSP
                have hd0 : d = (got.length - known) % R := by rw [← hd]; unfold gbD; rfl
                clear hd
                have hd1 : d ≤ got.length - known := by rw [hd0]; exact Nat.mod_le _ _
                have hd2 : d < R := by rw [hd0]; exact Nat.mod_lt _ (by omega)
                obtain ⟨hm1, hm2, hE⟩ := mod_facts got.length known R (by omega) (by omega)
                rw [← hd0] at hE
                clear hd0
                by_cases hq : d ≤ W ∧ known + d ≤ len
                · have HSP := Lib.hid (HSP.out.trans (if_pos hq))
                  obtain ⟨hq1, hq2⟩ := hq
                  have HB2 : Hid (Below w.heap.size w (wr.alloc (.cells #[.bool false, .bool false] 32 (0, 0)))) := Lib.hid (HB.out.alloc HB.out.size (.cells #[.bool false, .bool false] 32 (0, 0)))
                  go_wp2_with fail
                  go_region
                  go_wp2_with fail
                  all_goals
                    go_roundw
                    case rel => exact ⟨k + 1, ⟨got, known + d, max (known + 1) (known + d)⟩, by omega, by go_num, by go_num, by go_num, by go_num, (HOW.out.alloc _).drew, HSP.out.symm, HB2.out.drew⟩
                    case measure => simp [intOf]; omega
                · have HSP := Lib.hid (HSP.out.trans (if_neg hq))
                  have hq2 : W < d ∨ (d ≤ W ∧ len < known + d) := by omega
                  clear hq
                  rcases hq2 with hq2 | ⟨hq2, hq3⟩
                  · have HB2 : Hid (Below w.heap.size w (wr.alloc (.cells #[.bool false, .bool false] 32 (0, 0)))) := Lib.hid (HB.out.alloc HB.out.size (.cells #[.bool false, .bool false] 32 (0, 0)))
                    go_wp2_with fail
                    go_region
                    go_wp2_with fail
                    all_goals
                      go_roundw
                      case rel => exact ⟨k + 1, ⟨got, known, known + 1⟩, by omega, by go_num, by go_num, by go_num, by go_num, (HOW.out.alloc _).drew, HSP.out.symm, HB2.out.drew⟩
                      case measure => simp [intOf]; omega
                  · have hq4 : decide ((known : Int) + (d : Int) ≤ (len : Int)) = false := by simp; omega
                    clear hq3
                    have HB2 : Hid (Below w.heap.size w (wr.alloc (.cells #[.bool false, .bool false] 32 (0, 0)))) := Lib.hid (HB.out.alloc HB.out.size (.cells #[.bool false, .bool false] 32 (0, 0)))
                    go_wp2_with fail
                    go_region
                    go_wp2_with fail
                    all_goals
                      go_roundw
                      case rel => exact ⟨k + 1, ⟨got, known, known + 1⟩, by omega, by go_num, by go_num, by go_num, by go_num, (HOW.out.alloc _).drew, HSP.out.symm, HB2.out.drew⟩
                      case measure => simp [intOf]; omega
              · have hg : gbGot zs R ⟨got, known, next⟩ known = got := by unfold gbGot; rw [if_neg hp]
                rw [hg] at HSP
                clear hg hp
                have hsp := HSP.out
                rw [if_neg (by decide : ¬ (false = true)), if_pos rfl] at hsp
                have HSP := Lib.hid hsp
                clear hsp
                have HB2 : Hid (Below w.heap.size w (wr.alloc (.cells #[.bool false, .bool true] 32 (0, 0)))) := Lib.hid (HB.out.alloc HB.out.size (.cells #[.bool false, .bool true] 32 (0, 0)))
                go_wp2_with fail
                go_region
                go_wp2_with fail
                all_goals
                  go_roundw
                  case rel => exact ⟨k + 1, ⟨got, known, known + 1⟩, by omega, by go_num, by go_num, by go_num, by go_num, (HOW.out.alloc _).drew, HSP.out.symm, HB2.out.drew⟩
                  case measure => simp [intOf]; omega
          · have hsp := HSP.out
            rw [if_pos (by rfl : true = true)] at hsp
            have HSP := Lib.hid hsp
            clear hsp
            go_wp2_with fail
            go_roundw
            case rel => exact ⟨k + 1, ⟨got, known, known + 1⟩, by omega, by go_num, by go_num, by go_num, by go_num, HOW.out.alloc _, HSP.out.symm, HB.out.alloc HB.out.size _⟩
            case measure => simp [intOf]; omega
        · rw [q3] at HSP hnow
          clear q3
          obtain ⟨hn1, hn2, hn3⟩ := hnow
          have q1a : next ≤ len := by omega
          have q1b : len ≤ next := by omega
          clear q1
          obtain ⟨db, doff, rfl, hdb, hdc⟩ := HI.out.cell known (by omega)
          have HDC := Lib.hid hdc; clear hdc
          cases t
          · by_cases hp : known % R = got.length % R
            · have hp2 : ((known : Int) % (R : Int) == (got.length : Int) % (R : Int)) = true := by
                rw [beq_iff_eq]; exact_mod_cast hp
              cases bk
              · have hg : gbGot zs R ⟨got, known, next⟩ known = (got ++ [zs.getD known 0]) := by unfold gbGot; rw [if_pos hp]
                rw [hg] at HSP
                clear hg hp
                have hlen1 : (got ++ [zs.getD known 0]).length = got.length + 1 := by simp
                have hsp := HSP.out
                rw [if_neg (by decide : ¬ (false = true)), if_neg (by decide : ¬ (false = true))] at hsp
                have HSP := Lib.hid hsp
                clear hsp
                obtain ⟨d, hd⟩ : ∃ d, gbD R (got ++ [zs.getD known 0]) known = d := ⟨_, rfl⟩
                rw [hd] at HSP
                have hd0 : d = ((got.length + 1) - known) % R := by rw [← hd]; unfold gbD; rw [hlen1]
                clear hd
                have hd1 : d ≤ (got.length + 1) - known := by rw [hd0]; exact Nat.mod_le _ _
                have hd2 : d < R := by rw [hd0]; exact Nat.mod_lt _ (by omega)
                obtain ⟨hm1, hm2, hE⟩ := mod_facts (got.length + 1) known R (by omega) (by omega)
                rw [← hd0] at hE
                clear hd0
                rw [show (((got.length + 1 : Nat) : Int)) = (got.length : Int) + 1 from by omega] at hm1 hm2 hE
                have HLEN := Lib.hid hlen1
                clear hlen1
                by_cases hq : d ≤ W ∧ known + d ≤ len
                · have HSP := Lib.hid (HSP.out.trans (if_pos hq))
                  obtain ⟨hq1, hq2⟩ := hq
                  have hcz := (HB.out.cell (p := ⟨db, doff + known, none⟩) hdb).trans HDC.out
                  have hsz := HB.out.size
                  generalize zs.getD known 0 = z at *
                  have hcz2 : (wr.alloc (.cells #[.bool false, .bool false] 32 (0, 0))).cell? ⟨db, doff + known, none⟩ = some (.int .i64 z) := by rw [World.cell?_alloc_lt _ _ _ (show db < wr.heap.size by omega)]; exact hcz
                  have hcz3 : (wr.drew.alloc (.cells #[.bool false, .bool false] 32 (0, 0))).cell? ⟨db, doff + known, none⟩ = some (.int .i64 z) := hcz2
                  go_wp2_with fail
                  go_region
                  go_wp2_with (first | (at_builtin; go_loud (refine wpList_append_lies _ rfl (.tmp 57) (.tmp 62) 22 rfl w.heap.size 3 i0 (.int .i64 0) 1 8 Try.underlying22 hi hz0 hz1 hz2 rfl (by decide) _ _ _ rfl ((HOW.out.alloc _).alloc _).drew ⟨wr.heap.size + 1, 0, none⟩ 1 1 [.int .i64 z] rfl rfl (by have := (cell_one_new (wr.alloc (.cells #[.bool false, .bool false] 32 (0, 0))) (.int .i64 z) 3); simpa using this) (by intro u hu; simp at hu; subst hu; rfl) (by decide) (by unfold maxLen; omega) (by omega) (by simp; omega) _ rfl ?_)))
                  intro g1 cap1 w4 hown1 hgrow1 hat1 hlt1
                  have HB2 : Hid (Below w.heap.size w w4) := grown_below ((HB.out.alloc HB.out.size _).alloc (by simp; omega) _).drew hgrow1 (Nat.le_refl _) (by simp; omega) ((HOW.out.alloc _).alloc _)
                  have g2x : w4.cell? ⟨wr.heap.size, 1, none⟩ = some (.bool false) := by
                    rw [World.cell?_of_block (w := ((wr.alloc (.cells #[.bool false, .bool false] 32 (0, 0))).alloc (.cells #[.int .i64 z] 3 (0, 0))).drew) (hgrow1.block _ (by simp; omega) (fun e => absurd (show wr.heap.size < wr.heap.size from (HOW.out.lt _ e.symm).2) (Nat.lt_irrefl _)))]
                    rw [World.cell?_drew, World.cell?_alloc_old _ _ _ (by simp)]
                    exact World.cell?_alloc_new _ _ _ 1
                  have HOW2 := Lib.hid hown1
                  clear hown1 hgrow1 hat1 hlt1 hcz hcz2 hcz3
                  go_wp2_with fail
                  all_goals
                    go_roundw
                    case rel => exact ⟨k + 1, ⟨(got ++ [z]), known + d, max (known + 1) (known + d)⟩, by omega, by go_num, by go_num, by go_num, by rw [HLEN.out]; go_num, by simpa using HOW2.out, HSP.out.symm, HB2.out⟩
                    case measure => simp [intOf]; omega
                · have HSP := Lib.hid (HSP.out.trans (if_neg hq))
                  have hq2 : W < d ∨ (d ≤ W ∧ len < known + d) := by omega
                  clear hq
                  rcases hq2 with hq2 | ⟨hq2, hq3⟩
                  · have hcz := (HB.out.cell (p := ⟨db, doff + known, none⟩) hdb).trans HDC.out
                    have hsz := HB.out.size
                    generalize zs.getD known 0 = z at *
                    have hcz2 : (wr.alloc (.cells #[.bool false, .bool false] 32 (0, 0))).cell? ⟨db, doff + known, none⟩ = some (.int .i64 z) := by rw [World.cell?_alloc_lt _ _ _ (show db < wr.heap.size by omega)]; exact hcz
                    have hcz3 : (wr.drew.alloc (.cells #[.bool false, .bool false] 32 (0, 0))).cell? ⟨db, doff + known, none⟩ = some (.int .i64 z) := hcz2
                    go_wp2_with fail
                    go_region
                    go_wp2_with (first | (at_builtin; go_loud (refine wpList_append_lies _ rfl (.tmp 57) (.tmp 62) 22 rfl w.heap.size 3 i0 (.int .i64 0) 1 8 Try.underlying22 hi hz0 hz1 hz2 rfl (by decide) _ _ _ rfl ((HOW.out.alloc _).alloc _).drew ⟨wr.heap.size + 1, 0, none⟩ 1 1 [.int .i64 z] rfl rfl (by have := (cell_one_new (wr.alloc (.cells #[.bool false, .bool false] 32 (0, 0))) (.int .i64 z) 3); simpa using this) (by intro u hu; simp at hu; subst hu; rfl) (by decide) (by unfold maxLen; omega) (by omega) (by simp; omega) _ rfl ?_)))
                    intro g1 cap1 w4 hown1 hgrow1 hat1 hlt1
                    have HB2 : Hid (Below w.heap.size w w4) := grown_below ((HB.out.alloc HB.out.size _).alloc (by simp; omega) _).drew hgrow1 (Nat.le_refl _) (by simp; omega) ((HOW.out.alloc _).alloc _)
                    have g2x : w4.cell? ⟨wr.heap.size, 1, none⟩ = some (.bool false) := by
                      rw [World.cell?_of_block (w := ((wr.alloc (.cells #[.bool false, .bool false] 32 (0, 0))).alloc (.cells #[.int .i64 z] 3 (0, 0))).drew) (hgrow1.block _ (by simp; omega) (fun e => absurd (show wr.heap.size < wr.heap.size from (HOW.out.lt _ e.symm).2) (Nat.lt_irrefl _)))]
                      rw [World.cell?_drew, World.cell?_alloc_old _ _ _ (by simp)]
                      exact World.cell?_alloc_new _ _ _ 1
                    have HOW2 := Lib.hid hown1
                    clear hown1 hgrow1 hat1 hlt1 hcz hcz2 hcz3
                    go_wp2_with fail
                    all_goals
                      go_roundw
                      case rel => exact ⟨k + 1, ⟨(got ++ [z]), known, known + 1⟩, by omega, by go_num, by go_num, by go_num, by rw [HLEN.out]; go_num, by simpa using HOW2.out, HSP.out.symm, HB2.out⟩
                      case measure => simp [intOf]; omega
                  · have hq4 : decide ((known : Int) + (d : Int) ≤ (len : Int)) = false := by simp; omega
                    clear hq3
                    have hcz := (HB.out.cell (p := ⟨db, doff + known, none⟩) hdb).trans HDC.out
                    have hsz := HB.out.size
                    generalize zs.getD known 0 = z at *
                    have hcz2 : (wr.alloc (.cells #[.bool false, .bool false] 32 (0, 0))).cell? ⟨db, doff + known, none⟩ = some (.int .i64 z) := by rw [World.cell?_alloc_lt _ _ _ (show db < wr.heap.size by omega)]; exact hcz
                    have hcz3 : (wr.drew.alloc (.cells #[.bool false, .bool false] 32 (0, 0))).cell? ⟨db, doff + known, none⟩ = some (.int .i64 z) := hcz2
                    go_wp2_with fail
                    go_region
                    go_wp2_with (first | (at_builtin; go_loud (refine wpList_append_lies _ rfl (.tmp 57) (.tmp 62) 22 rfl w.heap.size 3 i0 (.int .i64 0) 1 8 Try.underlying22 hi hz0 hz1 hz2 rfl (by decide) _ _ _ rfl ((HOW.out.alloc _).alloc _).drew ⟨wr.heap.size + 1, 0, none⟩ 1 1 [.int .i64 z] rfl rfl (by have := (cell_one_new (wr.alloc (.cells #[.bool false, .bool false] 32 (0, 0))) (.int .i64 z) 3); simpa using this) (by intro u hu; simp at hu; subst hu; rfl) (by decide) (by unfold maxLen; omega) (by omega) (by simp; omega) _ rfl ?_)))
                    intro g1 cap1 w4 hown1 hgrow1 hat1 hlt1
                    have HB2 : Hid (Below w.heap.size w w4) := grown_below ((HB.out.alloc HB.out.size _).alloc (by simp; omega) _).drew hgrow1 (Nat.le_refl _) (by simp; omega) ((HOW.out.alloc _).alloc _)
                    have g2x : w4.cell? ⟨wr.heap.size, 1, none⟩ = some (.bool false) := by
                      rw [World.cell?_of_block (w := ((wr.alloc (.cells #[.bool false, .bool false] 32 (0, 0))).alloc (.cells #[.int .i64 z] 3 (0, 0))).drew) (hgrow1.block _ (by simp; omega) (fun e => absurd (show wr.heap.size < wr.heap.size from (HOW.out.lt _ e.symm).2) (Nat.lt_irrefl _)))]
                      rw [World.cell?_drew, World.cell?_alloc_old _ _ _ (by simp)]
                      exact World.cell?_alloc_new _ _ _ 1
                    have HOW2 := Lib.hid hown1
                    clear hown1 hgrow1 hat1 hlt1 hcz hcz2 hcz3
                    go_wp2_with fail
                    all_goals
                      go_roundw
                      case rel => exact ⟨k + 1, ⟨(got ++ [z]), known, known + 1⟩, by omega, by go_num, by go_num, by go_num, by rw [HLEN.out]; go_num, by simpa using HOW2.out, HSP.out.symm, HB2.out⟩
                      case measure => simp [intOf]; omega
              · have hg : gbGot zs R ⟨got, known, next⟩ known = (got ++ [zs.getD known 0]) := by unfold gbGot; rw [if_pos hp]
                rw [hg] at HSP
                clear hg hp
                have hlen1 : (got ++ [zs.getD known 0]).length = got.length + 1 := by simp
                have hsp := HSP.out
                rw [if_neg (by decide : ¬ (false = true)), if_pos rfl] at hsp
                have HSP := Lib.hid hsp
                clear hsp
                have HLEN := Lib.hid hlen1
                clear hlen1
                have hcz := (HB.out.cell (p := ⟨db, doff + known, none⟩) hdb).trans HDC.out
                have hsz := HB.out.size
                generalize zs.getD known 0 = z at *
                have hcz2 : (wr.alloc (.cells #[.bool false, .bool true] 32 (0, 0))).cell? ⟨db, doff + known, none⟩ = some (.int .i64 z) := by rw [World.cell?_alloc_lt _ _ _ (show db < wr.heap.size by omega)]; exact hcz
                have hcz3 : (wr.drew.alloc (.cells #[.bool false, .bool true] 32 (0, 0))).cell? ⟨db, doff + known, none⟩ = some (.int .i64 z) := hcz2
                go_wp2_with fail
                go_region
                go_wp2_with (first | (at_builtin; go_loud (refine wpList_append_lies _ rfl (.tmp 57) (.tmp 62) 22 rfl w.heap.size 3 i0 (.int .i64 0) 1 8 Try.underlying22 hi hz0 hz1 hz2 rfl (by decide) _ _ _ rfl ((HOW.out.alloc _).alloc _).drew ⟨wr.heap.size + 1, 0, none⟩ 1 1 [.int .i64 z] rfl rfl (by have := (cell_one_new (wr.alloc (.cells #[.bool false, .bool true] 32 (0, 0))) (.int .i64 z) 3); simpa using this) (by intro u hu; simp at hu; subst hu; rfl) (by decide) (by unfold maxLen; omega) (by omega) (by simp; omega) _ rfl ?_)))
                intro g1 cap1 w4 hown1 hgrow1 hat1 hlt1
                have HB2 : Hid (Below w.heap.size w w4) := grown_below ((HB.out.alloc HB.out.size _).alloc (by simp; omega) _).drew hgrow1 (Nat.le_refl _) (by simp; omega) ((HOW.out.alloc _).alloc _)
                have g2x : w4.cell? ⟨wr.heap.size, 1, none⟩ = some (.bool true) := by
                  rw [World.cell?_of_block (w := ((wr.alloc (.cells #[.bool false, .bool true] 32 (0, 0))).alloc (.cells #[.int .i64 z] 3 (0, 0))).drew) (hgrow1.block _ (by simp; omega) (fun e => absurd (show wr.heap.size < wr.heap.size from (HOW.out.lt _ e.symm).2) (Nat.lt_irrefl _)))]
                  rw [World.cell?_drew, World.cell?_alloc_old _ _ _ (by simp)]
                  exact World.cell?_alloc_new _ _ _ 1
                have HOW2 := Lib.hid hown1
                clear hown1 hgrow1 hat1 hlt1 hcz hcz2 hcz3
                go_wp2_with fail
                all_goals
                  go_roundw
                  case rel => exact ⟨k + 1, ⟨(got ++ [z]), known, known + 1⟩, by omega, by go_num, by go_num, by go_num, by rw [HLEN.out]; go_num, by simpa using HOW2.out, HSP.out.symm, HB2.out⟩
                  case measure => simp [intOf]; omega
            · have hp2 : ((known : Int) % (R : Int) == (got.length : Int) % (R : Int)) = false := by
                rw [beq_eq_false_iff_ne]; intro e; exact hp (by exact_mod_cast e)
              cases bk
              · have hg : gbGot zs R ⟨got, known, next⟩ known = got := by unfold gbGot; rw [if_neg hp]
                rw [hg] at HSP
                clear hg hp
                have hsp := HSP.out
                rw [if_neg (by decide : ¬ (false = true)), if_neg (by decide : ¬ (false = true))] at hsp
                have HSP := Lib.hid hsp
                clear hsp
                obtain ⟨d, hd⟩ : ∃ d, gbD R got known = d := ⟨_, rfl⟩
                rw [hd] at HSP
                have hd0 : d = (got.length - known) % R := by rw [← hd]; unfold gbD; rfl
                clear hd
                have hd1 : d ≤ got.length - known := by rw [hd0]; exact Nat.mod_le _ _
                have hd2 : d < R := by rw [hd0]; exact Nat.mod_lt _ (by omega)
                obtain ⟨hm1, hm2, hE⟩ := mod_facts got.length known R (by omega) (by omega)
                rw [← hd0] at hE
                clear hd0
                by_cases hq : d ≤ W ∧ known + d ≤ len
                · have HSP := Lib.hid (HSP.out.trans (if_pos hq))
                  obtain ⟨hq1, hq2⟩ := hq
                  have HB2 : Hid (Below w.heap.size w (wr.alloc (.cells #[.bool false, .bool false] 32 (0, 0)))) := Lib.hid (HB.out.alloc HB.out.size (.cells #[.bool false, .bool false] 32 (0, 0)))
                  go_wp2_with fail
                  go_region
                  go_wp2_with fail
                  all_goals
                    go_roundw
                    case rel => exact ⟨k + 1, ⟨got, known + d, max (known + 1) (known + d)⟩, by omega, by go_num, by go_num, by go_num, by go_num, (HOW.out.alloc _).drew, HSP.out.symm, HB2.out.drew⟩
                    case measure => simp [intOf]; omega
                · have HSP := Lib.hid (HSP.out.trans (if_neg hq))
                  have hq2 : W < d ∨ (d ≤ W ∧ len < known + d) := by omega
                  clear hq
                  rcases hq2 with hq2 | ⟨hq2, hq3⟩
                  · have HB2 : Hid (Below w.heap.size w (wr.alloc (.cells #[.bool false, .bool false] 32 (0, 0)))) := Lib.hid (HB.out.alloc HB.out.size (.cells #[.bool false, .bool false] 32 (0, 0)))
                    go_wp2_with fail
                    go_region
                    go_wp2_with fail
                    all_goals
                      go_roundw
                      case rel => exact ⟨k + 1, ⟨got, known, known + 1⟩, by omega, by go_num, by go_num, by go_num, by go_num, (HOW.out.alloc _).drew, HSP.out.symm, HB2.out.drew⟩
                      case measure => simp [intOf]; omega
                  · have hq4 : decide ((known : Int) + (d : Int) ≤ (len : Int)) = false := by simp; omega
                    clear hq3
                    have HB2 : Hid (Below w.heap.size w (wr.alloc (.cells #[.bool false, .bool false] 32 (0, 0)))) := Lib.hid (HB.out.alloc HB.out.size (.cells #[.bool false, .bool false] 32 (0, 0)))
                    go_wp2_with fail
                    go_region
                    go_wp2_with fail
                    all_goals
                      go_roundw
                      case rel => exact ⟨k + 1, ⟨got, known, known + 1⟩, by omega, by go_num, by go_num, by go_num, by go_num, (HOW.out.alloc _).drew, HSP.out.symm, HB2.out.drew⟩
                      case measure => simp [intOf]; omega
              · have hg : gbGot zs R ⟨got, known, next⟩ known = got := by unfold gbGot; rw [if_neg hp]
                rw [hg] at HSP
                clear hg hp
                have hsp := HSP.out
                rw [if_neg (by decide : ¬ (false = true)), if_pos rfl] at hsp
                have HSP := Lib.hid hsp
                clear hsp
                have HB2 : Hid (Below w.heap.size w (wr.alloc (.cells #[.bool false, .bool true] 32 (0, 0)))) := Lib.hid (HB.out.alloc HB.out.size (.cells #[.bool false, .bool true] 32 (0, 0)))
                go_wp2_with fail
                go_region
                go_wp2_with fail
                all_goals
                  go_roundw
                  case rel => exact ⟨k + 1, ⟨got, known, known + 1⟩, by omega, by go_num, by go_num, by go_num, by go_num, (HOW.out.alloc _).drew, HSP.out.symm, HB2.out.drew⟩
                  case measure => simp [intOf]; omega
          · have hsp := HSP.out
            rw [if_pos (by rfl : true = true)] at hsp
            have HSP := Lib.hid hsp
            clear hsp
            go_wp2_with fail
            go_roundw
            case rel => exact ⟨k + 1, ⟨got, known, known + 1⟩, by omega, by go_num, by go_num, by go_num, by go_num, HOW.out.alloc _, HSP.out.symm, HB.out.alloc HB.out.size _⟩
            case measure => simp [intOf]; omega
        · rw [q3] at HSP hnow
          clear q3
          obtain ⟨hn1, hn2, hn3⟩ := hnow
          obtain ⟨db, doff, rfl, hdb, hdc⟩ := HI.out.cell next (by omega)
          have HDC := Lib.hid hdc; clear hdc
          cases t
          · by_cases hp : next % R = got.length % R
            · have hp2 : ((next : Int) % (R : Int) == (got.length : Int) % (R : Int)) = true := by
                rw [beq_iff_eq]; exact_mod_cast hp
              cases bk
              · have hg : gbGot zs R ⟨got, known, next⟩ next = (got ++ [zs.getD next 0]) := by unfold gbGot; rw [if_pos hp]
                rw [hg] at HSP
                clear hg hp
                have hlen1 : (got ++ [zs.getD next 0]).length = got.length + 1 := by simp
                have hsp := HSP.out
                rw [if_neg (by decide : ¬ (false = true)), if_neg (by decide : ¬ (false = true))] at hsp
                have HSP := Lib.hid hsp
                clear hsp
                obtain ⟨d, hd⟩ : ∃ d, gbD R (got ++ [zs.getD next 0]) known = d := ⟨_, rfl⟩
                rw [hd] at HSP
                have hd0 : d = ((got.length + 1) - known) % R := by rw [← hd]; unfold gbD; rw [hlen1]
                clear hd
                have hd1 : d ≤ (got.length + 1) - known := by rw [hd0]; exact Nat.mod_le _ _
                have hd2 : d < R := by rw [hd0]; exact Nat.mod_lt _ (by omega)
                obtain ⟨hm1, hm2, hE⟩ := mod_facts (got.length + 1) known R (by omega) (by omega)
                rw [← hd0] at hE
                clear hd0
                rw [show (((got.length + 1 : Nat) : Int)) = (got.length : Int) + 1 from by omega] at hm1 hm2 hE
                have HLEN := Lib.hid hlen1
                clear hlen1
                by_cases hq : d ≤ W ∧ known + d ≤ len
                · have HSP := Lib.hid (HSP.out.trans (if_pos hq))
                  obtain ⟨hq1, hq2⟩ := hq
                  have hcz := (HB.out.cell (p := ⟨db, doff + next, none⟩) hdb).trans HDC.out
                  have hsz := HB.out.size
                  generalize zs.getD next 0 = z at *
                  have hcz2 : (wr.alloc (.cells #[.bool false, .bool false] 32 (0, 0))).cell? ⟨db, doff + next, none⟩ = some (.int .i64 z) := by rw [World.cell?_alloc_lt _ _ _ (show db < wr.heap.size by omega)]; exact hcz
                  have hcz3 : (wr.drew.alloc (.cells #[.bool false, .bool false] 32 (0, 0))).cell? ⟨db, doff + next, none⟩ = some (.int .i64 z) := hcz2
                  go_wp2_with fail
                  go_region
                  go_wp2_with (first | (at_builtin; go_loud (refine wpList_append_lies _ rfl (.tmp 57) (.tmp 62) 22 rfl w.heap.size 3 i0 (.int .i64 0) 1 8 Try.underlying22 hi hz0 hz1 hz2 rfl (by decide) _ _ _ rfl ((HOW.out.alloc _).alloc _).drew ⟨wr.heap.size + 1, 0, none⟩ 1 1 [.int .i64 z] rfl rfl (by have := (cell_one_new (wr.alloc (.cells #[.bool false, .bool false] 32 (0, 0))) (.int .i64 z) 3); simpa using this) (by intro u hu; simp at hu; subst hu; rfl) (by decide) (by unfold maxLen; omega) (by omega) (by simp; omega) _ rfl ?_)))
                  intro g1 cap1 w4 hown1 hgrow1 hat1 hlt1
                  have HB2 : Hid (Below w.heap.size w w4) := grown_below ((HB.out.alloc HB.out.size _).alloc (by simp; omega) _).drew hgrow1 (Nat.le_refl _) (by simp; omega) ((HOW.out.alloc _).alloc _)
                  have g2x : w4.cell? ⟨wr.heap.size, 1, none⟩ = some (.bool false) := by
                    rw [World.cell?_of_block (w := ((wr.alloc (.cells #[.bool false, .bool false] 32 (0, 0))).alloc (.cells #[.int .i64 z] 3 (0, 0))).drew) (hgrow1.block _ (by simp; omega) (fun e => absurd (show wr.heap.size < wr.heap.size from (HOW.out.lt _ e.symm).2) (Nat.lt_irrefl _)))]
                    rw [World.cell?_drew, World.cell?_alloc_old _ _ _ (by simp)]
                    exact World.cell?_alloc_new _ _ _ 1
                  have HOW2 := Lib.hid hown1
                  clear hown1 hgrow1 hat1 hlt1 hcz hcz2 hcz3
                  go_wp2_with fail
                  all_goals
                    go_roundw
                    case rel => exact ⟨k + 1, ⟨(got ++ [z]), known + d, max (next + 1) (known + d)⟩, by omega, by go_num, by go_num, by go_num, by rw [HLEN.out]; go_num, by simpa using HOW2.out, HSP.out.symm, HB2.out⟩
                    case measure => simp [intOf]; omega
                · have HSP := Lib.hid (HSP.out.trans (if_neg hq))
                  have hq2 : W < d ∨ (d ≤ W ∧ len < known + d) := by omega
                  clear hq
                  rcases hq2 with hq2 | ⟨hq2, hq3⟩
                  · have hcz := (HB.out.cell (p := ⟨db, doff + next, none⟩) hdb).trans HDC.out
                    have hsz := HB.out.size
                    generalize zs.getD next 0 = z at *
                    have hcz2 : (wr.alloc (.cells #[.bool false, .bool false] 32 (0, 0))).cell? ⟨db, doff + next, none⟩ = some (.int .i64 z) := by rw [World.cell?_alloc_lt _ _ _ (show db < wr.heap.size by omega)]; exact hcz
                    have hcz3 : (wr.drew.alloc (.cells #[.bool false, .bool false] 32 (0, 0))).cell? ⟨db, doff + next, none⟩ = some (.int .i64 z) := hcz2
                    go_wp2_with fail
                    go_region
                    go_wp2_with (first | (at_builtin; go_loud (refine wpList_append_lies _ rfl (.tmp 57) (.tmp 62) 22 rfl w.heap.size 3 i0 (.int .i64 0) 1 8 Try.underlying22 hi hz0 hz1 hz2 rfl (by decide) _ _ _ rfl ((HOW.out.alloc _).alloc _).drew ⟨wr.heap.size + 1, 0, none⟩ 1 1 [.int .i64 z] rfl rfl (by have := (cell_one_new (wr.alloc (.cells #[.bool false, .bool false] 32 (0, 0))) (.int .i64 z) 3); simpa using this) (by intro u hu; simp at hu; subst hu; rfl) (by decide) (by unfold maxLen; omega) (by omega) (by simp; omega) _ rfl ?_)))
                    intro g1 cap1 w4 hown1 hgrow1 hat1 hlt1
                    have HB2 : Hid (Below w.heap.size w w4) := grown_below ((HB.out.alloc HB.out.size _).alloc (by simp; omega) _).drew hgrow1 (Nat.le_refl _) (by simp; omega) ((HOW.out.alloc _).alloc _)
                    have g2x : w4.cell? ⟨wr.heap.size, 1, none⟩ = some (.bool false) := by
                      rw [World.cell?_of_block (w := ((wr.alloc (.cells #[.bool false, .bool false] 32 (0, 0))).alloc (.cells #[.int .i64 z] 3 (0, 0))).drew) (hgrow1.block _ (by simp; omega) (fun e => absurd (show wr.heap.size < wr.heap.size from (HOW.out.lt _ e.symm).2) (Nat.lt_irrefl _)))]
                      rw [World.cell?_drew, World.cell?_alloc_old _ _ _ (by simp)]
                      exact World.cell?_alloc_new _ _ _ 1
                    have HOW2 := Lib.hid hown1
                    clear hown1 hgrow1 hat1 hlt1 hcz hcz2 hcz3
                    go_wp2_with fail
                    all_goals
                      go_roundw
                      case rel => exact ⟨k + 1, ⟨(got ++ [z]), known, next + 1⟩, by omega, by go_num, by go_num, by go_num, by rw [HLEN.out]; go_num, by simpa using HOW2.out, HSP.out.symm, HB2.out⟩
                      case measure => simp [intOf]; omega
                  · have hq4 : decide ((known : Int) + (d : Int) ≤ (len : Int)) = false := by simp; omega
                    clear hq3
                    have hcz := (HB.out.cell (p := ⟨db, doff + next, none⟩) hdb).trans HDC.out
                    have hsz := HB.out.size
                    generalize zs.getD next 0 = z at *
                    have hcz2 : (wr.alloc (.cells #[.bool false, .bool false] 32 (0, 0))).cell? ⟨db, doff + next, none⟩ = some (.int .i64 z) := by rw [World.cell?_alloc_lt _ _ _ (show db < wr.heap.size by omega)]; exact hcz
                    have hcz3 : (wr.drew.alloc (.cells #[.bool false, .bool false] 32 (0, 0))).cell? ⟨db, doff + next, none⟩ = some (.int .i64 z) := hcz2
                    go_wp2_with fail
                    go_region
                    go_wp2_with (first | (at_builtin; go_loud (refine wpList_append_lies _ rfl (.tmp 57) (.tmp 62) 22 rfl w.heap.size 3 i0 (.int .i64 0) 1 8 Try.underlying22 hi hz0 hz1 hz2 rfl (by decide) _ _ _ rfl ((HOW.out.alloc _).alloc _).drew ⟨wr.heap.size + 1, 0, none⟩ 1 1 [.int .i64 z] rfl rfl (by have := (cell_one_new (wr.alloc (.cells #[.bool false, .bool false] 32 (0, 0))) (.int .i64 z) 3); simpa using this) (by intro u hu; simp at hu; subst hu; rfl) (by decide) (by unfold maxLen; omega) (by omega) (by simp; omega) _ rfl ?_)))
                    intro g1 cap1 w4 hown1 hgrow1 hat1 hlt1
                    have HB2 : Hid (Below w.heap.size w w4) := grown_below ((HB.out.alloc HB.out.size _).alloc (by simp; omega) _).drew hgrow1 (Nat.le_refl _) (by simp; omega) ((HOW.out.alloc _).alloc _)
                    have g2x : w4.cell? ⟨wr.heap.size, 1, none⟩ = some (.bool false) := by
                      rw [World.cell?_of_block (w := ((wr.alloc (.cells #[.bool false, .bool false] 32 (0, 0))).alloc (.cells #[.int .i64 z] 3 (0, 0))).drew) (hgrow1.block _ (by simp; omega) (fun e => absurd (show wr.heap.size < wr.heap.size from (HOW.out.lt _ e.symm).2) (Nat.lt_irrefl _)))]
                      rw [World.cell?_drew, World.cell?_alloc_old _ _ _ (by simp)]
                      exact World.cell?_alloc_new _ _ _ 1
                    have HOW2 := Lib.hid hown1
                    clear hown1 hgrow1 hat1 hlt1 hcz hcz2 hcz3
                    go_wp2_with fail
                    all_goals
                      go_roundw
                      case rel => exact ⟨k + 1, ⟨(got ++ [z]), known, next + 1⟩, by omega, by go_num, by go_num, by go_num, by rw [HLEN.out]; go_num, by simpa using HOW2.out, HSP.out.symm, HB2.out⟩
                      case measure => simp [intOf]; omega
              · have hg : gbGot zs R ⟨got, known, next⟩ next = (got ++ [zs.getD next 0]) := by unfold gbGot; rw [if_pos hp]
                rw [hg] at HSP
                clear hg hp
                have hlen1 : (got ++ [zs.getD next 0]).length = got.length + 1 := by simp
                have hsp := HSP.out
                rw [if_neg (by decide : ¬ (false = true)), if_pos rfl] at hsp
                have HSP := Lib.hid hsp
                clear hsp
                have HLEN := Lib.hid hlen1
                clear hlen1
                have hcz := (HB.out.cell (p := ⟨db, doff + next, none⟩) hdb).trans HDC.out
                have hsz := HB.out.size
                generalize zs.getD next 0 = z at *
                have hcz2 : (wr.alloc (.cells #[.bool false, .bool true] 32 (0, 0))).cell? ⟨db, doff + next, none⟩ = some (.int .i64 z) := by rw [World.cell?_alloc_lt _ _ _ (show db < wr.heap.size by omega)]; exact hcz
                have hcz3 : (wr.drew.alloc (.cells #[.bool false, .bool true] 32 (0, 0))).cell? ⟨db, doff + next, none⟩ = some (.int .i64 z) := hcz2
                go_wp2_with fail
                go_region
                go_wp2_with (first | (at_builtin; go_loud (refine wpList_append_lies _ rfl (.tmp 57) (.tmp 62) 22 rfl w.heap.size 3 i0 (.int .i64 0) 1 8 Try.underlying22 hi hz0 hz1 hz2 rfl (by decide) _ _ _ rfl ((HOW.out.alloc _).alloc _).drew ⟨wr.heap.size + 1, 0, none⟩ 1 1 [.int .i64 z] rfl rfl (by have := (cell_one_new (wr.alloc (.cells #[.bool false, .bool true] 32 (0, 0))) (.int .i64 z) 3); simpa using this) (by intro u hu; simp at hu; subst hu; rfl) (by decide) (by unfold maxLen; omega) (by omega) (by simp; omega) _ rfl ?_)))
                intro g1 cap1 w4 hown1 hgrow1 hat1 hlt1
                have HB2 : Hid (Below w.heap.size w w4) := grown_below ((HB.out.alloc HB.out.size _).alloc (by simp; omega) _).drew hgrow1 (Nat.le_refl _) (by simp; omega) ((HOW.out.alloc _).alloc _)
                have g2x : w4.cell? ⟨wr.heap.size, 1, none⟩ = some (.bool true) := by
                  rw [World.cell?_of_block (w := ((wr.alloc (.cells #[.bool false, .bool true] 32 (0, 0))).alloc (.cells #[.int .i64 z] 3 (0, 0))).drew) (hgrow1.block _ (by simp; omega) (fun e => absurd (show wr.heap.size < wr.heap.size from (HOW.out.lt _ e.symm).2) (Nat.lt_irrefl _)))]
                  rw [World.cell?_drew, World.cell?_alloc_old _ _ _ (by simp)]
                  exact World.cell?_alloc_new _ _ _ 1
                have HOW2 := Lib.hid hown1
                clear hown1 hgrow1 hat1 hlt1 hcz hcz2 hcz3
                go_wp2_with fail
                all_goals
                  go_roundw
                  case rel => exact ⟨k + 1, ⟨(got ++ [z]), known, next + 1⟩, by omega, by go_num, by go_num, by go_num, by rw [HLEN.out]; go_num, by simpa using HOW2.out, HSP.out.symm, HB2.out⟩
                  case measure => simp [intOf]; omega
            · have hp2 : ((next : Int) % (R : Int) == (got.length : Int) % (R : Int)) = false := by
                rw [beq_eq_false_iff_ne]; intro e; exact hp (by exact_mod_cast e)
              cases bk
              · have hg : gbGot zs R ⟨got, known, next⟩ next = got := by unfold gbGot; rw [if_neg hp]
                rw [hg] at HSP
                clear hg hp
                have hsp := HSP.out
                rw [if_neg (by decide : ¬ (false = true)), if_neg (by decide : ¬ (false = true))] at hsp
                have HSP := Lib.hid hsp
                clear hsp
                obtain ⟨d, hd⟩ : ∃ d, gbD R got known = d := ⟨_, rfl⟩
                rw [hd] at HSP
                have hd0 : d = (got.length - known) % R := by rw [← hd]; unfold gbD; rfl
                clear hd
                have hd1 : d ≤ got.length - known := by rw [hd0]; exact Nat.mod_le _ _
                have hd2 : d < R := by rw [hd0]; exact Nat.mod_lt _ (by omega)
                obtain ⟨hm1, hm2, hE⟩ := mod_facts got.length known R (by omega) (by omega)
                rw [← hd0] at hE
                clear hd0
                by_cases hq : d ≤ W ∧ known + d ≤ len
                · have HSP := Lib.hid (HSP.out.trans (if_pos hq))
                  obtain ⟨hq1, hq2⟩ := hq
                  have HB2 : Hid (Below w.heap.size w (wr.alloc (.cells #[.bool false, .bool false] 32 (0, 0)))) := Lib.hid (HB.out.alloc HB.out.size (.cells #[.bool false, .bool false] 32 (0, 0)))
                  go_wp2_with fail
                  go_region
                  go_wp2_with fail
                  all_goals
                    go_roundw
                    case rel => exact ⟨k + 1, ⟨got, known + d, max (next + 1) (known + d)⟩, by omega, by go_num, by go_num, by go_num, by go_num, (HOW.out.alloc _).drew, HSP.out.symm, HB2.out.drew⟩
                    case measure => simp [intOf]; omega
                · have HSP := Lib.hid (HSP.out.trans (if_neg hq))
                  have hq2 : W < d ∨ (d ≤ W ∧ len < known + d) := by omega
                  clear hq
                  rcases hq2 with hq2 | ⟨hq2, hq3⟩
                  · have HB2 : Hid (Below w.heap.size w (wr.alloc (.cells #[.bool false, .bool false] 32 (0, 0)))) := Lib.hid (HB.out.alloc HB.out.size (.cells #[.bool false, .bool false] 32 (0, 0)))
                    go_wp2_with fail
                    go_region
                    go_wp2_with fail
                    all_goals
                      go_roundw
                      case rel => exact ⟨k + 1, ⟨got, known, next + 1⟩, by omega, by go_num, by go_num, by go_num, by go_num, (HOW.out.alloc _).drew, HSP.out.symm, HB2.out.drew⟩
                      case measure => simp [intOf]; omega
                  · have hq4 : decide ((known : Int) + (d : Int) ≤ (len : Int)) = false := by simp; omega
                    clear hq3
                    have HB2 : Hid (Below w.heap.size w (wr.alloc (.cells #[.bool false, .bool false] 32 (0, 0)))) := Lib.hid (HB.out.alloc HB.out.size (.cells #[.bool false, .bool false] 32 (0, 0)))
                    go_wp2_with fail
                    go_region
                    go_wp2_with fail
                    all_goals
                      go_roundw
                      case rel => exact ⟨k + 1, ⟨got, known, next + 1⟩, by omega, by go_num, by go_num, by go_num, by go_num, (HOW.out.alloc _).drew, HSP.out.symm, HB2.out.drew⟩
                      case measure => simp [intOf]; omega
              · have hg : gbGot zs R ⟨got, known, next⟩ next = got := by unfold gbGot; rw [if_neg hp]
                rw [hg] at HSP
                clear hg hp
                have hsp := HSP.out
                rw [if_neg (by decide : ¬ (false = true)), if_pos rfl] at hsp
                have HSP := Lib.hid hsp
                clear hsp
                have HB2 : Hid (Below w.heap.size w (wr.alloc (.cells #[.bool false, .bool true] 32 (0, 0)))) := Lib.hid (HB.out.alloc HB.out.size (.cells #[.bool false, .bool true] 32 (0, 0)))
                go_wp2_with fail
                go_region
                go_wp2_with fail
                all_goals
                  go_roundw
                  case rel => exact ⟨k + 1, ⟨got, known, next + 1⟩, by omega, by go_num, by go_num, by go_num, by go_num, (HOW.out.alloc _).drew, HSP.out.symm, HB2.out.drew⟩
                  case measure => simp [intOf]; omega
          · have hsp := HSP.out
            rw [if_pos (by rfl : true = true)] at hsp
            have HSP := Lib.hid hsp
            clear hsp
            go_wp2_with fail
            go_roundw
            case rel => exact ⟨k + 1, ⟨got, known, next + 1⟩, by omega, by go_num, by go_num, by go_num, by go_num, HOW.out.alloc _, HSP.out.symm, HB.out.alloc HB.out.size _⟩
            case measure => simp [intOf]; omega
        · rw [q3] at HSP hnow
          clear q3
          obtain ⟨hn1, hn2, hn3⟩ := hnow
          obtain ⟨db, doff, rfl, hdb, hdc⟩ := HI.out.cell next (by omega)
          have HDC := Lib.hid hdc; clear hdc
          cases t
          · by_cases hp : next % R = got.length % R
            · have hp2 : ((next : Int) % (R : Int) == (got.length : Int) % (R : Int)) = true := by
                rw [beq_iff_eq]; exact_mod_cast hp
              cases bk
              · have hg : gbGot zs R ⟨got, known, next⟩ next = (got ++ [zs.getD next 0]) := by unfold gbGot; rw [if_pos hp]
                rw [hg] at HSP
                clear hg hp
                have hlen1 : (got ++ [zs.getD next 0]).length = got.length + 1 := by simp
                have hsp := HSP.out
                rw [if_neg (by decide : ¬ (false = true)), if_neg (by decide : ¬ (false = true))] at hsp
                have HSP := Lib.hid hsp
                clear hsp
                obtain ⟨d, hd⟩ : ∃ d, gbD R (got ++ [zs.getD next 0]) known = d := ⟨_, rfl⟩
                rw [hd] at HSP
                have hd0 : d = ((got.length + 1) - known) % R := by rw [← hd]; unfold gbD; rw [hlen1]
                clear hd
                have hd1 : d ≤ (got.length + 1) - known := by rw [hd0]; exact Nat.mod_le _ _
                have hd2 : d < R := by rw [hd0]; exact Nat.mod_lt _ (by omega)
                obtain ⟨hm1, hm2, hE⟩ := mod_facts (got.length + 1) known R (by omega) (by omega)
                rw [← hd0] at hE
                clear hd0
                rw [show (((got.length + 1 : Nat) : Int)) = (got.length : Int) + 1 from by omega] at hm1 hm2 hE
                have HLEN := Lib.hid hlen1
                clear hlen1
                by_cases hq : d ≤ W ∧ known + d ≤ len
                · have HSP := Lib.hid (HSP.out.trans (if_pos hq))
                  obtain ⟨hq1, hq2⟩ := hq
                  have hcz := (HB.out.cell (p := ⟨db, doff + next, none⟩) hdb).trans HDC.out
                  have hsz := HB.out.size
                  generalize zs.getD next 0 = z at *
                  have hcz2 : (wr.alloc (.cells #[.bool false, .bool false] 32 (0, 0))).cell? ⟨db, doff + next, none⟩ = some (.int .i64 z) := by rw [World.cell?_alloc_lt _ _ _ (show db < wr.heap.size by omega)]; exact hcz
                  have hcz3 : (wr.drew.alloc (.cells #[.bool false, .bool false] 32 (0, 0))).cell? ⟨db, doff + next, none⟩ = some (.int .i64 z) := hcz2
                  go_wp2_with fail
                  go_region
                  go_wp2_with (first | (at_builtin; go_loud (refine wpList_append_lies _ rfl (.tmp 57) (.tmp 62) 22 rfl w.heap.size 3 i0 (.int .i64 0) 1 8 Try.underlying22 hi hz0 hz1 hz2 rfl (by decide) _ _ _ rfl ((HOW.out.alloc _).alloc _).drew ⟨wr.heap.size + 1, 0, none⟩ 1 1 [.int .i64 z] rfl rfl (by have := (cell_one_new (wr.alloc (.cells #[.bool false, .bool false] 32 (0, 0))) (.int .i64 z) 3); simpa using this) (by intro u hu; simp at hu; subst hu; rfl) (by decide) (by unfold maxLen; omega) (by omega) (by simp; omega) _ rfl ?_)))
                  intro g1 cap1 w4 hown1 hgrow1 hat1 hlt1
                  have HB2 : Hid (Below w.heap.size w w4) := grown_below ((HB.out.alloc HB.out.size _).alloc (by simp; omega) _).drew hgrow1 (Nat.le_refl _) (by simp; omega) ((HOW.out.alloc _).alloc _)
                  have g2x : w4.cell? ⟨wr.heap.size, 1, none⟩ = some (.bool false) := by
                    rw [World.cell?_of_block (w := ((wr.alloc (.cells #[.bool false, .bool false] 32 (0, 0))).alloc (.cells #[.int .i64 z] 3 (0, 0))).drew) (hgrow1.block _ (by simp; omega) (fun e => absurd (show wr.heap.size < wr.heap.size from (HOW.out.lt _ e.symm).2) (Nat.lt_irrefl _)))]
                    rw [World.cell?_drew, World.cell?_alloc_old _ _ _ (by simp)]
                    exact World.cell?_alloc_new _ _ _ 1
                  have HOW2 := Lib.hid hown1
                  clear hown1 hgrow1 hat1 hlt1 hcz hcz2 hcz3
                  go_wp2_with fail
                  all_goals
                    go_roundw
                    case rel => exact ⟨k + 1, ⟨(got ++ [z]), known + d, max (next + 1) (known + d)⟩, by omega, by go_num, by go_num, by go_num, by rw [HLEN.out]; go_num, by simpa using HOW2.out, HSP.out.symm, HB2.out⟩
                    case measure => simp [intOf]; omega
                · have HSP := Lib.hid (HSP.out.trans (if_neg hq))
                  have hq2 : W < d ∨ (d ≤ W ∧ len < known + d) := by omega
                  clear hq
                  rcases hq2 with hq2 | ⟨hq2, hq3⟩
                  · have hcz := (HB.out.cell (p := ⟨db, doff + next, none⟩) hdb).trans HDC.out
                    have hsz := HB.out.size
                    generalize zs.getD next 0 = z at *
                    have hcz2 : (wr.alloc (.cells #[.bool false, .bool false] 32 (0, 0))).cell? ⟨db, doff + next, none⟩ = some (.int .i64 z) := by rw [World.cell?_alloc_lt _ _ _ (show db < wr.heap.size by omega)]; exact hcz
                    have hcz3 : (wr.drew.alloc (.cells #[.bool false, .bool false] 32 (0, 0))).cell? ⟨db, doff + next, none⟩ = some (.int .i64 z) := hcz2
                    go_wp2_with fail
                    go_region
                    go_wp2_with (first | (at_builtin; go_loud (refine wpList_append_lies _ rfl (.tmp 57) (.tmp 62) 22 rfl w.heap.size 3 i0 (.int .i64 0) 1 8 Try.underlying22 hi hz0 hz1 hz2 rfl (by decide) _ _ _ rfl ((HOW.out.alloc _).alloc _).drew ⟨wr.heap.size + 1, 0, none⟩ 1 1 [.int .i64 z] rfl rfl (by have := (cell_one_new (wr.alloc (.cells #[.bool false, .bool false] 32 (0, 0))) (.int .i64 z) 3); simpa using this) (by intro u hu; simp at hu; subst hu; rfl) (by decide) (by unfold maxLen; omega) (by omega) (by simp; omega) _ rfl ?_)))
                    intro g1 cap1 w4 hown1 hgrow1 hat1 hlt1
                    have HB2 : Hid (Below w.heap.size w w4) := grown_below ((HB.out.alloc HB.out.size _).alloc (by simp; omega) _).drew hgrow1 (Nat.le_refl _) (by simp; omega) ((HOW.out.alloc _).alloc _)
                    have g2x : w4.cell? ⟨wr.heap.size, 1, none⟩ = some (.bool false) := by
                      rw [World.cell?_of_block (w := ((wr.alloc (.cells #[.bool false, .bool false] 32 (0, 0))).alloc (.cells #[.int .i64 z] 3 (0, 0))).drew) (hgrow1.block _ (by simp; omega) (fun e => absurd (show wr.heap.size < wr.heap.size from (HOW.out.lt _ e.symm).2) (Nat.lt_irrefl _)))]
                      rw [World.cell?_drew, World.cell?_alloc_old _ _ _ (by simp)]
                      exact World.cell?_alloc_new _ _ _ 1
                    have HOW2 := Lib.hid hown1
                    clear hown1 hgrow1 hat1 hlt1 hcz hcz2 hcz3
                    go_wp2_with fail
                    all_goals
                      go_roundw
                      case rel => exact ⟨k + 1, ⟨(got ++ [z]), known, next + 1⟩, by omega, by go_num, by go_num, by go_num, by rw [HLEN.out]; go_num, by simpa using HOW2.out, HSP.out.symm, HB2.out⟩
                      case measure => simp [intOf]; omega
                  · have hq4 : decide ((known : Int) + (d : Int) ≤ (len : Int)) = false := by simp; omega
                    clear hq3
                    have hcz := (HB.out.cell (p := ⟨db, doff + next, none⟩) hdb).trans HDC.out
                    have hsz := HB.out.size
                    generalize zs.getD next 0 = z at *
                    have hcz2 : (wr.alloc (.cells #[.bool false, .bool false] 32 (0, 0))).cell? ⟨db, doff + next, none⟩ = some (.int .i64 z) := by rw [World.cell?_alloc_lt _ _ _ (show db < wr.heap.size by omega)]; exact hcz
                    have hcz3 : (wr.drew.alloc (.cells #[.bool false, .bool false] 32 (0, 0))).cell? ⟨db, doff + next, none⟩ = some (.int .i64 z) := hcz2
                    go_wp2_with fail
                    go_region
                    go_wp2_with (first | (at_builtin; go_loud (refine wpList_append_lies _ rfl (.tmp 57) (.tmp 62) 22 rfl w.heap.size 3 i0 (.int .i64 0) 1 8 Try.underlying22 hi hz0 hz1 hz2 rfl (by decide) _ _ _ rfl ((HOW.out.alloc _).alloc _).drew ⟨wr.heap.size + 1, 0, none⟩ 1 1 [.int .i64 z] rfl rfl (by have := (cell_one_new (wr.alloc (.cells #[.bool false, .bool false] 32 (0, 0))) (.int .i64 z) 3); simpa using this) (by intro u hu; simp at hu; subst hu; rfl) (by decide) (by unfold maxLen; omega) (by omega) (by simp; omega) _ rfl ?_)))
                    intro g1 cap1 w4 hown1 hgrow1 hat1 hlt1
                    have HB2 : Hid (Below w.heap.size w w4) := grown_below ((HB.out.alloc HB.out.size _).alloc (by simp; omega) _).drew hgrow1 (Nat.le_refl _) (by simp; omega) ((HOW.out.alloc _).alloc _)
                    have g2x : w4.cell? ⟨wr.heap.size, 1, none⟩ = some (.bool false) := by
                      rw [World.cell?_of_block (w := ((wr.alloc (.cells #[.bool false, .bool false] 32 (0, 0))).alloc (.cells #[.int .i64 z] 3 (0, 0))).drew) (hgrow1.block _ (by simp; omega) (fun e => absurd (show wr.heap.size < wr.heap.size from (HOW.out.lt _ e.symm).2) (Nat.lt_irrefl _)))]
                      rw [World.cell?_drew, World.cell?_alloc_old _ _ _ (by simp)]
                      exact World.cell?_alloc_new _ _ _ 1
                    have HOW2 := Lib.hid hown1
                    clear hown1 hgrow1 hat1 hlt1 hcz hcz2 hcz3
                    go_wp2_with fail
                    all_goals
                      go_roundw
                      case rel => exact ⟨k + 1, ⟨(got ++ [z]), known, next + 1⟩, by omega, by go_num, by go_num, by go_num, by rw [HLEN.out]; go_num, by simpa using HOW2.out, HSP.out.symm, HB2.out⟩
                      case measure => simp [intOf]; omega
              · have hg : gbGot zs R ⟨got, known, next⟩ next = (got ++ [zs.getD next 0]) := by unfold gbGot; rw [if_pos hp]
                rw [hg] at HSP
                clear hg hp
                have hlen1 : (got ++ [zs.getD next 0]).length = got.length + 1 := by simp
                have hsp := HSP.out
                rw [if_neg (by decide : ¬ (false = true)), if_pos rfl] at hsp
                have HSP := Lib.hid hsp
                clear hsp
                have HLEN := Lib.hid hlen1
                clear hlen1
                have hcz := (HB.out.cell (p := ⟨db, doff + next, none⟩) hdb).trans HDC.out
                have hsz := HB.out.size
                generalize zs.getD next 0 = z at *
                have hcz2 : (wr.alloc (.cells #[.bool false, .bool true] 32 (0, 0))).cell? ⟨db, doff + next, none⟩ = some (.int .i64 z) := by rw [World.cell?_alloc_lt _ _ _ (show db < wr.heap.size by omega)]; exact hcz
                have hcz3 : (wr.drew.alloc (.cells #[.bool false, .bool true] 32 (0, 0))).cell? ⟨db, doff + next, none⟩ = some (.int .i64 z) := hcz2
                go_wp2_with fail
                go_region
                go_wp2_with (first | (at_builtin; go_loud (refine wpList_append_lies _ rfl (.tmp 57) (.tmp 62) 22 rfl w.heap.size 3 i0 (.int .i64 0) 1 8 Try.underlying22 hi hz0 hz1 hz2 rfl (by decide) _ _ _ rfl ((HOW.out.alloc _).alloc _).drew ⟨wr.heap.size + 1, 0, none⟩ 1 1 [.int .i64 z] rfl rfl (by have := (cell_one_new (wr.alloc (.cells #[.bool false, .bool true] 32 (0, 0))) (.int .i64 z) 3); simpa using this) (by intro u hu; simp at hu; subst hu; rfl) (by decide) (by unfold maxLen; omega) (by omega) (by simp; omega) _ rfl ?_)))
                intro g1 cap1 w4 hown1 hgrow1 hat1 hlt1
                have HB2 : Hid (Below w.heap.size w w4) := grown_below ((HB.out.alloc HB.out.size _).alloc (by simp; omega) _).drew hgrow1 (Nat.le_refl _) (by simp; omega) ((HOW.out.alloc _).alloc _)
                have g2x : w4.cell? ⟨wr.heap.size, 1, none⟩ = some (.bool true) := by
                  rw [World.cell?_of_block (w := ((wr.alloc (.cells #[.bool false, .bool true] 32 (0, 0))).alloc (.cells #[.int .i64 z] 3 (0, 0))).drew) (hgrow1.block _ (by simp; omega) (fun e => absurd (show wr.heap.size < wr.heap.size from (HOW.out.lt _ e.symm).2) (Nat.lt_irrefl _)))]
                  rw [World.cell?_drew, World.cell?_alloc_old _ _ _ (by simp)]
                  exact World.cell?_alloc_new _ _ _ 1
                have HOW2 := Lib.hid hown1
                clear hown1 hgrow1 hat1 hlt1 hcz hcz2 hcz3
                go_wp2_with fail
                all_goals
                  go_roundw
                  case rel => exact ⟨k + 1, ⟨(got ++ [z]), known, next + 1⟩, by omega, by go_num, by go_num, by go_num, by rw [HLEN.out]; go_num, by simpa using HOW2.out, HSP.out.symm, HB2.out⟩
                  case measure => simp [intOf]; omega
            · have hp2 : ((next : Int) % (R : Int) == (got.length : Int) % (R : Int)) = false := by
                rw [beq_eq_false_iff_ne]; intro e; exact hp (by exact_mod_cast e)
              cases bk
              · have hg : gbGot zs R ⟨got, known, next⟩ next = got := by unfold gbGot; rw [if_neg hp]
                rw [hg] at HSP
                clear hg hp
                have hsp := HSP.out
                rw [if_neg (by decide : ¬ (false = true)), if_neg (by decide : ¬ (false = true))] at hsp
                have HSP := Lib.hid hsp
                clear hsp
                obtain ⟨d, hd⟩ : ∃ d, gbD R got known = d := ⟨_, rfl⟩
                rw [hd] at HSP
                have hd0 : d = (got.length - known) % R := by rw [← hd]; unfold gbD; rfl
                clear hd
                have hd1 : d ≤ got.length - known := by rw [hd0]; exact Nat.mod_le _ _
                have hd2 : d < R := by rw [hd0]; exact Nat.mod_lt _ (by omega)
                obtain ⟨hm1, hm2, hE⟩ := mod_facts got.length known R (by omega) (by omega)
                rw [← hd0] at hE
                clear hd0
                by_cases hq : d ≤ W ∧ known + d ≤ len
                · have HSP := Lib.hid (HSP.out.trans (if_pos hq))
                  obtain ⟨hq1, hq2⟩ := hq
                  have HB2 : Hid (Below w.heap.size w (wr.alloc (.cells #[.bool false, .bool false] 32 (0, 0)))) := Lib.hid (HB.out.alloc HB.out.size (.cells #[.bool false, .bool false] 32 (0, 0)))
                  go_wp2_with fail
                  go_region
                  go_wp2_with fail
                  all_goals
                    go_roundw
                    case rel => exact ⟨k + 1, ⟨got, known + d, max (next + 1) (known + d)⟩, by omega, by go_num, by go_num, by go_num, by go_num, (HOW.out.alloc _).drew, HSP.out.symm, HB2.out.drew⟩
                    case measure => simp [intOf]; omega
                · have HSP := Lib.hid (HSP.out.trans (if_neg hq))
                  have hq2 : W < d ∨ (d ≤ W ∧ len < known + d) := by omega
                  clear hq
                  rcases hq2 with hq2 | ⟨hq2, hq3⟩
                  · have HB2 : Hid (Below w.heap.size w (wr.alloc (.cells #[.bool false, .bool false] 32 (0, 0)))) := Lib.hid (HB.out.alloc HB.out.size (.cells #[.bool false, .bool false] 32 (0, 0)))
                    go_wp2_with fail
                    go_region
                    go_wp2_with fail
                    all_goals
                      go_roundw
                      case rel => exact ⟨k + 1, ⟨got, known, next + 1⟩, by omega, by go_num, by go_num, by go_num, by go_num, (HOW.out.alloc _).drew, HSP.out.symm, HB2.out.drew⟩
                      case measure => simp [intOf]; omega
                  · have hq4 : decide ((known : Int) + (d : Int) ≤ (len : Int)) = false := by simp; omega
                    clear hq3
                    have HB2 : Hid (Below w.heap.size w (wr.alloc (.cells #[.bool false, .bool false] 32 (0, 0)))) := Lib.hid (HB.out.alloc HB.out.size (.cells #[.bool false, .bool false] 32 (0, 0)))
                    go_wp2_with fail
                    go_region
                    go_wp2_with fail
                    all_goals
                      go_roundw
                      case rel => exact ⟨k + 1, ⟨got, known, next + 1⟩, by omega, by go_num, by go_num, by go_num, by go_num, (HOW.out.alloc _).drew, HSP.out.symm, HB2.out.drew⟩
                      case measure => simp [intOf]; omega
              · have hg : gbGot zs R ⟨got, known, next⟩ next = got := by unfold gbGot; rw [if_neg hp]
                rw [hg] at HSP
                clear hg hp
                have hsp := HSP.out
                rw [if_neg (by decide : ¬ (false = true)), if_pos rfl] at hsp
                have HSP := Lib.hid hsp
                clear hsp
                have HB2 : Hid (Below w.heap.size w (wr.alloc (.cells #[.bool false, .bool true] 32 (0, 0)))) := Lib.hid (HB.out.alloc HB.out.size (.cells #[.bool false, .bool true] 32 (0, 0)))
                go_wp2_with fail
                go_region
                go_wp2_with fail
                all_goals
                  go_roundw
                  case rel => exact ⟨k + 1, ⟨got, known, next + 1⟩, by omega, by go_num, by go_num, by go_num, by go_num, (HOW.out.alloc _).drew, HSP.out.symm, HB2.out.drew⟩
                  case measure => simp [intOf]; omega
          · have hsp := HSP.out
            rw [if_pos (by rfl : true = true)] at hsp
            have HSP := Lib.hid hsp
            clear hsp
            go_wp2_with fail
            go_roundw
            case rel => exact ⟨k + 1, ⟨got, known, next + 1⟩, by omega, by go_num, by go_num, by go_num, by go_num, HOW.out.alloc _, HSP.out.symm, HB.out.alloc HB.out.size _⟩
            case measure => simp [intOf]; omega
    · have HX : Hid (gbnRun zs W R fs = s) := by
        show gbnRun zs W R fs = _
        rw [HR.out, List.take_of_length_le (by rw [hlf.out]; omega)]
      obtain ⟨ga, gc, hv, hgi⟩ := ints_own HOW.out rfl HFI.out
      subst hv
      have HGI := Lib.hid hgi; clear hgi
      go_wp2_with fail
      go_ret3
      rw [HX.out]
      exact ⟨ga, gc, rfl, HGI.out, HB.out⟩
end Go.Proofs.Ytnkcjkemhdigpaa
