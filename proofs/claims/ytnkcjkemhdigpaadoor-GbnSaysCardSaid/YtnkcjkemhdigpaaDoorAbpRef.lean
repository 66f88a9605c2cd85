/- The reference's Sent and Abp. -/
import Derived.Test.YtnkcjkemhdigpaaDoorAbpF
import Derived.Test.YtnkcjkemhdigpaaDoorRAll
import Derived.Test.YtnkcjkemhdigpaaDoorMIn
namespace Go.Proofs.YtnkcjkemhdigpaaDoor
open Go.RowKit
set_option linter.unusedSimpArgs false
set_option linter.unusedVariables false

theorem msent_any (a : Option Addr) (len cap : Nat) (af : Option Addr) (lf cf : Nat) (zs : List Int) (B : Nat) (w : World) (hI : Ints w B a len zs) :
    Calls Tryd.prog 5 #[.slice a len cap, .slice af lf cf] w fun e w' => e = .returned (.int .i64 (sentE zs lf)) ∧ w = w' := by
  have hlz := hI.size
  have hroom := hI.room
  rcases sent_cases zs lf with ⟨h1, he⟩ | ⟨h1, h2, h3, he⟩ | ⟨h1, h2, h3, he⟩
  all_goals
    rw [he]
    clear he
    rw [hlz] at h1
    clear hroom
  · clear hlz hI
    by_cases h : 20 < len
    · clear h1
      go_enter Tryd.func5, Tryd.ntmps5
      go_wp2
      go_ret
      exact ⟨rfl, rfl⟩
    · have h2 : 200 < lf := by omega
      clear h1
      go_enter Tryd.func5, Tryd.ntmps5
      go_wp2
      go_ret
      exact ⟨rfl, rfl⟩
  · rw [hlz] at h3
    clear hlz
    have HI := Lib.hid hI; clear hI
    have HH := Lib.hid h3; clear h3
    go_enter Tryd.func5, Tryd.ntmps5
    go_wp2_with fail
    refine (rall_no _ _ _ _ _ _ _ _ HI.out HH.out).mono ?_
    rintro e w' ⟨rfl, rfl⟩
    go_wp2
    go_ret
    exact ⟨rfl, rfl⟩
  · rw [hlz] at h3
    clear hlz
    have HI := Lib.hid hI; clear hI
    have HH := Lib.hid h3; clear h3
    go_enter Tryd.func5, Tryd.ntmps5
    go_wp2_with fail
    refine (rall_yes _ _ _ _ _ _ _ _ HI.out HH.out).mono ?_
    rintro e w' ⟨rfl, rfl⟩
    go_wp2
    go_ret
    exact ⟨rfl, rfl⟩

def Got2Post (B : Nat) (got : List Int) (known : Nat) (w : World) (e : Ending) (w' : World) : Prop :=
  ∃ a c, e = .returned (.tuple #[.slice a got.length c, .int .i64 known]) ∧ Ints w' w'.heap.size a got.length got ∧ Below B w w'

set_option maxHeartbeats 8000000 in
set_option maxRecDepth 100000 in
theorem mabp_any (a : Option Addr) (len cap : Nat) (af : Option Addr) (lf cf : Nat) (zs : List Int) (fs : List (Bool × Bool)) (w : World) (hI : Ints w w.heap.size a len zs) (hF : Pairs w w.heap.size af lf fs) (he : sentE zs lf = 0) :
    Calls Tryd.prog 8 #[.slice a len cap, .slice af lf cf] w (Got2Post w.heap.size (abpRun zs fs).1 (abpRun zs fs).2 w) := by
  have hl20 : len ≤ 20 ∧ lf ≤ 200 := by
    have hs := hI.size
    rcases sent_cases zs lf with ⟨h, e⟩ | ⟨h1, h2, h3, e⟩ | ⟨h1, h2, h3, e⟩ <;> omega
  obtain ⟨hl20, hl200⟩ := hl20
  have hlz := Lib.hid hI.size
  have hlf := Lib.hid hF.size
  have HI := Lib.hid hI; clear hI
  have HF := Lib.hid hF; clear hF
  have HE := Lib.hid he; clear he
  obtain ⟨i0, hi, hz0, hz1, hz2⟩ := info_parts info3
  go_enter Tryd.func8, Tryd.ntmps8
  go_wp2_with fail
  go_loopw [6, 7, 8] (fun v6 v7 v8 wr => ∃ (k : Nat) (got : List Int) (known : Nat), k ≤ lf ∧ v8 = .int .i64 k ∧ v7 = .int .i64 known ∧
      wr.ownsRow w.heap.size 3 1 v6 got.length (got.map (Value.int .i64)) ∧ Hid ((got, known) = abpRun zs (fs.take k)) ∧ Below w.heap.size w wr)
    (fun _ _ v8 _ => lf - (intOf v8).toNat)
  case atStart => exact ⟨0, [], 0, by omega, rfl, rfl, World.ownsRow_nil _ _ _ _, rfl, Below.refl _ _⟩
  case round =>
    obtain ⟨k, got, known, hk, rfl, rfl, hown, HR, hB⟩ := hrel
    have HB := Lib.hid hB; clear hB
    have HOW := Lib.hid hown; clear hown
    have hinv : AbpInv zs (got, known) := by rw [HR.out]; exact abp_inv zs _
    have hkn : known ≤ len := by have := abp_known_le hinv; have := hlz.out; omega
    have hgl : got.length ≤ 20 := by have := hinv.2.1; have := hlz.out; simp at *; omega
    have hfit : ∀ j, -9223372036854775808 ≤ got.getD j 0 ∧ got.getD j 0 ≤ 9223372036854775807 := fun j => by
      rw [show got = zs.take got.length from hinv.1]; exact fits_take HI.out.fits _ _
    have HFI := Lib.hid hfit; clear hfit hinv
    obtain ⟨ga, gc, hv, hgi⟩ := ints_own HOW.out rfl HFI.out
    subst hv
    have HGI := Lib.hid hgi; clear hgi
    by_cases hlt : k < lf
    · by_cases hend : known = len
      · have HX : Hid (abpRun zs fs = (got, known)) := by
          show abpRun zs fs = _
          rw [abp_split zs fs k, ← HR.out]
          exact abp_stay _ _ (by show known = zs.length; rw [hlz.out]; exact hend)
        subst hend
        go_wp2_with fail
        go_ret2
        rw [HX.out]
        exact ⟨ga, gc, rfl, HGI.out, HB.out⟩
      · have hkl : known < len := by omega
        clear hend
        obtain ⟨fb, foff, rfl, hfb, hf1, hf2⟩ := HF.out.cell k hlt
        have g1 := (HB.out.cell (p := ⟨fb, foff + k * 2, none⟩) hfb).trans hf1
        have HF2 := Lib.hid hf2
        clear hf1 hf2
        obtain ⟨db, doff, rfl, hdb, hdc⟩ := HI.out.cell known hkl
        have HDC := Lib.hid hdc; clear hdc
        obtain ⟨t, bk, hfv⟩ : ∃ t bk, fs.getD k (false, false) = (t, bk) := ⟨_, _, rfl⟩
        rw [hfv] at g1 HF2
        have HFV := Lib.hid hfv; clear hfv
        cases t
        · by_cases hpar : got.length % 2 = known % 2
          · have hpi : ((known : Int) % 2 == (got.length : Int) % 2) = true := by simp; omega
            have HP := Lib.hid hpar; clear hpar
            cases bk
            · have HR2 : Hid ((got ++ [zs.getD known 0], known + 1) = abpRun zs (fs.take (k + 1))) := by
                show _ = _
                rw [take_succ_getD fs k (by rw [hlf.out]; exact hlt), abp_fold_snoc, ← HR.out, HFV.out]
                unfold abpStep
                rw [if_neg (by show ¬ known = zs.length; rw [hlz.out]; omega), if_neg (by decide)]
                rw [if_pos (show got.length % 2 = known % 2 from HP.out)]
                rfl
              have hcz := (HB.out.cell (p := ⟨db, doff + known, none⟩) hdb).trans HDC.out
              have hsz := HB.out.size
              generalize zs.getD known 0 = z at *
              go_wp2_with (first | (at_builtin; go_loud (refine wpList_append_lies _ rfl _ _ 22 rfl w.heap.size 3 i0 (.int .i64 0) 1 8 Tryd.underlying22 hi hz0 hz1 hz2 rfl (by decide) _ _ _ rfl (HOW.out.alloc _) ⟨wr.heap.size, 0, none⟩ 1 1 [.int .i64 z] rfl rfl (cell_one_new _ _ _) (by intro u hu; simp at hu; subst hu; rfl) (by decide) (by unfold maxLen; omega) (by omega) (by simp; omega) _ rfl ?_)))
              intro g9 c9 w4 hown1 hgrow1 hat1 hlt1
              have HB2 : Hid (Below w.heap.size w w4) := grown_below (HB.out.alloc HB.out.size _) hgrow1 (Nat.le_refl _) (by simp; omega) (HOW.out.alloc _)
              have g2 := (HB2.out.cell (p := ⟨fb, foff + k * 2 + 1, none⟩) hfb).trans HF2.out
              have HOW2 := Lib.hid hown1
              clear hown1 hgrow1 hat1 hlt1 hcz
              go_wp2_with fail
              go_roundw
              case rel => exact ⟨k + 1, got ++ [z], known + 1, by omega, by go_num, by go_num, by simpa using HOW2.out, HR2, HB2.out⟩
              case measure => simp [intOf]; omega
            · have HR2 : Hid ((got ++ [zs.getD known 0], known) = abpRun zs (fs.take (k + 1))) := by
                show _ = _
                rw [take_succ_getD fs k (by rw [hlf.out]; exact hlt), abp_fold_snoc, ← HR.out, HFV.out]
                unfold abpStep
                rw [if_neg (by show ¬ known = zs.length; rw [hlz.out]; omega), if_neg (by decide)]
                rw [if_pos (show got.length % 2 = known % 2 from HP.out)]
                rfl
              have hcz := (HB.out.cell (p := ⟨db, doff + known, none⟩) hdb).trans HDC.out
              have hsz := HB.out.size
              generalize zs.getD known 0 = z at *
              go_wp2_with (first | (at_builtin; go_loud (refine wpList_append_lies _ rfl _ _ 22 rfl w.heap.size 3 i0 (.int .i64 0) 1 8 Tryd.underlying22 hi hz0 hz1 hz2 rfl (by decide) _ _ _ rfl (HOW.out.alloc _) ⟨wr.heap.size, 0, none⟩ 1 1 [.int .i64 z] rfl rfl (cell_one_new _ _ _) (by intro u hu; simp at hu; subst hu; rfl) (by decide) (by unfold maxLen; omega) (by omega) (by simp; omega) _ rfl ?_)))
              intro g9 c9 w4 hown1 hgrow1 hat1 hlt1
              have HB2 : Hid (Below w.heap.size w w4) := grown_below (HB.out.alloc HB.out.size _) hgrow1 (Nat.le_refl _) (by simp; omega) (HOW.out.alloc _)
              have g2 := (HB2.out.cell (p := ⟨fb, foff + k * 2 + 1, none⟩) hfb).trans HF2.out
              have HOW2 := Lib.hid hown1
              clear hown1 hgrow1 hat1 hlt1 hcz
              go_wp2_with fail
              go_roundw
              case rel => exact ⟨k + 1, got ++ [z], known, by omega, by go_num, by go_num, by simpa using HOW2.out, HR2, HB2.out⟩
              case measure => simp [intOf]; omega
          · have hpi : ((known : Int) % 2 == (got.length : Int) % 2) = false := by simp; omega
            have HP := Lib.hid hpar; clear hpar
            cases bk
            · have HR2 : Hid ((got, known + 1) = abpRun zs (fs.take (k + 1))) := by
                show _ = _
                rw [take_succ_getD fs k (by rw [hlf.out]; exact hlt), abp_fold_snoc, ← HR.out, HFV.out]
                unfold abpStep
                rw [if_neg (by show ¬ known = zs.length; rw [hlz.out]; omega), if_neg (by decide)]
                rw [if_neg (show ¬ got.length % 2 = known % 2 from HP.out)]
                rfl
              have g2 := (HB.out.cell (p := ⟨fb, foff + k * 2 + 1, none⟩) hfb).trans HF2.out
              go_wp2_with fail
              go_roundw
              case rel => exact ⟨k + 1, got, known + 1, by omega, by go_num, by go_num, HOW.out, HR2, HB.out⟩
              case measure => simp [intOf]; omega
            · have HR2 : Hid ((got, known) = abpRun zs (fs.take (k + 1))) := by
                show _ = _
                rw [take_succ_getD fs k (by rw [hlf.out]; exact hlt), abp_fold_snoc, ← HR.out, HFV.out]
                unfold abpStep
                rw [if_neg (by show ¬ known = zs.length; rw [hlz.out]; omega), if_neg (by decide)]
                rw [if_neg (show ¬ got.length % 2 = known % 2 from HP.out)]
                rfl
              have g2 := (HB.out.cell (p := ⟨fb, foff + k * 2 + 1, none⟩) hfb).trans HF2.out
              go_wp2_with fail
              go_roundw
              case rel => exact ⟨k + 1, got, known, by omega, by go_num, by go_num, HOW.out, HR2, HB.out⟩
              case measure => simp [intOf]; omega
        · have HR2 : Hid ((got, known) = abpRun zs (fs.take (k + 1))) := by
            show _ = _
            rw [take_succ_getD fs k (by rw [hlf.out]; exact hlt), abp_fold_snoc, ← HR.out, HFV.out]
            unfold abpStep
            rw [if_neg (by show ¬ known = zs.length; rw [hlz.out]; omega), if_pos rfl]
          go_wp2_with fail
          go_roundw
          case rel => exact ⟨k + 1, got, known, by omega, by go_num, rfl, HOW.out, HR2, HB.out⟩
          case measure => simp [intOf]; omega
    · have HX : Hid (abpRun zs fs = (got, known)) := by
        show abpRun zs fs = _
        rw [HR.out, List.take_of_length_le (by rw [hlf.out]; omega)]
      go_wp2_with fail
      go_ret2
      rw [HX.out]
      exact ⟨ga, gc, rfl, HGI.out, HB.out⟩
end Go.Proofs.YtnkcjkemhdigpaaDoor
