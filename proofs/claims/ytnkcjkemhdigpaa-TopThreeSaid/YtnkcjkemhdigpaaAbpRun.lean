/- The contract of abp.Run: what is got, how much is known, as the plain function says. -/
import Derived.Test.YtnkcjkemhdigpaaAbp
namespace Go.Proofs.Ytnkcjkemhdigpaa
open Go.RowKit
set_option linter.unusedSimpArgs false
set_option linter.unusedVariables false

theorem par_succ (n : Nat) : ((n + 1) % 2 == 1) = !(n % 2 == 1) := by
  rcases Nat.mod_two_eq_zero_or_one n with h | h
  · rw [show (n + 1) % 2 = 1 from by omega, h]; rfl
  · rw [show (n + 1) % 2 = 0 from by omega, h]; rfl
theorem par_iff {m n : Nat} {b : Bool} (h1 : (m % 2 == 1) = b) (h2 : (n % 2 == 1) = b) : n % 2 = m % 2 := by
  cases b <;> simp at h1 h2 <;> omega
theorem par_ne {m n : Nat} {b : Bool} (h1 : (m % 2 == 1) = b) (h2 : (n % 2 == 1) = !b) : ¬ n % 2 = m % 2 := by
  cases b <;> simp at h1 h2 <;> omega
theorem take_succ_getD (fs : List (Bool × Bool)) (k : Nat) (h : k < fs.length) : fs.take (k + 1) = fs.take k ++ [fs.getD k (false, false)] := by
  rw [List.take_succ_eq_append_getElem h]
  simp [List.getD_eq_getElem?_getD, h]
theorem abp_stay {zs : List Int} (fs : List (Bool × Bool)) (p : List Int × Nat) (h : p.2 = zs.length) : fs.foldl (abpStep zs) p = p := by
  induction fs with
  | nil => rfl
  | cons f fs ih => rw [List.foldl_cons, show abpStep zs p f = p from by unfold abpStep; rw [if_pos h]]; exact ih
theorem abp_split (zs : List Int) (fs : List (Bool × Bool)) (k : Nat) : abpRun zs fs = (fs.drop k).foldl (abpStep zs) (abpRun zs (fs.take k)) := by
  unfold abpRun; rw [← List.foldl_append, List.take_append_drop]
theorem fits_take {zs : List Int} (h : ∀ k, -9223372036854775808 ≤ zs.getD k 0 ∧ zs.getD k 0 ≤ 9223372036854775807) (n k : Nat) : -9223372036854775808 ≤ (zs.take n).getD k 0 ∧ (zs.take n).getD k 0 ≤ 9223372036854775807 := by
  rcases Nat.lt_or_ge k n with h1 | h1
  · have e : (zs.take n).getD k 0 = zs.getD k 0 := by simp only [List.getD_eq_getElem?_getD, List.getElem?_take, if_pos h1]
    rw [e]; exact h k
  · rw [List.getD_eq_getElem?_getD, List.getElem?_eq_none (by simp; omega)]; simp

set_option maxHeartbeats 8000000 in
set_option maxRecDepth 100000 in
theorem arun_yes (a : Option Addr) (len cap : Nat) (af : Option Addr) (lf cf : Nat) (zs : List Int) (fs : List (Bool × Bool)) (w : World) (hI : Ints w w.heap.size a len zs) (hF : Pairs w w.heap.size af lf fs) (he : sentE zs lf = 0) :
    Calls Try.prog 12 #[.slice a len cap, .slice af lf cf] w (GotPost w.heap.size (abpRun zs fs).1 (abpRun zs fs).2 w) := by
  have hl20 : len ≤ 20 ∧ lf ≤ 200 := by
    have hs := hI.size
    rcases sent_cases zs lf with ⟨h, e⟩ | ⟨h1, h2, h3, e⟩ | ⟨h1, h2, h3, e⟩ <;> omega
  obtain ⟨hl20, hl200⟩ := hl20
  have C := Lib.hid (fun w' h => acheck_any a len cap af lf cf zs w.heap.size w' h)
  rw [he] at C
  have hlz := Lib.hid hI.size
  have hlf := Lib.hid hF.size
  have HI := Lib.hid hI; clear hI
  have HF := Lib.hid hF; clear hF
  have HE := Lib.hid he; clear he
  obtain ⟨i0, hi, hz0, hz1, hz2⟩ := info_parts info3
  go_enter Try.func12, Try.ntmps12
  go_wp2_with fail
  refine (C.out _ HI.out).mono ?_
  clear C
  rintro e w' ⟨he, rfl⟩
  have he2 : e = .returned .nilIface := he
  subst he2
  clear he
  go_wp2_with fail
  go_loopw [4, 5, 8, 9, 20] (fun v4 v5 v8 v9 v20 wr => ∃ (k : Nat) (got : List Int) (known : Nat), k ≤ lf ∧ v20 = .int .i64 k ∧ v5 = .int .i64 known ∧ v8 = .bool (known % 2 == 1) ∧ v9 = .bool (got.length % 2 == 1) ∧
      wr.ownsRow w.heap.size 3 1 v4 got.length (got.map (Value.int .i64)) ∧ Hid ((got, known) = abpRun zs (fs.take k)) ∧ Below w.heap.size w wr)
    (fun _ _ _ _ v20 _ => lf - (intOf v20).toNat)
  case atStart => exact ⟨0, [], 0, by omega, rfl, rfl, rfl, rfl, World.ownsRow_nil _ _ _ _, rfl, Below.refl _ _⟩
  case round =>
    obtain ⟨k, got, known, hk, rfl, rfl, rfl, rfl, hown, HR, hB⟩ := hrel
    have HB := Lib.hid hB; clear hB
    have HOW := Lib.hid hown; clear hown
    have hinv : AbpInv zs (got, known) := by rw [HR.out]; exact abp_inv zs _
    have hkn : known ≤ len := by have := abp_known_le hinv; have := hlz.out; omega
    have hgl : got.length ≤ 20 := by have := hinv.2.1; have := hlz.out; simp at *; omega
    have hfit : ∀ j, -9223372036854775808 ≤ got.getD j 0 ∧ got.getD j 0 ≤ 9223372036854775807 := fun j => by
      rw [show got = zs.take got.length from hinv.1]; exact fits_take HI.out.fits _ _
    have HFI := Lib.hid hfit; clear hfit hinv
    by_cases hlt : k < lf
    · obtain ⟨fb, foff, rfl, hfb, hf1, hf2⟩ := HF.out.cell k hlt
      have g1 := (HB.out.cell (p := ⟨fb, foff + k * 2, none⟩) hfb).trans hf1
      have g2 := (HB.out.cell (p := ⟨fb, foff + k * 2 + 1, none⟩) hfb).trans hf2
      clear hf1 hf2
      by_cases hend : known = len
      · have HX : Hid (abpRun zs fs = (got, known)) := by
          show abpRun zs fs = _
          rw [abp_split zs fs k, ← HR.out]
          exact abp_stay _ _ (by show known = zs.length; rw [hlz.out]; exact hend)
        subst hend
        obtain ⟨ga, gc, hv, hgi⟩ := ints_own HOW.out rfl HFI.out
        subst hv
        have HGI := Lib.hid hgi; clear hgi
        go_wp2_with fail
        go_ret3
        rw [HX.out]
        exact ⟨ga, gc, rfl, HGI.out.alloc _, HB.out.alloc HB.out.size _⟩
      · have hkl : known < len := by omega
        clear hend
        obtain ⟨db, doff, rfl, hdb, hdc⟩ := HI.out.cell known hkl
        have HDC := Lib.hid hdc; clear hdc
        have hne : ((known : Int) == (len : Int)) = false := by simp; omega
        obtain ⟨t, bk, hfv⟩ : ∃ t bk, fs.getD k (false, false) = (t, bk) := ⟨_, _, rfl⟩
        rw [hfv] at g1 g2
        have HFV := Lib.hid hfv; clear hfv
        cases t
        · have hb : ∃ bit, (known % 2 == 1) = bit := ⟨_, rfl⟩
          have hw : ∃ want, (got.length % 2 == 1) = want := ⟨_, rfl⟩
          obtain ⟨bit, hb⟩ := hb
          obtain ⟨want, hw⟩ := hw
          rw [hb, hw]
          have Hb := Lib.hid hb
          have Hw := Lib.hid hw
          clear hb hw
          cases bit <;> cases want <;> cases bk
          · have HR2 : Hid ((got ++ [zs.getD known 0], known + 1) = abpRun zs (fs.take (k + 1))) := by
              show _ = _
              rw [take_succ_getD fs k (by rw [hlf.out]; exact hlt), abp_fold_snoc, ← HR.out, HFV.out]
              unfold abpStep
              rw [if_neg (by show ¬ known = zs.length; rw [hlz.out]; omega), if_neg (by decide)]
              rw [if_pos (show got.length % 2 = known % 2 from par_iff Hb.out Hw.out)]
              rfl
            have HBT : Hid (Value.bool true = Value.bool ((known + 1) % 2 == 1)) := by
              show _ = _
              rw [par_succ, Hb.out]; rfl
            have HWT : Hid (Value.bool true = Value.bool ((got ++ [zs.getD known 0]).length % 2 == 1)) := by
              show _ = _
              rw [show (got ++ [zs.getD known 0]).length = got.length + 1 from by simp, par_succ, Hw.out]; rfl
            have hcz := (HB.out.cell (p := ⟨db, doff + known, none⟩) hdb).trans HDC.out
            have hsz := HB.out.size
            generalize zs.getD known 0 = z at *
            have hcz2 : (wr.alloc (.cells #[.bool false, .bool false] 32 (0, 0))).cell? ⟨db, doff + known, none⟩ = some (.int .i64 z) := by rw [World.cell?_alloc_lt _ _ _ (show db < wr.heap.size by omega)]; exact hcz
            go_wp2_with (first | (at_builtin; refine wpList_append_lies _ rfl (.tmp 33) (.tmp 38) 22 rfl w.heap.size 3 i0 (.int .i64 0) 1 8 Try.underlying22 hi hz0 hz1 hz2 rfl (by decide) _ _ _ rfl ((HOW.out.alloc _).alloc _) ⟨wr.heap.size + 1, 0, none⟩ 1 1 [.int .i64 z] rfl rfl (by have := (cell_one_new (wr.alloc (.cells #[.bool false, .bool false] 32 (0, 0))) (.int .i64 z) 3); simpa using this) (by intro u hu; simp at hu; subst hu; rfl) (by decide) (by unfold maxLen; omega) (by omega) (by simp; omega) _ rfl ?_))
            intro g1 cap1 w4 hown1 hgrow1 hat1 hlt1
            have HB2 : Hid (Below w.heap.size w w4) := grown_below ((HB.out.alloc HB.out.size _).alloc (by simp; omega) _) hgrow1 (Nat.le_refl _) (by simp; omega) ((HOW.out.alloc _).alloc _)
            have g2' : w4.cell? ⟨wr.heap.size, 1, none⟩ = some (.bool false) := by
              rw [World.cell?_of_block (w := (wr.alloc (.cells #[.bool false, .bool false] 32 (0, 0))).alloc (.cells #[.int .i64 z] 3 (0, 0))) (hgrow1.block _ (by simp; omega) (fun e => absurd (show wr.heap.size < wr.heap.size from (HOW.out.lt _ e.symm).2) (Nat.lt_irrefl _)))]
              rw [World.cell?_alloc_old _ _ _ (by simp)]
              exact World.cell?_alloc_new _ _ _ 1
            have HOW2 := Lib.hid hown1
            clear hown1 hgrow1 hat1 hlt1 hcz hcz2
            go_wp2_with fail
            go_roundw
            case rel => exact ⟨k + 1, got ++ [z], known + 1, by omega, by go_num, by go_num, HBT.out, HWT.out, by simpa using HOW2.out, HR2, HB2.out⟩
            case measure => simp [intOf]; omega
          · have HR2 : Hid ((got ++ [zs.getD known 0], known) = abpRun zs (fs.take (k + 1))) := by
              show _ = _
              rw [take_succ_getD fs k (by rw [hlf.out]; exact hlt), abp_fold_snoc, ← HR.out, HFV.out]
              unfold abpStep
              rw [if_neg (by show ¬ known = zs.length; rw [hlz.out]; omega), if_neg (by decide)]
              rw [if_pos (show got.length % 2 = known % 2 from par_iff Hb.out Hw.out)]
              rfl
            have HBT : Hid (Value.bool false = Value.bool ((known) % 2 == 1)) := by
              show _ = _
              rw [Hb.out]
            have HWT : Hid (Value.bool true = Value.bool ((got ++ [zs.getD known 0]).length % 2 == 1)) := by
              show _ = _
              rw [show (got ++ [zs.getD known 0]).length = got.length + 1 from by simp, par_succ, Hw.out]; rfl
            have hcz := (HB.out.cell (p := ⟨db, doff + known, none⟩) hdb).trans HDC.out
            have hsz := HB.out.size
            generalize zs.getD known 0 = z at *
            have hcz2 : (wr.alloc (.cells #[.bool false, .bool true] 32 (0, 0))).cell? ⟨db, doff + known, none⟩ = some (.int .i64 z) := by rw [World.cell?_alloc_lt _ _ _ (show db < wr.heap.size by omega)]; exact hcz
            go_wp2_with (first | (at_builtin; refine wpList_append_lies _ rfl (.tmp 33) (.tmp 38) 22 rfl w.heap.size 3 i0 (.int .i64 0) 1 8 Try.underlying22 hi hz0 hz1 hz2 rfl (by decide) _ _ _ rfl ((HOW.out.alloc _).alloc _) ⟨wr.heap.size + 1, 0, none⟩ 1 1 [.int .i64 z] rfl rfl (by have := (cell_one_new (wr.alloc (.cells #[.bool false, .bool true] 32 (0, 0))) (.int .i64 z) 3); simpa using this) (by intro u hu; simp at hu; subst hu; rfl) (by decide) (by unfold maxLen; omega) (by omega) (by simp; omega) _ rfl ?_))
            intro g1 cap1 w4 hown1 hgrow1 hat1 hlt1
            have HB2 : Hid (Below w.heap.size w w4) := grown_below ((HB.out.alloc HB.out.size _).alloc (by simp; omega) _) hgrow1 (Nat.le_refl _) (by simp; omega) ((HOW.out.alloc _).alloc _)
            have g2' : w4.cell? ⟨wr.heap.size, 1, none⟩ = some (.bool true) := by
              rw [World.cell?_of_block (w := (wr.alloc (.cells #[.bool false, .bool true] 32 (0, 0))).alloc (.cells #[.int .i64 z] 3 (0, 0))) (hgrow1.block _ (by simp; omega) (fun e => absurd (show wr.heap.size < wr.heap.size from (HOW.out.lt _ e.symm).2) (Nat.lt_irrefl _)))]
              rw [World.cell?_alloc_old _ _ _ (by simp)]
              exact World.cell?_alloc_new _ _ _ 1
            have HOW2 := Lib.hid hown1
            clear hown1 hgrow1 hat1 hlt1 hcz hcz2
            go_wp2_with fail
            go_roundw
            case rel => exact ⟨k + 1, got ++ [z], known, by omega, by go_num, by go_num, HBT.out, HWT.out, by simpa using HOW2.out, HR2, HB2.out⟩
            case measure => simp [intOf]; omega
          · have HR2 : Hid ((got, known + 1) = abpRun zs (fs.take (k + 1))) := by
              show _ = _
              rw [take_succ_getD fs k (by rw [hlf.out]; exact hlt), abp_fold_snoc, ← HR.out, HFV.out]
              unfold abpStep
              rw [if_neg (by show ¬ known = zs.length; rw [hlz.out]; omega), if_neg (by decide)]
              rw [if_neg (show ¬ got.length % 2 = known % 2 from par_ne Hb.out Hw.out)]
              rfl
            have HBT : Hid (Value.bool true = Value.bool ((known + 1) % 2 == 1)) := by
              show _ = _
              rw [par_succ, Hb.out]; rfl
            have HWT : Hid (Value.bool true = Value.bool ((got).length % 2 == 1)) := by
              show _ = _
              rw [Hw.out]
            have HB2 : Hid (Below w.heap.size w (wr.alloc (.cells #[.bool false, .bool false] 32 (0, 0)))) := HB.out.alloc HB.out.size _
            go_wp2_with fail
            go_roundw
            case rel => exact ⟨k + 1, got, known + 1, by omega, by go_num, by go_num, HBT.out, HWT.out, HOW.out.alloc _, HR2, HB2.out⟩
            case measure => simp [intOf]; omega
          · have HR2 : Hid ((got, known) = abpRun zs (fs.take (k + 1))) := by
              show _ = _
              rw [take_succ_getD fs k (by rw [hlf.out]; exact hlt), abp_fold_snoc, ← HR.out, HFV.out]
              unfold abpStep
              rw [if_neg (by show ¬ known = zs.length; rw [hlz.out]; omega), if_neg (by decide)]
              rw [if_neg (show ¬ got.length % 2 = known % 2 from par_ne Hb.out Hw.out)]
              rfl
            have HBT : Hid (Value.bool false = Value.bool ((known) % 2 == 1)) := by
              show _ = _
              rw [Hb.out]
            have HWT : Hid (Value.bool true = Value.bool ((got).length % 2 == 1)) := by
              show _ = _
              rw [Hw.out]
            have HB2 : Hid (Below w.heap.size w (wr.alloc (.cells #[.bool false, .bool true] 32 (0, 0)))) := HB.out.alloc HB.out.size _
            go_wp2_with fail
            go_roundw
            case rel => exact ⟨k + 1, got, known, by omega, by go_num, by go_num, HBT.out, HWT.out, HOW.out.alloc _, HR2, HB2.out⟩
            case measure => simp [intOf]; omega
          · have HR2 : Hid ((got, known + 1) = abpRun zs (fs.take (k + 1))) := by
              show _ = _
              rw [take_succ_getD fs k (by rw [hlf.out]; exact hlt), abp_fold_snoc, ← HR.out, HFV.out]
              unfold abpStep
              rw [if_neg (by show ¬ known = zs.length; rw [hlz.out]; omega), if_neg (by decide)]
              rw [if_neg (show ¬ got.length % 2 = known % 2 from par_ne Hb.out Hw.out)]
              rfl
            have HBT : Hid (Value.bool false = Value.bool ((known + 1) % 2 == 1)) := by
              show _ = _
              rw [par_succ, Hb.out]; rfl
            have HWT : Hid (Value.bool false = Value.bool ((got).length % 2 == 1)) := by
              show _ = _
              rw [Hw.out]
            have HB2 : Hid (Below w.heap.size w (wr.alloc (.cells #[.bool false, .bool false] 32 (0, 0)))) := HB.out.alloc HB.out.size _
            go_wp2_with fail
            go_roundw
            case rel => exact ⟨k + 1, got, known + 1, by omega, by go_num, by go_num, HBT.out, HWT.out, HOW.out.alloc _, HR2, HB2.out⟩
            case measure => simp [intOf]; omega
          · have HR2 : Hid ((got, known) = abpRun zs (fs.take (k + 1))) := by
              show _ = _
              rw [take_succ_getD fs k (by rw [hlf.out]; exact hlt), abp_fold_snoc, ← HR.out, HFV.out]
              unfold abpStep
              rw [if_neg (by show ¬ known = zs.length; rw [hlz.out]; omega), if_neg (by decide)]
              rw [if_neg (show ¬ got.length % 2 = known % 2 from par_ne Hb.out Hw.out)]
              rfl
            have HBT : Hid (Value.bool true = Value.bool ((known) % 2 == 1)) := by
              show _ = _
              rw [Hb.out]
            have HWT : Hid (Value.bool false = Value.bool ((got).length % 2 == 1)) := by
              show _ = _
              rw [Hw.out]
            have HB2 : Hid (Below w.heap.size w (wr.alloc (.cells #[.bool false, .bool true] 32 (0, 0)))) := HB.out.alloc HB.out.size _
            go_wp2_with fail
            go_roundw
            case rel => exact ⟨k + 1, got, known, by omega, by go_num, by go_num, HBT.out, HWT.out, HOW.out.alloc _, HR2, HB2.out⟩
            case measure => simp [intOf]; omega
          · have HR2 : Hid ((got ++ [zs.getD known 0], known + 1) = abpRun zs (fs.take (k + 1))) := by
              show _ = _
              rw [take_succ_getD fs k (by rw [hlf.out]; exact hlt), abp_fold_snoc, ← HR.out, HFV.out]
              unfold abpStep
              rw [if_neg (by show ¬ known = zs.length; rw [hlz.out]; omega), if_neg (by decide)]
              rw [if_pos (show got.length % 2 = known % 2 from par_iff Hb.out Hw.out)]
              rfl
            have HBT : Hid (Value.bool false = Value.bool ((known + 1) % 2 == 1)) := by
              show _ = _
              rw [par_succ, Hb.out]; rfl
            have HWT : Hid (Value.bool false = Value.bool ((got ++ [zs.getD known 0]).length % 2 == 1)) := by
              show _ = _
              rw [show (got ++ [zs.getD known 0]).length = got.length + 1 from by simp, par_succ, Hw.out]; rfl
            have hcz := (HB.out.cell (p := ⟨db, doff + known, none⟩) hdb).trans HDC.out
            have hsz := HB.out.size
            generalize zs.getD known 0 = z at *
            have hcz2 : (wr.alloc (.cells #[.bool false, .bool false] 32 (0, 0))).cell? ⟨db, doff + known, none⟩ = some (.int .i64 z) := by rw [World.cell?_alloc_lt _ _ _ (show db < wr.heap.size by omega)]; exact hcz
            go_wp2_with (first | (at_builtin; refine wpList_append_lies _ rfl (.tmp 33) (.tmp 38) 22 rfl w.heap.size 3 i0 (.int .i64 0) 1 8 Try.underlying22 hi hz0 hz1 hz2 rfl (by decide) _ _ _ rfl ((HOW.out.alloc _).alloc _) ⟨wr.heap.size + 1, 0, none⟩ 1 1 [.int .i64 z] rfl rfl (by have := (cell_one_new (wr.alloc (.cells #[.bool false, .bool false] 32 (0, 0))) (.int .i64 z) 3); simpa using this) (by intro u hu; simp at hu; subst hu; rfl) (by decide) (by unfold maxLen; omega) (by omega) (by simp; omega) _ rfl ?_))
            intro g1 cap1 w4 hown1 hgrow1 hat1 hlt1
            have HB2 : Hid (Below w.heap.size w w4) := grown_below ((HB.out.alloc HB.out.size _).alloc (by simp; omega) _) hgrow1 (Nat.le_refl _) (by simp; omega) ((HOW.out.alloc _).alloc _)
            have g2' : w4.cell? ⟨wr.heap.size, 1, none⟩ = some (.bool false) := by
              rw [World.cell?_of_block (w := (wr.alloc (.cells #[.bool false, .bool false] 32 (0, 0))).alloc (.cells #[.int .i64 z] 3 (0, 0))) (hgrow1.block _ (by simp; omega) (fun e => absurd (show wr.heap.size < wr.heap.size from (HOW.out.lt _ e.symm).2) (Nat.lt_irrefl _)))]
              rw [World.cell?_alloc_old _ _ _ (by simp)]
              exact World.cell?_alloc_new _ _ _ 1
            have HOW2 := Lib.hid hown1
            clear hown1 hgrow1 hat1 hlt1 hcz hcz2
            go_wp2_with fail
            go_roundw
            case rel => exact ⟨k + 1, got ++ [z], known + 1, by omega, by go_num, by go_num, HBT.out, HWT.out, by simpa using HOW2.out, HR2, HB2.out⟩
            case measure => simp [intOf]; omega
          · have HR2 : Hid ((got ++ [zs.getD known 0], known) = abpRun zs (fs.take (k + 1))) := by
              show _ = _
              rw [take_succ_getD fs k (by rw [hlf.out]; exact hlt), abp_fold_snoc, ← HR.out, HFV.out]
              unfold abpStep
              rw [if_neg (by show ¬ known = zs.length; rw [hlz.out]; omega), if_neg (by decide)]
              rw [if_pos (show got.length % 2 = known % 2 from par_iff Hb.out Hw.out)]
              rfl
            have HBT : Hid (Value.bool true = Value.bool ((known) % 2 == 1)) := by
              show _ = _
              rw [Hb.out]
            have HWT : Hid (Value.bool false = Value.bool ((got ++ [zs.getD known 0]).length % 2 == 1)) := by
              show _ = _
              rw [show (got ++ [zs.getD known 0]).length = got.length + 1 from by simp, par_succ, Hw.out]; rfl
            have hcz := (HB.out.cell (p := ⟨db, doff + known, none⟩) hdb).trans HDC.out
            have hsz := HB.out.size
            generalize zs.getD known 0 = z at *
            have hcz2 : (wr.alloc (.cells #[.bool false, .bool true] 32 (0, 0))).cell? ⟨db, doff + known, none⟩ = some (.int .i64 z) := by rw [World.cell?_alloc_lt _ _ _ (show db < wr.heap.size by omega)]; exact hcz
            go_wp2_with (first | (at_builtin; refine wpList_append_lies _ rfl (.tmp 33) (.tmp 38) 22 rfl w.heap.size 3 i0 (.int .i64 0) 1 8 Try.underlying22 hi hz0 hz1 hz2 rfl (by decide) _ _ _ rfl ((HOW.out.alloc _).alloc _) ⟨wr.heap.size + 1, 0, none⟩ 1 1 [.int .i64 z] rfl rfl (by have := (cell_one_new (wr.alloc (.cells #[.bool false, .bool true] 32 (0, 0))) (.int .i64 z) 3); simpa using this) (by intro u hu; simp at hu; subst hu; rfl) (by decide) (by unfold maxLen; omega) (by omega) (by simp; omega) _ rfl ?_))
            intro g1 cap1 w4 hown1 hgrow1 hat1 hlt1
            have HB2 : Hid (Below w.heap.size w w4) := grown_below ((HB.out.alloc HB.out.size _).alloc (by simp; omega) _) hgrow1 (Nat.le_refl _) (by simp; omega) ((HOW.out.alloc _).alloc _)
            have g2' : w4.cell? ⟨wr.heap.size, 1, none⟩ = some (.bool true) := by
              rw [World.cell?_of_block (w := (wr.alloc (.cells #[.bool false, .bool true] 32 (0, 0))).alloc (.cells #[.int .i64 z] 3 (0, 0))) (hgrow1.block _ (by simp; omega) (fun e => absurd (show wr.heap.size < wr.heap.size from (HOW.out.lt _ e.symm).2) (Nat.lt_irrefl _)))]
              rw [World.cell?_alloc_old _ _ _ (by simp)]
              exact World.cell?_alloc_new _ _ _ 1
            have HOW2 := Lib.hid hown1
            clear hown1 hgrow1 hat1 hlt1 hcz hcz2
            go_wp2_with fail
            go_roundw
            case rel => exact ⟨k + 1, got ++ [z], known, by omega, by go_num, by go_num, HBT.out, HWT.out, by simpa using HOW2.out, HR2, HB2.out⟩
            case measure => simp [intOf]; omega
        · have HR2 : Hid ((got, known) = abpRun zs (fs.take (k + 1))) := by
            show _ = _
            rw [take_succ_getD fs k (by rw [hlf.out]; exact hlt), abp_fold_snoc, ← HR.out, HFV.out]
            unfold abpStep
            rw [if_neg (by show ¬ known = zs.length; rw [hlz.out]; omega), if_pos rfl]
          go_wp2_with fail
          go_roundw
          case rel => exact ⟨k + 1, got, known, by omega, by go_num, rfl, rfl, rfl, HOW.out.alloc _, HR2, HB.out.alloc HB.out.size _⟩
          case measure => simp [intOf]; omega
    · have HX : Hid (abpRun zs fs = (got, known)) := by
        show abpRun zs fs = _
        rw [HR.out, List.take_of_length_le (by rw [hlf.out]; omega)]
      obtain ⟨ga, gc, hv, hgi⟩ := ints_own HOW.out rfl HFI.out
      subst hv
      have HGI := Lib.hid hgi; clear hgi
      go_wp2_with fail
      go_ret3
      rw [HX.out]
      exact ⟨ga, gc, rfl, HGI.out, HB.out⟩
end Go.Proofs.Ytnkcjkemhdigpaa
