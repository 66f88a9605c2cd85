/- The contracts of package curve: Fits, Fold, and where the curves are wrong. -/
import Derived.Test.YtikdpjedlbkkjaaDoorCurveF
namespace Go.Proofs.YtikdpjedlbkkjaaDoor
open Go.RowKit
set_option linter.unusedSimpArgs false
set_option linter.unusedVariables false

theorem fits_yes (a b : Option Addr) (len ca cb : Nat) (fs gs : List Int) (B1 B2 : Nat) (w : World) (hF : Ints w B1 a len fs) (hG : Ints w B2 b len gs) (h0 : bothE fs gs = 0) (hfit : Cv.Fits (gD fs) (gD gs) len) :
    Calls Tryd.prog 16 #[.slice a len ca, .slice b len cb] w fun e w' => e = .returned (.tuple #[.bool true, .nilIface]) ∧ Drawn w w' := by
  have C := Lib.hid (cvboth_any a b len ca len cb fs gs B1 B2 w hF hG)
  rw [h0] at C
  obtain ⟨hf, hg, _⟩ := both_zero h0
  have hfl := hF.size
  have hroom := hf.few
  rw [hfl] at hroom
  have bf : Hid (∀ k, k < len → 0 ≤ fs.getD k 0 ∧ fs.getD k 0 ≤ 1000) := by show ∀ k, _; rw [← hfl]; exact hf.fits
  have bg : Hid (∀ k, k < len → 0 ≤ gs.getD k 0 ∧ gs.getD k 0 ≤ 1000) := by show ∀ k, _; rw [← hG.size]; exact hg.fits
  have HF := Lib.hid hF; clear hF
  have HG := Lib.hid hG; clear hG
  have HFIT : Hid (∀ t, t < len → ∀ s, s ≤ t → fs.getD t 0 - fs.getD s 0 ≤ gs.getD (t - s) 0) := hfit
  clear h0 hf hg hfl hfit
  go_enter Tryd.func16, Tryd.ntmps16
  go_wp2_with fail
  refine C.out.mono ?_
  rintro e w1 ⟨he, hd⟩
  have he2 : e = .returned .nilIface := he
  subst he2
  have HD1 : Hid (Drawn w w1) := hd
  clear hd he C
  go_wp2_with fail
  go_loopw [17] (fun v17 wr => ∃ t : Nat, t ≤ len ∧ v17 = .int .i64 t ∧ Drawn w wr) (fun v17 _ => len - (intOf v17).toNat)
  case atStart => exact ⟨0, by omega, rfl, HD1.out⟩
  case round =>
    obtain ⟨t, ht, rfl, hdw⟩ := hrel
    have HW := Lib.hid hdw; clear hdw HD1
    by_cases hlt : t < len
    · go_wp2_with fail
      go_loopw [22] (fun v22 wr => ∃ s : Nat, s ≤ t + 1 ∧ v22 = .int .i64 s ∧ Drawn w wr) (fun v22 _ => t + 1 - (intOf v22).toNat)
      case atStart => exact ⟨0, by omega, rfl, HW.out⟩
      case round =>
        clear HW
        obtain ⟨s, hs, rfl, hdw⟩ := hrel
        have HW := Lib.hid hdw; clear hdw
        by_cases hst : s < t + 1
        · obtain ⟨fb, fo, rfl, _, hc⟩ := HF.out.cell t hlt
          obtain ⟨fb', fo', he, _, hc1⟩ := HF.out.cell s (by omega)
          simp only [Option.some.injEq, Addr.mk.injEq, and_true] at he
          obtain ⟨rfl, rfl⟩ := he
          obtain ⟨gb, go_, rfl, _, hc2⟩ := HG.out.cell (t - s) (by omega)
          have hc := HW.out.cell hc
          have hc1 := HW.out.cell hc1
          have hc2 := HW.out.cell hc2
          have b1 := bf.out t hlt
          have b2 := bf.out s (by omega)
          have b3 := bg.out (t - s) (by omega)
          have hfi := HFIT.out t hlt s (by omega)
          generalize fs.getD t 0 = u at *
          generalize fs.getD s 0 = u2 at *
          generalize gs.getD (t - s) 0 = v at *
          have q1 : (0 : Int) ≤ (t : Int) := by omega
          have q2 : (t : Int) < (len : Int) := by omega
          have q3 : (0 : Int) ≤ (s : Int) := by omega
          have q4 : (s : Int) < (len : Int) := by omega
          have q6 : (0 : Int) ≤ (t : Int) - (s : Int) := by omega
          have q7 : (t : Int) - (s : Int) < (len : Int) := by omega
          have q8 : ((t : Int) - (s : Int)).toNat = t - s := by omega
          have q5 : IntKind.i64.wrap (u - u2) = u - u2 := IntWalk.i64_in _ (by omega)
          have q9 : IntKind.i64.wrap ((t : Int) - (s : Int)) = (t : Int) - (s : Int) := IntWalk.i64_in _ (by omega)
          go_wp2_with fail
          go_quiet (fail)
          clear q5 q9
          go_wp2_with fail
          go_roundw
          case rel => exact ⟨s + 1, by omega, by go_num, HW.out.more _⟩
          case measure => simp [intOf] <;> omega
        · go_wp2_with fail
          go_roundw
          case rel => exact ⟨t + 1, by omega, by go_num, HW.out⟩
          case measure => simp [intOf] <;> omega
    · go_wp2
      go_ret2
      exact ⟨rfl, HW.out⟩
theorem fits_no (a b : Option Addr) (len ca cb : Nat) (fs gs : List Int) (B1 B2 : Nat) (w : World) (hF : Ints w B1 a len fs) (hG : Ints w B2 b len gs) (h0 : bothE fs gs = 0) (hfit : ¬ Cv.Fits (gD fs) (gD gs) len) :
    Calls Tryd.prog 16 #[.slice a len ca, .slice b len cb] w fun e w' => e = .returned (.tuple #[.bool false, .nilIface]) ∧ Drawn w w' := by
  have C := Lib.hid (cvboth_any a b len ca len cb fs gs B1 B2 w hF hG)
  rw [h0] at C
  obtain ⟨hf, hg, _⟩ := both_zero h0
  have hfl := hF.size
  have hroom := hf.few
  rw [hfl] at hroom
  have bf : Hid (∀ k, k < len → 0 ≤ fs.getD k 0 ∧ fs.getD k 0 ≤ 1000) := by show ∀ k, _; rw [← hfl]; exact hf.fits
  have bg : Hid (∀ k, k < len → 0 ≤ gs.getD k 0 ∧ gs.getD k 0 ≤ 1000) := by show ∀ k, _; rw [← hG.size]; exact hg.fits
  have HF := Lib.hid hF; clear hF
  have HG := Lib.hid hG; clear hG
  have HFIT : Hid (¬ ∀ t, t < len → ∀ s, s ≤ t → fs.getD t 0 - fs.getD s 0 ≤ gs.getD (t - s) 0) := hfit
  clear h0 hf hg hfl hfit
  go_enter Tryd.func16, Tryd.ntmps16
  go_wp2_with fail
  refine C.out.mono ?_
  rintro e w1 ⟨he, hd⟩
  have he2 : e = .returned .nilIface := he
  subst he2
  have HD1 : Hid (Drawn w w1) := hd
  clear hd he C
  go_wp2_with fail
  go_loopw [17] (fun v17 wr => ∃ t : Nat, t ≤ len ∧ v17 = .int .i64 t ∧ Drawn w wr ∧ Hid (∀ t', t' < t → ∀ s, s ≤ t' → fs.getD t' 0 - fs.getD s 0 ≤ gs.getD (t' - s) 0)) (fun v17 _ => len - (intOf v17).toNat)
  case atStart => exact ⟨0, by omega, rfl, HD1.out, fun t' h => by omega⟩
  case round =>
    obtain ⟨t, ht, rfl, hdw, HOLD⟩ := hrel
    have HW := Lib.hid hdw; clear hdw HD1
    by_cases hlt : t < len
    · go_wp2_with fail
      go_loopw [22] (fun v22 wr => ∃ s : Nat, s ≤ t + 1 ∧ v22 = .int .i64 s ∧ Drawn w wr ∧ Hid (∀ s', s' < s → fs.getD t 0 - fs.getD s' 0 ≤ gs.getD (t - s') 0)) (fun v22 _ => t + 1 - (intOf v22).toNat)
      case atStart => exact ⟨0, by omega, rfl, HW.out, fun s' h => by omega⟩
      case round =>
        clear HW
        obtain ⟨s, hs, rfl, hdw, HS⟩ := hrel
        have HW := Lib.hid hdw; clear hdw
        by_cases hst : s < t + 1
        · obtain ⟨fb, fo, rfl, _, hc⟩ := HF.out.cell t hlt
          obtain ⟨fb', fo', he, _, hc1⟩ := HF.out.cell s (by omega)
          simp only [Option.some.injEq, Addr.mk.injEq, and_true] at he
          obtain ⟨rfl, rfl⟩ := he
          obtain ⟨gb, go_, rfl, _, hc2⟩ := HG.out.cell (t - s) (by omega)
          have hc := HW.out.cell hc
          have hc1 := HW.out.cell hc1
          have hc2 := HW.out.cell hc2
          have b1 := bf.out t hlt
          have b2 := bf.out s (by omega)
          have b3 := bg.out (t - s) (by omega)
          have q1 : (0 : Int) ≤ (t : Int) := by omega
          have q2 : (t : Int) < (len : Int) := by omega
          have q3 : (0 : Int) ≤ (s : Int) := by omega
          have q4 : (s : Int) < (len : Int) := by omega
          have q6 : (0 : Int) ≤ (t : Int) - (s : Int) := by omega
          have q7 : (t : Int) - (s : Int) < (len : Int) := by omega
          have q8 : ((t : Int) - (s : Int)).toNat = t - s := by omega
          by_cases hfi : fs.getD t 0 - fs.getD s 0 ≤ gs.getD (t - s) 0
          · have HS2 : Hid (∀ s', s' < s + 1 → fs.getD t 0 - fs.getD s' 0 ≤ gs.getD (t - s') 0) := fun s' h => by
              rcases Nat.lt_or_ge s' s with h' | h'
              · exact HS.out s' h'
              · obtain rfl : s' = s := by omega
                exact hfi
            generalize fs.getD t 0 = u at *
            generalize fs.getD s 0 = u2 at *
            generalize gs.getD (t - s) 0 = v at *
            have q5 : IntKind.i64.wrap (u - u2) = u - u2 := IntWalk.i64_in _ (by omega)
            have q9 : IntKind.i64.wrap ((t : Int) - (s : Int)) = (t : Int) - (s : Int) := IntWalk.i64_in _ (by omega)
            go_wp2_with fail
            go_quiet (fail)
            clear q5 q9
            go_wp2_with fail
            go_roundw
            case rel => exact ⟨s + 1, by omega, by go_num, HW.out.more _, HS2⟩
            case measure => simp [intOf] <;> omega
          · have hfi2 : gs.getD (t - s) 0 < fs.getD t 0 - fs.getD s 0 := by omega
            clear hfi
            generalize fs.getD t 0 = u at *
            generalize fs.getD s 0 = u2 at *
            generalize gs.getD (t - s) 0 = v at *
            have q5 : IntKind.i64.wrap (u - u2) = u - u2 := IntWalk.i64_in _ (by omega)
            have q9 : IntKind.i64.wrap ((t : Int) - (s : Int)) = (t : Int) - (s : Int) := IntWalk.i64_in _ (by omega)
            go_wp2_with fail
            go_quiet (fail)
            clear q5 q9
            go_wp2_with fail
            go_ret2
            exact ⟨rfl, HW.out.more _⟩
        · have HOLD2 : Hid (∀ t', t' < t + 1 → ∀ s, s ≤ t' → fs.getD t' 0 - fs.getD s 0 ≤ gs.getD (t' - s) 0) := fun t' h s' h' => by
            rcases Nat.lt_or_ge t' t with h2 | h2
            · exact HOLD.out t' h2 s' h'
            · obtain rfl : t' = t := by omega
              exact HS.out s' (by omega)
          go_wp2_with fail
          go_roundw
          case rel => exact ⟨t + 1, by omega, by go_num, HW.out, HOLD2⟩
          case measure => simp [intOf] <;> omega
    · exfalso
      exact HFIT.out fun t' h => HOLD.out t' (by omega)

def foldL (fs gs : List Int) (n : Nat) : List Int := (List.range n).map (Cv.fld (gD fs) (gD gs))
theorem foldL_len (fs gs : List Int) (n : Nat) : (foldL fs gs n).length = n := by simp [foldL]
theorem foldL_at (fs gs : List Int) (n k : Nat) (h : k < n) : (foldL fs gs n).getD k 0 = Cv.fld (gD fs) (gD gs) k := by simp [foldL, List.getD_eq_getElem?_getD, h]
theorem foldL_succ (fs gs : List Int) (n : Nat) : foldL fs gs (n + 1) = foldL fs gs n ++ [Cv.fld (gD fs) (gD gs) n] := by simp [foldL, List.range_succ]
theorem cvInt : (Tryd.prog.info? 3).map (fun i => (i.zero, i.size, i.bytes)) = some (some (.int .i64 0), 1, 8) := by kernel_rfl

set_option maxHeartbeats 4000000 in
set_option maxRecDepth 100000 in
theorem fold_yes (a b : Option Addr) (len ca cb : Nat) (fs gs : List Int) (w : World) (hF : Ints w w.heap.size a len fs) (hG : Ints w w.heap.size b len gs) (h0 : bothE fs gs = 0) :
    Calls Tryd.prog 12 #[.slice a len ca, .slice b len cb] w fun e w' => ∃ g c, e = .returned (.tuple #[.slice (some ⟨g, 0, none⟩) len c, .nilIface]) ∧ Ints w' w'.heap.size (some ⟨g, 0, none⟩) len (foldL fs gs len) ∧ Below w.heap.size w w' := by
  have C := Lib.hid (cvboth_any a b len ca len cb fs gs _ _ w hF hG)
  rw [h0] at C
  obtain ⟨hf, hg, _⟩ := both_zero h0
  have hfl := hF.size
  have hroom := hf.few
  have hone := hf.some
  rw [hfl] at hroom hone
  have bf : Hid (∀ k, k < len → 0 ≤ gD fs k ∧ gD fs k ≤ 1000) := by show ∀ k, _; rw [← hfl]; exact hf.fits
  have bg : Hid (∀ k, k < len → 0 ≤ gD gs k ∧ gD gs k ≤ 1000) := by show ∀ k, _; rw [← hG.size]; exact hg.fits
  have HFB : Hid (∀ t k, t < len → k ≤ t + 1 → 0 ≤ Cv.fldN (gD fs) (gD gs) t k ∧ Cv.fldN (gD fs) (gD gs) t k ≤ 2000) := fun t k ht hk => Cv.fldN_bounds bf.out bg.out t k ht hk
  have HF := Lib.hid hF; clear hF
  have HG := Lib.hid hG; clear hG
  clear h0 hf hg hfl
  obtain ⟨i0, hi, hz0, hz1, hz2⟩ := info_parts cvInt
  go_enter Tryd.func12, Tryd.ntmps12
  go_wp2_with fail
  refine C.out.mono ?_
  rintro e w1 ⟨he, hd⟩
  have he2 : e = .returned .nilIface := he
  subst he2
  have HB1 : Hid (Below w.heap.size w w1) := Drawn.below hd
  clear hd he C
  go_wp2_with fail
  go_loopw [7, 19] (fun v7 v19 wr => ∃ t : Nat, t ≤ len ∧ v19 = .int .i64 t ∧ wr.ownsRow w.heap.size 3 1 v7 t ((foldL fs gs t).map (.int .i64)) ∧ Below w.heap.size w wr) (fun _ v19 _ => len - (intOf v19).toNat)
  case atStart => exact ⟨0, by omega, rfl, World.ownsRow_nil _ _ _ _, HB1.out⟩
  case round =>
    obtain ⟨t, ht, rfl, hown, hB⟩ := hrel
    have HOW := Lib.hid hown; clear hown
    have HB := Lib.hid hB; clear hB HB1
    have hsz := HB.out.size
    by_cases hlt : t < len
    · obtain ⟨fb, fo, rfl, hfb, hc⟩ := HF.out.cell 0 (by omega)
      obtain ⟨gb, go_, rfl, hgb, hc2⟩ := HG.out.cell t hlt
      have hc := (HB.out.cell (p := ⟨fb, fo, none⟩) hfb).trans hc
      have hc2 := (HB.out.cell (p := ⟨gb, go_ + t, none⟩) hgb).trans hc2
      have b1 := bf.out 0 (by omega)
      have b2 := bg.out t hlt
      unfold gD at b1 b2
      have HX0 : Hid (fs.getD 0 0 + gs.getD t 0 = Cv.fldN (gD fs) (gD gs) t 0) := rfl
      generalize fs.getD 0 0 = u0 at *
      generalize gs.getD t 0 = v0 at *
      have q1 : (0 : Int) ≤ (t : Int) := by omega
      have q2 : (t : Int) < (len : Int) := by omega
      have q0 : (0 : Int) < (len : Int) := by omega
      have q5 : IntKind.i64.wrap (u0 + v0) = u0 + v0 := IntWalk.i64_in _ (by omega)
      obtain ⟨wo, hwo⟩ : ∃ wo : World, wo = wr := ⟨_, rfl⟩
      subst hwo
      go_wp2_with fail
      go_quiet (fail)
      clear q5 hc hc2
      go_wp2_with fail
      go_loopw [9, 32] (fun v9 v32 wr => ∃ (k : Nat) (x : Int), k ≤ t + 1 ∧ v32 = .int .i64 k ∧ v9 = .int .i64 x ∧ 0 ≤ x ∧ x ≤ 2000 ∧ Hid (x = Cv.fldN (gD fs) (gD gs) t k) ∧ Drawn wo wr) (fun _ v32 _ => t + 1 - (intOf v32).toNat)
      case atStart => exact ⟨0, u0 + v0, by omega, rfl, rfl, by omega, by omega, HX0.out, ⟨_, rfl⟩⟩
      case round =>
        obtain ⟨k, x, hk, rfl, rfl, x0, x1, HX, hdw⟩ := hrel
        have HW := Lib.hid hdw; clear hdw
        by_cases hkt : k < t + 1
        · obtain ⟨fb', fo', he, hfb', hc⟩ := HF.out.cell k (by omega)
          simp only [Option.some.injEq, Addr.mk.injEq, and_true] at he
          obtain ⟨rfl, rfl⟩ := he
          obtain ⟨gb', go', he, hgb', hc2⟩ := HG.out.cell (t - k) (by omega)
          simp only [Option.some.injEq, Addr.mk.injEq, and_true] at he
          obtain ⟨rfl, rfl⟩ := he
          have hc := HW.out.cell ((HB.out.cell (p := ⟨fb, fo + k, none⟩) hfb).trans hc)
          have hc2 := HW.out.cell ((HB.out.cell (p := ⟨gb, go_ + (t - k), none⟩) hgb).trans hc2)
          have b1 := bf.out k (by omega)
          have b2 := bg.out (t - k) (by omega)
          have hs : Cv.fldN (gD fs) (gD gs) t (k + 1) = min x (gD fs k + gD gs (t - k)) := by rw [HX.out]; rfl
          unfold gD at b1 b2
          have HS : Hid (Cv.fldN (gD fs) (gD gs) t (k + 1) = min x (fs.getD k 0 + gs.getD (t - k) 0)) := hs
          clear hs HX
          generalize fs.getD k 0 = u at *
          generalize gs.getD (t - k) 0 = v at *
          have q3 : (0 : Int) ≤ (k : Int) := by omega
          have q4 : (k : Int) < (len : Int) := by omega
          have q6 : (0 : Int) ≤ (t : Int) - (k : Int) := by omega
          have q7 : (t : Int) - (k : Int) < (len : Int) := by omega
          have q8 : ((t : Int) - (k : Int)).toNat = t - k := by omega
          by_cases hm : x ≤ u + v
          · have HS2 : Hid (x = Cv.fldN (gD fs) (gD gs) t (k + 1)) := by show _ = _; rw [HS.out]; omega
            clear HS
            go_wp2_with fail
            go_region
            all_goals go_wp2
            all_goals go_roundw
            all_goals first
              | exact ⟨k + 1, x, by omega, by go_num, by go_num, by omega, by omega, HS2.out, by first | exact HW.out.drew | exact HW.out.more _⟩
              | (simp [intOf] <;> omega)
          · have HS2 : Hid (u + v = Cv.fldN (gD fs) (gD gs) t (k + 1)) := by show _ = _; rw [HS.out]; omega
            have hm2 : u + v < x := by omega
            clear HS hm
            go_wp2_with fail
            go_region
            all_goals go_wp2
            all_goals go_roundw
            all_goals first
              | exact ⟨k + 1, u + v, by omega, by go_num, by go_num, by omega, by omega, HS2.out, by first | exact HW.out.drew | exact HW.out.more _⟩
              | (simp [intOf] <;> omega)
        · have HX2 : Hid (x = Cv.fld (gD fs) (gD gs) t) := by
            show _ = _
            rw [HX.out, show k = t + 1 from by omega]; rfl
          have HOW2 := Lib.hid (HW.out.own HOW.out)
          have HB2 : Hid (Below w.heap.size w wr) := HB.out.trans HW.out.below
          have hsz2 := HB2.out.size
          clear HX HOW HW
          go_wp2_with (first | (at_builtin; go_loud (refine wpList_append_lies _ rfl _ _ 22 rfl w.heap.size 3 i0 (.int .i64 0) 1 8 Tryd.underlying22 hi hz0 hz1 hz2 rfl (by decide) _ _ _ rfl (HOW2.out.alloc _) ⟨wr.heap.size, 0, none⟩ 1 1 [.int .i64 x] rfl rfl (cell_one_new _ _ _) (by intro u hu; simp at hu; subst hu; rfl) (by decide) (by unfold maxLen; omega) (by omega) (by simp; omega) _ rfl ?_)))
          intro g9 c9 w4 hown1 hgrow1 hat1 hlt1
          have HB3 : Hid (Below w.heap.size w w4) := below_row (HB2.out.alloc hsz2 _) hgrow1 (Nat.le_refl _) (by simp; omega) (HOW2.out.alloc _)
          have HOW3 := Lib.hid hown1
          clear hown1 hgrow1 hat1 hlt1
          go_wp2_with fail
          go_roundw
          case rel => exact ⟨t + 1, by omega, by go_num, by have := HOW3.out; rw [foldL_succ, ← HX2.out]; simpa using this, HB3.out⟩
          case measure => simp [intOf] <;> omega
    · have HOW3 := HOW.out
      rw [show t = len from by omega] at HOW3
      obtain ⟨g9, c9, hv9, hcel, _⟩ := Cel.form HOW3 hone
      subst hv9
      have HJ := Lib.hid (hcel.ints (n := len) (foldL_len _ _ _) (by omega) (fits_of (M := 2000) (by decide) (fun y hy => by
        obtain ⟨j, hj, rfl⟩ := List.mem_map.1 hy
        exact HFB.out j (j + 1) (List.mem_range.1 hj) (Nat.le_refl _))))
      clear hcel HOW3 HOW
      go_wp2_with fail
      go_ret2
      exact ⟨g9, c9, rfl, HJ.out, HB.out⟩

theorem cv_bad {n : Int} (h : n ≠ 0) : cvErr n = errV n := if_neg h
theorem fold_no (a b : Option Addr) (la ca lb cb : Nat) (fs gs : List Int) (B1 B2 : Nat) (w : World) (hF : Ints w B1 a la fs) (hG : Ints w B2 b lb gs) (h0 : bothE fs gs ≠ 0) :
    Calls Tryd.prog 12 #[.slice a la ca, .slice b lb cb] w fun e w' => e = .returned (.tuple #[.slice none 0 0, errV (bothE fs gs)]) ∧ Drawn w w' := by
  have C := Lib.hid (cvboth_any a b la ca lb cb fs gs B1 B2 w hF hG)
  rw [cv_bad h0] at C
  clear h0 hF hG
  generalize bothE fs gs = n at *
  go_enter Tryd.func12, Tryd.ntmps12
  go_wp2_with fail
  refine C.out.mono ?_
  rintro e w1 ⟨rfl, hd⟩
  have HD1 : Hid (Drawn w w1) := hd
  clear hd
  go_wp2
  go_ret2
  exact ⟨rfl, HD1.out⟩
theorem backlog_no (a b : Option Addr) (la ca lb cb : Nat) (fs gs : List Int) (B1 B2 : Nat) (w : World) (hF : Ints w B1 a la fs) (hG : Ints w B2 b lb gs) (h0 : bothE fs gs ≠ 0) :
    Calls Tryd.prog 14 #[.slice a la ca, .slice b lb cb] w fun e w' => e = .returned (.tuple #[.int .i64 0, errV (bothE fs gs)]) ∧ Drawn w w' := by
  have C := Lib.hid (cvboth_any a b la ca lb cb fs gs B1 B2 w hF hG)
  rw [cv_bad h0] at C
  clear h0 hF hG
  generalize bothE fs gs = n at *
  go_enter Tryd.func14, Tryd.ntmps14
  go_wp2_with fail
  refine C.out.mono ?_
  rintro e w1 ⟨rfl, hd⟩
  have HD1 : Hid (Drawn w w1) := hd
  clear hd
  go_wp2
  go_ret2
  exact ⟨rfl, HD1.out⟩
theorem fits_bad (a b : Option Addr) (la ca lb cb : Nat) (fs gs : List Int) (B1 B2 : Nat) (w : World) (hF : Ints w B1 a la fs) (hG : Ints w B2 b lb gs) (h0 : bothE fs gs ≠ 0) :
    Calls Tryd.prog 16 #[.slice a la ca, .slice b lb cb] w fun e w' => e = .returned (.tuple #[.bool false, errV (bothE fs gs)]) ∧ Drawn w w' := by
  have C := Lib.hid (cvboth_any a b la ca lb cb fs gs B1 B2 w hF hG)
  rw [cv_bad h0] at C
  clear h0 hF hG
  generalize bothE fs gs = n at *
  go_enter Tryd.func16, Tryd.ntmps16
  go_wp2_with fail
  refine C.out.mono ?_
  rintro e w1 ⟨rfl, hd⟩
  have HD1 : Hid (Drawn w w1) := hd
  clear hd
  go_wp2
  go_ret2
  exact ⟨rfl, HD1.out⟩
end Go.Proofs.YtikdpjedlbkkjaaDoor
