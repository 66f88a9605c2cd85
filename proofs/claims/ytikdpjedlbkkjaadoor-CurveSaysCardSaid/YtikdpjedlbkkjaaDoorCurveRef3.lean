/- The reference's Fold and Delay. -/
import Derived.Test.YtikdpjedlbkkjaaDoorCurveRef2
namespace Go.Proofs.YtikdpjedlbkkjaaDoor
open Go.RowKit
set_option linter.unusedSimpArgs false
set_option linter.unusedVariables false

set_option maxHeartbeats 4000000 in
set_option maxRecDepth 100000 in
theorem mfold_yes (a b : Option Addr) (len ca cb : Nat) (fs gs : List Int) (w : World) (hF : Ints w w.heap.size a len fs) (hG : Ints w w.heap.size b len gs) (h0 : bothE fs gs = 0) :
    Calls Tryd.prog 8 #[.slice a len ca, .slice b len cb] w fun e w' => ∃ g c, e = .returned (.slice (some ⟨g, 0, none⟩) len c) ∧ Ints w' w'.heap.size (some ⟨g, 0, none⟩) len (foldL fs gs len) ∧ Below w.heap.size w w' := by
  obtain ⟨hf, hg, _⟩ := both_zero h0
  have hfl := hF.size
  have hroom := hf.few
  have hone := hf.some
  rw [hfl] at hroom hone
  have bf : Hid (∀ k, k < len → 0 ≤ fs.getD k 0 ∧ fs.getD k 0 ≤ 1000) := by show ∀ k, _; rw [← hfl]; exact hf.fits
  have bg : Hid (∀ k, k < len → 0 ≤ gs.getD k 0 ∧ gs.getD k 0 ≤ 1000) := by show ∀ k, _; rw [← hG.size]; exact hg.fits
  have HF := Lib.hid hF; clear hF
  have HG := Lib.hid hG; clear hG
  clear h0 hf hg hfl
  have HFB : Hid (∀ k, k < len → 0 ≤ Cv.fld (gD fs) (gD gs) k ∧ Cv.fld (gD fs) (gD gs) k ≤ 2000) := fun k hk => Cv.fldN_bounds (M := 1000) (n := len) bf.out bg.out k (k + 1) hk (Nat.le_refl _)
  obtain ⟨i0, hi, hz0, hz1, hz2⟩ := info_parts cvInt
  go_enter Tryd.func8, Tryd.ntmps8
  go_wp2_with fail
  go_loopw [5, 6] (fun v5 v6 wr => ∃ t : Nat, t ≤ len ∧ v6 = .int .i64 t ∧ wr.ownsRow w.heap.size 3 1 v5 t ((foldL fs gs t).map (.int .i64)) ∧ Below w.heap.size w wr) (fun _ v6 _ => len - (intOf v6).toNat)
  case atStart => exact ⟨0, by omega, rfl, World.ownsRow_nil _ _ _ _, Below.refl _ _⟩
  case round =>
    obtain ⟨t, ht, rfl, hown, hB⟩ := hrel
    have HOW := Lib.hid hown; clear hown
    have HB := Lib.hid hB; clear hB
    have hsz := HB.out.size
    by_cases hlt : t < len
    · obtain ⟨fb, fo, rfl, hfb, hc⟩ := HF.out.cell t hlt
      obtain ⟨gb, go_, rfl, hgb, hc2⟩ := HG.out.cell 0 (by omega)
      have hc := (HB.out.cell (p := ⟨fb, fo + t, none⟩) hfb).trans hc
      have hc2 := (HB.out.cell (p := ⟨gb, go_, none⟩) hgb).trans hc2
      have b1 := bf.out t hlt
      have b2 := bg.out 0 (by omega)
      have HX0 : Hid (fs.getD t 0 + gs.getD 0 0 = gD fs t + gD gs 0) := rfl
      generalize fs.getD t 0 = u0 at *
      generalize gs.getD 0 0 = v0 at *
      have q1 : (0 : Int) ≤ (t : Int) := by omega
      have q2 : (t : Int) < (len : Int) := by omega
      have q0 : (0 : Int) < (len : Int) := by omega
      have q5 : IntKind.i64.wrap (u0 + v0) = u0 + v0 := IntWalk.i64_in _ (by omega)
      obtain ⟨wo, hwo⟩ : ∃ wo : World, wo = wr := ⟨_, rfl⟩
      subst hwo
      go_wp2_with fail
      go_quiet (fail)
      clear q5 hc hc2
      go_wp2_with fail
      go_loopw [7, 8] (fun v7 v8 wr => ∃ (k : Nat) (x : Int), k ≤ t ∧ v8 = .int .i64 k ∧ v7 = .int .i64 x ∧ 0 ≤ x ∧ x ≤ 2000 ∧ Hid ((∀ s, s < k → x ≤ gD fs s + gD gs (t - s)) ∧ x ≤ gD fs t + gD gs 0 ∧ ∃ s, s ≤ t ∧ x = gD fs s + gD gs (t - s)) ∧ Drawn wo wr) (fun _ v8 _ => t - (intOf v8).toNat)
      case atStart => exact ⟨0, u0 + v0, by omega, rfl, rfl, by omega, by omega, ⟨fun s h => by omega, Int.le_of_eq HX0.out, t, Nat.le_refl _, by rw [Nat.sub_self]; exact HX0.out⟩, ⟨_, rfl⟩⟩
      case round =>
        clear HX0
        obtain ⟨k, x, hk, rfl, rfl, x0, x1, HX, hdw⟩ := hrel
        have HW := Lib.hid hdw; clear hdw
        by_cases hkt : k < t
        · obtain ⟨fb', fo', he, hfb', hc⟩ := HF.out.cell k (by omega)
          simp only [Option.some.injEq, Addr.mk.injEq, and_true] at he
          obtain ⟨rfl, rfl⟩ := he
          obtain ⟨gb', go', he, hgb', hc2⟩ := HG.out.cell (t - k) (by omega)
          simp only [Option.some.injEq, Addr.mk.injEq, and_true] at he
          obtain ⟨rfl, rfl⟩ := he
          have hc := HW.out.cell ((HB.out.cell (p := ⟨fb, fo + k, none⟩) hfb').trans hc)
          have hc2 := HW.out.cell ((HB.out.cell (p := ⟨gb, go_ + (t - k), none⟩) hgb').trans hc2)
          have b3 := bf.out k (by omega)
          have b4 := bg.out (t - k) (by omega)
          have HS : Hid ((∀ s, s < k + 1 → min x (fs.getD k 0 + gs.getD (t - k) 0) ≤ gD fs s + gD gs (t - s)) ∧ min x (fs.getD k 0 + gs.getD (t - k) 0) ≤ gD fs t + gD gs 0 ∧ ∃ s, s ≤ t ∧ min x (fs.getD k 0 + gs.getD (t - k) 0) = gD fs s + gD gs (t - s)) := by
            obtain ⟨h1, h2, s, h3, h4⟩ := HX.out
            refine ⟨fun s hs => ?_, by omega, ?_⟩
            · rcases Nat.lt_or_ge s k with h | h
              · have := h1 s h; omega
              · obtain rfl : s = k := by omega
                show _ ≤ fs.getD s 0 + gs.getD (t - s) 0
                omega
            · by_cases hm : x ≤ fs.getD k 0 + gs.getD (t - k) 0
              · exact ⟨s, h3, by rw [← h4]; omega⟩
              · exact ⟨k, by omega, by show _ = fs.getD k 0 + gs.getD (t - k) 0; omega⟩
          clear HX
          generalize fs.getD k 0 = u at *
          generalize gs.getD (t - k) 0 = v at *
          have q3 : (0 : Int) ≤ (k : Int) := by omega
          have q4 : (k : Int) < (len : Int) := by omega
          have q6 : (0 : Int) ≤ (t : Int) - (k : Int) := by omega
          have q7 : (t : Int) - (k : Int) < (len : Int) := by omega
          have q8 : ((t : Int) - (k : Int)).toNat = t - k := by omega
          have q9 : IntKind.i64.wrap ((t : Int) - (k : Int)) = (t : Int) - (k : Int) := IntWalk.i64_in _ (by omega)
          have q5 : IntKind.i64.wrap (u + v) = u + v := IntWalk.i64_in _ (by omega)
          go_wp2_with fail
          go_quiet ((go_at_call 21; exact Calls.quiet_of_same ((least_any x (u + v) _).mono fun _ _ h => ⟨h.1, h.2.symm⟩)))
          clear q5 q9
          go_wp2_with fail
          go_roundw
          case rel => exact ⟨k + 1, min x (u + v), by omega, by go_num, by go_num, by omega, by omega, HS.out, HW.out.more _⟩
          case measure => simp [intOf] <;> omega
        · have HX2 : Hid (x = Cv.fld (gD fs) (gD gs) t) := by
            obtain ⟨h1, h2, h3⟩ := HX.out
            refine (Cv.fld_eq (fun s hs => ?_) h3).symm
            rcases Nat.lt_or_ge s k with h | h
            · exact h1 s h
            · obtain rfl : s = t := by omega
              rw [Nat.sub_self]; exact h2
          have HOW2 := Lib.hid (HW.out.own HOW.out)
          have HB2 : Hid (Below w.heap.size w wr) := HB.out.trans HW.out.below
          have hsz2 := HB2.out.size
          clear HX HOW HW
          go_wp2_with (first | (at_builtin; go_loud (refine wpList_append_lies _ rfl _ _ 22 rfl w.heap.size 3 i0 (.int .i64 0) 1 8 Tryd.underlying22 hi hz0 hz1 hz2 rfl (by decide) _ _ _ rfl (HOW2.out.alloc _) ⟨wr.heap.size, 0, none⟩ 1 1 [.int .i64 x] rfl rfl (cell_one_new _ _ _) (by intro u hu; simp at hu; subst hu; rfl) (by decide) (by unfold maxLen; omega) (by omega) (by simp; omega) _ rfl ?_)))
          intro g9 c9 w4 hown1 hgrow1 hat1 hlt1
          have HB3 : Hid (Below w.heap.size w w4) := below_row (HB2.out.alloc hsz2 _) hgrow1 (Nat.le_refl _) (by simp; omega) (HOW2.out.alloc _)
          have HOW3 := Lib.hid hown1
          clear hown1 hgrow1 hat1 hlt1
          go_wp2_with fail
          go_roundw
          case rel => exact ⟨t + 1, by omega, by go_num, by have := HOW3.out; rw [foldL_succ, ← HX2.out]; simpa using this, HB3.out⟩
          case measure => simp [intOf] <;> omega
    · have HOW3 := HOW.out
      rw [show t = len from by omega] at HOW3
      obtain ⟨g9, c9, hv9, hcel, _⟩ := Cel.form HOW3 hone
      subst hv9
      have HJ := Lib.hid (hcel.ints (n := len) (foldL_len _ _ _) (by omega) (fits_of (M := 2000) (by decide) (fun y hy => by
        obtain ⟨j, hj, rfl⟩ := List.mem_map.1 hy
        exact HFB.out j (List.mem_range.1 hj))))
      clear hcel HOW3 HOW
      go_wp2_with fail
      go_ret
      exact ⟨g9, c9, rfl, HJ.out, HB.out⟩

def mdelayP (fs gs : List Int) (len : Nat) (w : World) (e : Ending) (w' : World) : Prop :=
  Drawn w w' ∧ ((Cv.dlN (gD fs) (gD gs) len len = none ∧ e = .returned (.tuple #[.int .i64 0, .int .i64 5])) ∨ ∃ m : Nat, Cv.dlN (gD fs) (gD gs) len len = some m ∧ e = .returned (.tuple #[.int .i64 (m : Int), .int .i64 0]))

set_option maxHeartbeats 4000000 in
theorem mdelay_yes (a b : Option Addr) (len ca cb : Nat) (fs gs : List Int) (w : World) (hF : Ints w w.heap.size a len fs) (hG : Ints w w.heap.size b len gs) (h0 : bothE fs gs = 0) :
    Calls Tryd.prog 11 #[.slice a len ca, .slice b len cb] w (mdelayP fs gs len w) := by
  obtain ⟨hf, hg, _⟩ := both_zero h0
  have hfl := hF.size
  have hroom := hf.few
  have hone := hf.some
  rw [hfl] at hroom hone
  have bf : Hid (∀ k, k < len → 0 ≤ fs.getD k 0 ∧ fs.getD k 0 ≤ 1000) := by show ∀ k, _; rw [← hfl]; exact hf.fits
  have bg : Hid (∀ k, k < len → 0 ≤ gs.getD k 0 ∧ gs.getD k 0 ≤ 1000) := by show ∀ k, _; rw [← hG.size]; exact hg.fits
  have HF := Lib.hid hF; clear hF
  have HG := Lib.hid hG; clear hG
  clear h0 hf hg hfl
  go_enter Tryd.func11, Tryd.ntmps11
  go_wp2_with fail
  go_loopw [6, 7] (fun v6 v7 wr => ∃ t x : Nat, t ≤ len ∧ v7 = .int .i64 t ∧ v6 = .int .i64 x ∧ x ≤ 16 ∧ Hid (Cv.dlN (gD fs) (gD gs) len t = some x) ∧ Drawn w wr) (fun _ v7 _ => len - (intOf v7).toNat)
  case atStart => exact ⟨0, 0, by omega, rfl, rfl, by omega, rfl, Drawn.refl _⟩
  case round =>
    obtain ⟨t, x, ht, rfl, rfl, hx, HDL, hdw⟩ := hrel
    have HW := Lib.hid hdw; clear hdw
    by_cases hlt : t < len
    · go_wp2_with fail
      go_loopw [8] (fun v8 wr => ∃ u : Nat, t ≤ u ∧ u ≤ len ∧ v8 = .int .i64 u ∧ Hid (∀ j, t ≤ j → j < u → gD gs j < gD fs t) ∧ Drawn w wr) (fun v8 _ => len - (intOf v8).toNat)
      case atStart => exact ⟨t, Nat.le_refl _, by omega, rfl, fun j h1 h2 => by omega, HW.out⟩
      case round =>
        clear HW
        obtain ⟨u, htu, hul, rfl, HJ, hdw⟩ := hrel
        have HW := Lib.hid hdw; clear hdw
        have q1 : (0 : Int) ≤ (t : Int) := by omega
        have q2 : (t : Int) < (len : Int) := by omega
        have q3 : (0 : Int) ≤ (u : Int) := by omega
        by_cases huv : u < len
        · have q4 : (u : Int) < (len : Int) := by omega
          have q5 : decide ((u : Int) < (len : Int)) = true := by simp; omega
          obtain ⟨fb, fo, rfl, _, hc⟩ := HF.out.cell t hlt
          obtain ⟨gb, go_, rfl, _, hc2⟩ := HG.out.cell u huv
          have hc := HW.out.cell hc
          have hc2 := HW.out.cell hc2
          by_cases hm : gs.getD u 0 < fs.getD t 0
          · have HJ2 : Hid (∀ j, t ≤ j → j < u + 1 → gD gs j < gD fs t) := fun j h1 h2 => by
              rcases Nat.lt_or_ge j u with h | h
              · exact HJ.out j h1 h
              · obtain rfl : j = u := by omega
                exact hm
            have q6 : decide (gs.getD u 0 < fs.getD t 0) = true := by simpa using hm
            generalize hu : fs.getD t 0 = y at hm hc q6
            generalize hv : gs.getD u 0 = z at hm hc2 q6
            clear hu hv
            go_wp2_with fail
            go_quiet (fail)
            go_wp2_with fail
            go_roundw
            case rel => exact ⟨u + 1, by omega, by omega, by go_num, HJ2, HW.out.more _⟩
            case measure => simp [intOf] <;> omega
          · have hm2 : fs.getD t 0 ≤ gs.getD u 0 := by omega
            have HN : Hid (Cv.dlN (gD fs) (gD gs) len (t + 1) = some (max x (u - t))) := by
              show (match Cv.dlN (gD fs) (gD gs) len t with | none => none | some m => _) = _
              rw [HDL.out]
              show (match Cv.fstU (gD gs) (gD fs t) t (len - t) with | none => none | some u => some (max x (u - t))) = _
              rw [Cv.fstU_mk htu (show u < t + (len - t) by omega) hm2 HJ.out]
            have q6 : decide (gs.getD u 0 < fs.getD t 0) = false := by simpa using hm2
            have q7 : IntKind.i64.wrap ((u : Int) - (t : Int)) = (u : Int) - (t : Int) := IntWalk.i64_in _ (by omega)
            have q8 : ¬ u = len := by omega
            generalize hu : fs.getD t 0 = y at hm hm2 hc q6
            generalize hv : gs.getD u 0 = z at hm hm2 hc2 q6
            clear hu hv hm HDL HJ
            go_wp2_with fail
            go_quiet (fail)
            go_wp2_with fail
            refine (most_any (x : Int) ((u : Int) - (t : Int)) _).mono ?_
            rintro e w' ⟨rfl, rfl⟩
            go_wp2_with fail
            go_roundw
            case rel => exact ⟨t + 1, max x (u - t), by omega, by go_num, by show Value.int _ _ = .int _ _; congr 1; omega, by omega, HN.out, HW.out.more _⟩
            case measure => simp [intOf] <;> omega
        · have hue : u = len := by omega
          have HN : Hid (Cv.dlN (gD fs) (gD gs) len len = none) := by
            have h1 : Cv.dlN (gD fs) (gD gs) len (t + 1) = none := by
              show (match Cv.dlN (gD fs) (gD gs) len t with | none => _ | some m => _) = _
              rw [HDL.out]
              show (match Cv.fstU (gD gs) (gD fs t) t (len - t) with | none => none | some u => some (max x (u - t))) = _
              rw [Cv.fstU_mk_none (fun j h1 h2 => HJ.out j h1 (by omega))]
            have h2 := dl_none (t + 1) (len - (t + 1)) h1
            rw [show t + 1 + (len - (t + 1)) = len from by omega] at h2
            exact h2
          have q5 : decide ((u : Int) < (len : Int)) = false := by simp; omega
          clear HDL HJ huv
          subst hue
          go_wp2_with fail
          go_quiet (fail)
          go_wp2_with fail
          go_ret2
          exact ⟨HW.out.more _, Or.inl ⟨HN.out, rfl⟩⟩
    · have HN : Hid (Cv.dlN (gD fs) (gD gs) len len = some x) := by have := HDL.out; rw [show t = len from by omega] at this; exact this
      go_wp2_with fail
      go_ret2
      exact ⟨HW.out, Or.inr ⟨x, HN.out, rfl⟩⟩
end Go.Proofs.YtikdpjedlbkkjaaDoor
