/- The reference's Backlog, Fits, Fold and Delay. -/
import Derived.Test.YtikdpjedlbkkjaaDoorCurveRef
import Derived.Test.YtikdpjedlbkkjaaDoorMMost
import Derived.Test.YtikdpjedlbkkjaaDoorMLeast
namespace Go.Proofs.YtikdpjedlbkkjaaDoor
open Go.RowKit
set_option linter.unusedSimpArgs false
set_option linter.unusedVariables false

set_option maxHeartbeats 4000000 in
theorem mback_yes (a b : Option Addr) (len ca cb : Nat) (fs gs : List Int) (w : World) (hF : Ints w w.heap.size a len fs) (hG : Ints w w.heap.size b len gs) (h0 : bothE fs gs = 0) :
    Calls Tryd.prog 9 #[.slice a len ca, .slice b len cb] w fun e w' => e = .returned (.int .i64 (Cv.bkN (gD fs) (gD gs) len)) ∧ Drawn w w' := by
  obtain ⟨hf, hg, _⟩ := both_zero h0
  have hfl := hF.size
  have hroom := hf.few
  have hone := hf.some
  rw [hfl] at hroom hone
  have bf : Hid (∀ k, k < len → 0 ≤ fs.getD k 0 ∧ fs.getD k 0 ≤ 1000) := by show ∀ k, _; rw [← hfl]; exact hf.fits
  have bg : Hid (∀ k, k < len → 0 ≤ gs.getD k 0 ∧ gs.getD k 0 ≤ 1000) := by show ∀ k, _; rw [← hG.size]; exact hg.fits
  have HF := Lib.hid hF; clear hF
  have HG := Lib.hid hG; clear hG
  clear h0 hf hg hfl
  go_enter Tryd.func9, Tryd.ntmps9
  go_wp2_with fail
  go_loopw [5, 6] (fun v5 v6 wr => ∃ (k : Nat) (x : Int), k ≤ len ∧ v6 = .int .i64 k ∧ v5 = .int .i64 x ∧ 0 ≤ x ∧ x ≤ 1000 ∧ Hid (x = Cv.bkN (gD fs) (gD gs) k) ∧ Drawn w wr) (fun _ v6 _ => len - (intOf v6).toNat)
  case atStart => exact ⟨0, 0, by omega, rfl, rfl, by decide, by decide, rfl, Drawn.refl _⟩
  case round =>
    obtain ⟨k, x, hk, rfl, rfl, x0, x1, HX, hdw⟩ := hrel
    have HW := Lib.hid hdw; clear hdw
    by_cases hlt : k < len
    · obtain ⟨fb, fo, rfl, _, hc⟩ := HF.out.cell k hlt
      obtain ⟨gb, go_, rfl, _, hc2⟩ := HG.out.cell k hlt
      have hc := HW.out.cell hc
      have hc2 := HW.out.cell hc2
      have b1 := bf.out k hlt
      have b2 := bg.out k hlt
      have HS : Hid (Cv.bkN (gD fs) (gD gs) (k + 1) = max x (fs.getD k 0 - gs.getD k 0)) := by show _ = _; rw [HX.out]; rfl
      clear HX
      generalize fs.getD k 0 = u at *
      generalize gs.getD k 0 = v at *
      have q1 : (0 : Int) ≤ (k : Int) := by omega
      have q2 : (k : Int) < (len : Int) := by omega
      have q3 : IntKind.i64.wrap (u - v) = u - v := IntWalk.i64_in _ (by omega)
      go_wp2_with fail
      go_quiet ((go_at_call 22; exact Calls.quiet_of_same ((most_any x (u - v) _).mono fun _ _ h => ⟨h.1, h.2.symm⟩)))
      clear q3
      go_wp2_with fail
      go_roundw
      case rel => exact ⟨k + 1, max x (u - v), by omega, by go_num, by go_num, by omega, by omega, HS.out.symm, HW.out.more _⟩
      case measure => simp [intOf] <;> omega
    · have HE : Hid (x = Cv.bkN (gD fs) (gD gs) len) := by show _ = _; rw [HX.out, show k = len from by omega]
      go_wp2
      go_ret
      exact ⟨ret_int HE.out, HW.out⟩
set_option maxHeartbeats 4000000 in
theorem mfits_yes (a b : Option Addr) (len ca cb : Nat) (fs gs : List Int) (w : World) (hF : Ints w w.heap.size a len fs) (hG : Ints w w.heap.size b len gs) (h0 : bothE fs gs = 0) (hfit : Cv.Fits (gD fs) (gD gs) len) :
    Calls Tryd.prog 10 #[.slice a len ca, .slice b len cb] w fun e w' => e = .returned (.bool true) ∧ Drawn w w' := by
  obtain ⟨hf, hg, _⟩ := both_zero h0
  have hfl := hF.size
  have hroom := hf.few
  have hone := hf.some
  rw [hfl] at hroom hone
  have bf : Hid (∀ k, k < len → 0 ≤ fs.getD k 0 ∧ fs.getD k 0 ≤ 1000) := by show ∀ k, _; rw [← hfl]; exact hf.fits
  have bg : Hid (∀ k, k < len → 0 ≤ gs.getD k 0 ∧ gs.getD k 0 ≤ 1000) := by show ∀ k, _; rw [← hG.size]; exact hg.fits
  have HF := Lib.hid hF; clear hF
  have HG := Lib.hid hG; clear hG
  clear h0 hf hg hfl
  have HFIT : Hid (∀ t, t < len → ∀ s, s ≤ t → fs.getD t 0 - fs.getD s 0 ≤ gs.getD (t - s) 0) := hfit
  clear hfit
  go_enter Tryd.func10, Tryd.ntmps10
  go_wp2_with fail
  go_loopw [5] (fun v5 wr => ∃ s : Nat, s ≤ len ∧ v5 = .int .i64 s ∧ Drawn w wr) (fun v5 _ => len - (intOf v5).toNat)
  case atStart => exact ⟨0, by omega, rfl, Drawn.refl _⟩
  case round =>
    obtain ⟨s, hs, rfl, hdw⟩ := hrel
    have HW := Lib.hid hdw; clear hdw
    by_cases hlt : s < len
    · go_wp2_with fail
      go_loopw [6] (fun v6 wr => ∃ t : Nat, s ≤ t ∧ t ≤ len ∧ v6 = .int .i64 t ∧ Drawn w wr) (fun v6 _ => len - (intOf v6).toNat)
      case atStart => exact ⟨s, by omega, by omega, rfl, HW.out⟩
      case round =>
        clear HW
        obtain ⟨t, hst, htn, rfl, hdw⟩ := hrel
        have HW := Lib.hid hdw; clear hdw
        by_cases htl : t < len
        · obtain ⟨fb, fo, rfl, _, hc⟩ := HF.out.cell t htl
          obtain ⟨fb', fo', he, _, hc1⟩ := HF.out.cell s hlt
          simp only [Option.some.injEq, Addr.mk.injEq, and_true] at he
          obtain ⟨rfl, rfl⟩ := he
          obtain ⟨gb, go_, rfl, _, hc2⟩ := HG.out.cell (t - s) (by omega)
          have hc := HW.out.cell hc
          have hc1 := HW.out.cell hc1
          have hc2 := HW.out.cell hc2
          have b1 := bf.out t htl
          have b2 := bf.out s hlt
          have b3 := bg.out (t - s) (by omega)
          have hfi := HFIT.out t htl s (by omega)
          have q1 : (0 : Int) ≤ (t : Int) := by omega
          have q2 : (t : Int) < (len : Int) := by omega
          have q3 : (0 : Int) ≤ (s : Int) := by omega
          have q4 : (s : Int) < (len : Int) := by omega
          have q6 : (0 : Int) ≤ (t : Int) - (s : Int) := by omega
          have q7 : (t : Int) - (s : Int) < (len : Int) := by omega
          have q8 : ((t : Int) - (s : Int)).toNat = t - s := by omega
          generalize fs.getD t 0 = u at *
          generalize fs.getD s 0 = u2 at *
          generalize gs.getD (t - s) 0 = v at *
          have q5 : IntKind.i64.wrap (u - u2) = u - u2 := IntWalk.i64_in _ (by omega)
          have q9 : IntKind.i64.wrap ((t : Int) - (s : Int)) = (t : Int) - (s : Int) := IntWalk.i64_in _ (by omega)
          go_wp2_with fail
          go_quiet (fail)
          clear q5 q9
          go_wp2_with fail
          go_roundw
          case rel => exact ⟨t + 1, by omega, by omega, by go_num, HW.out.more _⟩
          case measure => simp [intOf] <;> omega
        · go_wp2_with fail
          go_roundw
          case rel => exact ⟨s + 1, by omega, by go_num, HW.out⟩
          case measure => simp [intOf] <;> omega
    · go_wp2
      go_ret
      exact ⟨rfl, HW.out⟩
set_option maxHeartbeats 4000000 in
theorem mfits_no (a b : Option Addr) (len ca cb : Nat) (fs gs : List Int) (w : World) (hF : Ints w w.heap.size a len fs) (hG : Ints w w.heap.size b len gs) (h0 : bothE fs gs = 0) (hfit : ¬ Cv.Fits (gD fs) (gD gs) len) :
    Calls Tryd.prog 10 #[.slice a len ca, .slice b len cb] w fun e w' => e = .returned (.bool false) ∧ Drawn w w' := by
  obtain ⟨hf, hg, _⟩ := both_zero h0
  have hfl := hF.size
  have hroom := hf.few
  have hone := hf.some
  rw [hfl] at hroom hone
  have bf : Hid (∀ k, k < len → 0 ≤ fs.getD k 0 ∧ fs.getD k 0 ≤ 1000) := by show ∀ k, _; rw [← hfl]; exact hf.fits
  have bg : Hid (∀ k, k < len → 0 ≤ gs.getD k 0 ∧ gs.getD k 0 ≤ 1000) := by show ∀ k, _; rw [← hG.size]; exact hg.fits
  have HF := Lib.hid hF; clear hF
  have HG := Lib.hid hG; clear hG
  clear h0 hf hg hfl
  have HFIT : Hid (¬ ∀ t, t < len → ∀ s, s ≤ t → fs.getD t 0 - fs.getD s 0 ≤ gs.getD (t - s) 0) := hfit
  clear hfit
  go_enter Tryd.func10, Tryd.ntmps10
  go_wp2_with fail
  go_loopw [5] (fun v5 wr => ∃ s : Nat, s ≤ len ∧ v5 = .int .i64 s ∧ Drawn w wr ∧ Hid (∀ s', s' < s → ∀ t', s' ≤ t' → t' < len → fs.getD t' 0 - fs.getD s' 0 ≤ gs.getD (t' - s') 0)) (fun v5 _ => len - (intOf v5).toNat)
  case atStart => exact ⟨0, by omega, rfl, Drawn.refl _, fun s' h => by omega⟩
  case round =>
    obtain ⟨s, hs, rfl, hdw, HOLD⟩ := hrel
    have HW := Lib.hid hdw; clear hdw
    by_cases hlt : s < len
    · go_wp2_with fail
      go_loopw [6] (fun v6 wr => ∃ t : Nat, s ≤ t ∧ t ≤ len ∧ v6 = .int .i64 t ∧ Drawn w wr ∧ Hid (∀ t', s ≤ t' → t' < t → fs.getD t' 0 - fs.getD s 0 ≤ gs.getD (t' - s) 0)) (fun v6 _ => len - (intOf v6).toNat)
      case atStart => exact ⟨s, by omega, by omega, rfl, HW.out, fun t' h1 h2 => by omega⟩
      case round =>
        clear HW
        obtain ⟨t, hst, htn, rfl, hdw, HT⟩ := hrel
        have HW := Lib.hid hdw; clear hdw
        by_cases htl : t < len
        · obtain ⟨fb, fo, rfl, _, hc⟩ := HF.out.cell t htl
          obtain ⟨fb', fo', he, _, hc1⟩ := HF.out.cell s hlt
          simp only [Option.some.injEq, Addr.mk.injEq, and_true] at he
          obtain ⟨rfl, rfl⟩ := he
          obtain ⟨gb, go_, rfl, _, hc2⟩ := HG.out.cell (t - s) (by omega)
          have hc := HW.out.cell hc
          have hc1 := HW.out.cell hc1
          have hc2 := HW.out.cell hc2
          have b1 := bf.out t htl
          have b2 := bf.out s hlt
          have b3 := bg.out (t - s) (by omega)
          have q1 : (0 : Int) ≤ (t : Int) := by omega
          have q2 : (t : Int) < (len : Int) := by omega
          have q3 : (0 : Int) ≤ (s : Int) := by omega
          have q4 : (s : Int) < (len : Int) := by omega
          have q6 : (0 : Int) ≤ (t : Int) - (s : Int) := by omega
          have q7 : (t : Int) - (s : Int) < (len : Int) := by omega
          have q8 : ((t : Int) - (s : Int)).toNat = t - s := by omega
          by_cases hfi : fs.getD t 0 - fs.getD s 0 ≤ gs.getD (t - s) 0
          · have HT2 : Hid (∀ t', s ≤ t' → t' < t + 1 → fs.getD t' 0 - fs.getD s 0 ≤ gs.getD (t' - s) 0) := fun t' h1 h2 => by
              rcases Nat.lt_or_ge t' t with h' | h'
              · exact HT.out t' h1 h'
              · obtain rfl : t' = t := by omega
                exact hfi
            clear HT HOLD
            obtain ⟨u, hu⟩ : ∃ x, x = fs.getD t 0 := ⟨_, rfl⟩
            rw [← hu] at b1 hfi hc
            clear hu
            obtain ⟨u2, hu⟩ : ∃ x, x = fs.getD s 0 := ⟨_, rfl⟩
            rw [← hu] at b2 hfi hc1
            clear hu
            obtain ⟨v, hu⟩ : ∃ x, x = gs.getD (t - s) 0 := ⟨_, rfl⟩
            rw [← hu] at b3 hfi hc2
            clear hu
            have q5 : IntKind.i64.wrap (u - u2) = u - u2 := IntWalk.i64_in _ (by omega)
            have q9 : IntKind.i64.wrap ((t : Int) - (s : Int)) = (t : Int) - (s : Int) := IntWalk.i64_in _ (by omega)
            go_wp2_with fail
            go_quiet (fail)
            clear q5 q9
            go_wp2_with fail
            go_roundw
            case rel => exact ⟨t + 1, by omega, by omega, by go_num, HW.out.more _, HT2⟩
            case measure => simp [intOf] <;> omega
          · have hfi2 : gs.getD (t - s) 0 < fs.getD t 0 - fs.getD s 0 := by omega
            clear hfi
            obtain ⟨u, hu⟩ : ∃ x, x = fs.getD t 0 := ⟨_, rfl⟩
            rw [← hu] at b1 hfi2 hc
            clear hu
            obtain ⟨u2, hu⟩ : ∃ x, x = fs.getD s 0 := ⟨_, rfl⟩
            rw [← hu] at b2 hfi2 hc1
            clear hu
            obtain ⟨v, hu⟩ : ∃ x, x = gs.getD (t - s) 0 := ⟨_, rfl⟩
            rw [← hu] at b3 hfi2 hc2
            clear hu
            have q5 : IntKind.i64.wrap (u - u2) = u - u2 := IntWalk.i64_in _ (by omega)
            have q9 : IntKind.i64.wrap ((t : Int) - (s : Int)) = (t : Int) - (s : Int) := IntWalk.i64_in _ (by omega)
            go_wp2_with fail
            go_quiet (fail)
            clear q5 q9
            go_wp2_with fail
            go_ret
            exact ⟨rfl, HW.out.more _⟩
        · have HOLD2 : Hid (∀ s', s' < s + 1 → ∀ t', s' ≤ t' → t' < len → fs.getD t' 0 - fs.getD s' 0 ≤ gs.getD (t' - s') 0) := fun s' h t' h1 h2 => by
            rcases Nat.lt_or_ge s' s with h3 | h3
            · exact HOLD.out s' h3 t' h1 h2
            · obtain rfl : s' = s := by omega
              exact HT.out t' h1 (by omega)
          go_wp2_with fail
          go_roundw
          case rel => exact ⟨s + 1, by omega, by go_num, HW.out, HOLD2⟩
          case measure => simp [intOf] <;> omega
    · exfalso
      exact HFIT.out fun t' h s' h' => HOLD.out s' (by omega) t' h' h
end Go.Proofs.YtikdpjedlbkkjaaDoor
