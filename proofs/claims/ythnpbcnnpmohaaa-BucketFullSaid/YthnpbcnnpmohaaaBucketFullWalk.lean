/- BucketFull returns true for every input: the walk. -/
import Derived.Test.YthnpbcnnpmohaaaBuckF
namespace Go.Proofs.Ythnpbcnnpmohaaa.bucketFull
open Go.RowKit
set_option linter.unusedSimpArgs false
set_option linter.unusedVariables false

set_option maxHeartbeats 8000000 in
set_option maxRecDepth 100000 in
theorem walk (r d : Int) (a : Option Addr) (len cap : Nat) (A : Nat → Option Addr) (L C : Nat → Nat) (Z : Nat → List Int) (w : World) (hr : -9223372036854775808 ≤ r ∧ r ≤ 9223372036854775807) (hd : -9223372036854775808 ≤ d ∧ d ≤ 9223372036854775807) (hI : Grid w w.heap.size a len A L C Z) :
    Calls Try.prog 8 #[.int .i64 r, .int .i64 d, .slice a len cap] w fun e w' => e = .returned (.bool true) ∧ Below w.heap.size w w' := by
  have hroom := hI.room
  have HI := Lib.hid hI; clear hI
  by_cases hv : (0 ≤ r ∧ r ≤ 20) ∧ (0 ≤ d ∧ d ≤ 100)
  · obtain ⟨⟨r0, r1⟩, d0, d1⟩ := hv
    clear hr hd
    go_enter Try.func8, Try.ntmps8
    go_wp2_with fail
    refine (bfact_any _).mono ?_
    rintro e w1 ⟨rfl, hb1⟩
    have B1 := Lib.hid hb1; clear hb1
    go_wp2_with fail
    refine (bnew_yes _ _ _ r0 r1 d0 d1).mono ?_
    rintro e w2 ⟨rfl, ho, hg⟩
    have H2 := Lib.hid ho; clear ho
    have B2 : Hid (Below w.heap.size w w2) := B1.out.trans ((below_new hg).mono B1.out.size)
    clear hg
    have hsz := B1.out.size
    generalize hb : w1.heap.size = b at *
    clear hb B1
    go_wp2_with fail
    go_loopw [10] (fun v10 wr => ∃ (k : Nat) (h l : Int), k ≤ len ∧ k ≤ 60 ∧ v10 = .int .i64 k ∧ BkOk r d h l ∧ Buck wr b r d h l ∧ Below w.heap.size w wr)
      (fun v10 _ => len - (intOf v10).toNat)
    case atStart => exact ⟨0, d, 0, Nat.zero_le _, Nat.zero_le _, rfl, ⟨r0, r1, d0, d1, d0, by omega, by omega, by omega⟩, H2.out, B2.out⟩
    case round =>
      clear H2 B2
      obtain ⟨k, h, l, hk, hk60, rfl, hok, hT, hB⟩ := hrel
      have HB := Lib.hid hB; clear hB
      have HT := Lib.hid hT; clear hT
      have HO := Lib.hid hok; clear hok
      by_cases hlt : k < len ∧ k < 60
      · obtain ⟨hl1, hl2⟩ := hlt
        obtain ⟨gb, goff, rfl, hgb, hgc⟩ := HI.out.cell k hl1
        have hrow := HI.out.row k hl1
        have hcx := (HB.out.cell (p := ⟨gb, goff + k, none⟩) hgb).trans hgc
        have HG := Lib.hid hgc; clear hgc
        generalize A k = ak at *
        generalize L k = lk at *
        generalize C k = ck at *
        generalize Z k = zk at *
        by_cases h2 : lk = 2
        · subst h2
          obtain ⟨ib, ioff, rfl, hib, hi0⟩ := hrow.cell 0 (by omega)
          obtain ⟨ib', ioff', he, hib', hi1⟩ := hrow.cell 1 (by omega)
          simp only [Option.some.injEq, Addr.mk.injEq, and_true] at he
          obtain ⟨rfl, rfl⟩ := he
          have fi0 := hrow.fits 0
          have fi1 := hrow.fits 1
          have hc0 := (HB.out.cell (p := ⟨ib, ioff, none⟩) hib).trans hi0
          have hc1 := (HB.out.cell (p := ⟨ib, ioff + 1, none⟩) hib).trans hi1
          have HI0 := Lib.hid hi0; clear hi0
          have HI1 := Lib.hid hi1; clear hi1
          clear hrow
          generalize zk.getD 0 0 = at_ at *
          generalize zk.getD 1 0 = n at *
          by_cases hv : (0 ≤ at_ ∧ at_ ≤ 1000) ∧ (0 ≤ n ∧ n ≤ 100)
          · obtain ⟨⟨v0, v1⟩, v2, v3⟩ := hv
            by_cases hla : l ≤ at_
            · obtain ⟨fl0, fl1⟩ := fill_ok HO.out hla v1
              by_cases hn : n ≤ fillB r d h l at_
              · have C : Hid (∀ w', Buck w' b r d h l → Calls Try.prog 22 #[.pointer (some ⟨b, 0, none⟩), .int .i64 at_, .int .i64 n] w' fun e w'' => e = .returned (.tuple #[.bool true, .nilIface]) ∧ Buck w'' b r d (fillB r d h l at_ - n) at_ ∧ w'.grownBy w'' (some b)) :=
                  fun w' ho => btake_yes b r d h l at_ n w' ho HO.out v0 v1 v2 v3 hla hn
                have hO2 : BkOk r d (fillB r d h l at_ - n) at_ := ⟨HO.out.r0, HO.out.r1, HO.out.d0, HO.out.d1, by omega, by omega, v0, v1⟩
                have HO2 := Lib.hid hO2; clear hO2
                have q1 := HO2.out.h0
                have q2 := HO2.out.h1
                obtain ⟨h2, hh2⟩ : ∃ h2, h2 = fillB r d h l at_ - n := ⟨_, rfl⟩
                rw [← hh2] at C HO2 q1 q2
                clear hh2 hn fl0 fl1
                go_wp2_with fail
                go_region_held3 (fun w' => w'.cell? ⟨gb, goff + k, none⟩ = some (.slice (some ⟨ib, ioff, none⟩) 2 ck) ∧ w'.cell? ⟨ib, ioff, none⟩ = some (.int .i64 at_) ∧ w'.cell? ⟨ib, ioff + 1, none⟩ = some (.int .i64 n)) (first | go_keep | exact ⟨hy, hy0, hy1⟩) ((first | (go_at_call 22; refine (C.out _ (Buck.drew HT.out)).mono ?_; rintro e w3 ⟨rfl, ho, hg⟩; have HT' := Lib.hid ho; clear ho; have HB' : Hid (Below w.heap.size w w3) := HB.out.drew.trans (below_grown hg hsz (Buck.drew HT.out).lt); have hy := (HB'.out.cell (p := ⟨gb, goff + k, none⟩) hgb).trans HG.out; have hy0 := (HB'.out.cell (p := ⟨ib, ioff, none⟩) hib).trans HI0.out; have hy1 := (HB'.out.cell (p := ⟨ib, ioff + 1, none⟩) hib).trans HI1.out; clear hg)))
                clear hcx hc0 hc1
                go_wp2_with fail
                refine (has_any _ _ _ _ _ _ HT'.out).mono ?_
                rintro e w4 ⟨rfl, nd, rfl⟩
                go_wp2_with fail
                refine (in_in _ _ _ _ q1 q2).mono ?_
                rintro e w' ⟨rfl, rfl⟩
                go_wp2
                go_roundw
                case rel => exact ⟨k + 1, _, _, by omega, by omega, by go_num, HO2.out, HT'.out, below_drewN HB'.out _⟩
                case measure => simp [intOf]; omega
              · have hn2 : fillB r d h l at_ < n := by omega
                clear hn
                have C : Hid (∀ w', Buck w' b r d h l → Calls Try.prog 22 #[.pointer (some ⟨b, 0, none⟩), .int .i64 at_, .int .i64 n] w' fun e w'' => e = .returned (.tuple #[.bool false, .nilIface]) ∧ Buck w'' b r d (fillB r d h l at_) at_ ∧ w'.grownBy w'' (some b)) :=
                  fun w' ho => btake_short b r d h l at_ n w' ho HO.out v0 v1 v2 v3 hla hn2
                have hO2 : BkOk r d (fillB r d h l at_) at_ := ⟨HO.out.r0, HO.out.r1, HO.out.d0, HO.out.d1, by omega, by omega, v0, v1⟩
                have HO2 := Lib.hid hO2; clear hO2
                have q1 := HO2.out.h0
                have q2 := HO2.out.h1
                obtain ⟨h2, hh2⟩ : ∃ h2, h2 = fillB r d h l at_ := ⟨_, rfl⟩
                rw [← hh2] at C HO2 q1 q2 hn2
                clear hh2 fl0 fl1
                go_wp2_with fail
                go_region_held3 (fun w' => w'.cell? ⟨gb, goff + k, none⟩ = some (.slice (some ⟨ib, ioff, none⟩) 2 ck) ∧ w'.cell? ⟨ib, ioff, none⟩ = some (.int .i64 at_) ∧ w'.cell? ⟨ib, ioff + 1, none⟩ = some (.int .i64 n)) (first | go_keep | exact ⟨hy, hy0, hy1⟩) ((first | (go_at_call 22; refine (C.out _ (Buck.drew HT.out)).mono ?_; rintro e w3 ⟨rfl, ho, hg⟩; have HT' := Lib.hid ho; clear ho; have HB' : Hid (Below w.heap.size w w3) := HB.out.drew.trans (below_grown hg hsz (Buck.drew HT.out).lt); have hy := (HB'.out.cell (p := ⟨gb, goff + k, none⟩) hgb).trans HG.out; have hy0 := (HB'.out.cell (p := ⟨ib, ioff, none⟩) hib).trans HI0.out; have hy1 := (HB'.out.cell (p := ⟨ib, ioff + 1, none⟩) hib).trans HI1.out; clear hg)))
                clear hcx hc0 hc1
                go_wp2_with fail
                refine (has_any _ _ _ _ _ _ HT'.out).mono ?_
                rintro e w4 ⟨rfl, nd, rfl⟩
                go_wp2_with fail
                refine (in_in _ _ _ _ q1 q2).mono ?_
                rintro e w' ⟨rfl, rfl⟩
                go_wp2
                go_roundw
                case rel => exact ⟨k + 1, _, _, by omega, by omega, by go_num, HO2.out, HT'.out, below_drewN HB'.out _⟩
                case measure => simp [intOf]; omega
            · have hla2 : at_ < l := by omega
              clear hla
              have C : Hid (∀ w', Buck w' b r d h l → Calls Try.prog 22 #[.pointer (some ⟨b, 0, none⟩), .int .i64 at_, .int .i64 n] w' fun e w'' => e = .returned (.tuple #[.bool false, errV 7]) ∧ Buck w'' b r d h l ∧ w'.grownBy w'' (some b)) :=
                fun w' ho => (btake_state b r d h l at_ n w' ho v0 v1 v2 v3 hla2).mono fun e w'' ⟨h1, h2⟩ => ⟨h1, by subst h2; exact ho, by subst h2; exact grown_refl _ _⟩
              have hO2 : BkOk r d h l := HO.out
              have HO2 := Lib.hid hO2; clear hO2
              have q1 := HO2.out.h0
              have q2 := HO2.out.h1
              skip
              go_wp2_with fail
              go_region_held3 (fun w' => w'.cell? ⟨gb, goff + k, none⟩ = some (.slice (some ⟨ib, ioff, none⟩) 2 ck) ∧ w'.cell? ⟨ib, ioff, none⟩ = some (.int .i64 at_) ∧ w'.cell? ⟨ib, ioff + 1, none⟩ = some (.int .i64 n)) (first | go_keep | exact ⟨hy, hy0, hy1⟩) ((first | (go_at_call 22; refine (C.out _ (Buck.drew HT.out)).mono ?_; rintro e w3 ⟨rfl, ho, hg⟩; have HT' := Lib.hid ho; clear ho; have HB' : Hid (Below w.heap.size w w3) := HB.out.drew.trans (below_grown hg hsz (Buck.drew HT.out).lt); have hy := (HB'.out.cell (p := ⟨gb, goff + k, none⟩) hgb).trans HG.out; have hy0 := (HB'.out.cell (p := ⟨ib, ioff, none⟩) hib).trans HI0.out; have hy1 := (HB'.out.cell (p := ⟨ib, ioff + 1, none⟩) hib).trans HI1.out; clear hg)))
              clear hcx hc0 hc1
              go_wp2_with fail
              refine (has_any _ _ _ _ _ _ HT'.out).mono ?_
              rintro e w4 ⟨rfl, nd, rfl⟩
              go_wp2_with fail
              refine (in_in _ _ _ _ q1 q2).mono ?_
              rintro e w' ⟨rfl, rfl⟩
              go_wp2
              go_roundw
              case rel => exact ⟨k + 1, _, _, by omega, by omega, by go_num, HO2.out, HT'.out, below_drewN HB'.out _⟩
              case measure => simp [intOf]; omega
          · have HV := Lib.hid (show (at_ < 0 ∨ 1000 < at_) ∨ (n < 0 ∨ 100 < n) by omega)
            clear hv
            have C : Hid (∀ w', Buck w' b r d h l → Calls Try.prog 22 #[.pointer (some ⟨b, 0, none⟩), .int .i64 at_, .int .i64 n] w' fun e w'' => e = .returned (.tuple #[.bool false, errV 1]) ∧ Buck w'' b r d h l ∧ w'.grownBy w'' (some b)) :=
              fun w' ho => (btake_no b at_ n w' HV.out).mono fun e w'' ⟨h1, h2⟩ => ⟨h1, by subst h2; exact ho, by subst h2; exact grown_refl _ _⟩
            have hO2 : BkOk r d h l := HO.out
            have HO2 := Lib.hid hO2; clear hO2
            have q1 := HO2.out.h0
            have q2 := HO2.out.h1
            skip
            go_wp2_with fail
            go_region_held3 (fun w' => w'.cell? ⟨gb, goff + k, none⟩ = some (.slice (some ⟨ib, ioff, none⟩) 2 ck) ∧ w'.cell? ⟨ib, ioff, none⟩ = some (.int .i64 at_) ∧ w'.cell? ⟨ib, ioff + 1, none⟩ = some (.int .i64 n)) (first | go_keep | exact ⟨hy, hy0, hy1⟩) ((first | (go_at_call 22; refine (C.out _ (Buck.drew HT.out)).mono ?_; rintro e w3 ⟨rfl, ho, hg⟩; have HT' := Lib.hid ho; clear ho; have HB' : Hid (Below w.heap.size w w3) := HB.out.drew.trans (below_grown hg hsz (Buck.drew HT.out).lt); have hy := (HB'.out.cell (p := ⟨gb, goff + k, none⟩) hgb).trans HG.out; have hy0 := (HB'.out.cell (p := ⟨ib, ioff, none⟩) hib).trans HI0.out; have hy1 := (HB'.out.cell (p := ⟨ib, ioff + 1, none⟩) hib).trans HI1.out; clear hg)))
            clear hcx hc0 hc1
            go_wp2_with fail
            refine (has_any _ _ _ _ _ _ HT'.out).mono ?_
            rintro e w4 ⟨rfl, nd, rfl⟩
            go_wp2_with fail
            refine (in_in _ _ _ _ q1 q2).mono ?_
            rintro e w' ⟨rfl, rfl⟩
            go_wp2
            go_roundw
            case rel => exact ⟨k + 1, _, _, by omega, by omega, by go_num, HO2.out, HT'.out, below_drewN HB'.out _⟩
            case measure => simp [intOf]; omega
        · have hx : lk < 2 ∨ 2 < lk := by omega
          clear h2 hrow
          rcases hx with hx | hx
          all_goals
            go_wp2_with fail
            go_roundw
            case rel => exact ⟨k + 1, h, l, by omega, by omega, by go_num, HO.out, HT.out, HB.out⟩
            case measure => simp [intOf]; omega
      · have hex : len ≤ k ∨ (k < len ∧ 60 ≤ k) := by omega
        clear hlt
        have l0 := HO.out.l0
        have l1 := HO.out.l1
        rcases (show r = 0 ∨ (1 ≤ r ∧ 900 < l) ∨ (1 ≤ r ∧ l ≤ 900) by omega) with hz | ⟨hz, hz2⟩ | ⟨hz, hz2⟩
        · subst hz
          rcases hex with hex | ⟨hex, hex2⟩
          all_goals
            go_wp2_with fail
            refine (has_any _ _ _ _ _ _ HT.out).mono ?_
            rintro e w4 ⟨rfl, nd, rfl⟩
            go_wp2
            go_ret
            exact ⟨rfl, below_drewN HB.out _⟩
        · rcases hex with hex | ⟨hex, hex2⟩
          all_goals
            go_wp2_with fail
            refine (has_any _ _ _ _ _ _ HT.out).mono ?_
            rintro e w4 ⟨rfl, nd, rfl⟩
            go_wp2
            go_ret
            exact ⟨rfl, below_drewN HB.out _⟩
        · have C : Hid (∀ w', Buck w' b r d h l → Calls Try.prog 22 #[.pointer (some ⟨b, 0, none⟩), .int .i64 (l + 100), .int .i64 d] w' fun e w'' => e = .returned (.tuple #[.bool true, .nilIface]) ∧ Buck w'' b r d 0 (l + 100) ∧ w'.grownBy w'' (some b)) := fun w' ho => by
            have hf : fillB r d h l (l + 100) = d := by
              unfold fillB
              have := HO.out.h0
              rw [show l + 100 - l = 100 from by omega]
              omega
            have := btake_yes b r d h l (l + 100) d w' ho HO.out (by omega) (by omega) d0 d1 (by omega) (by rw [hf]; exact Int.le_refl _)
            rw [hf, show d - d = 0 from by omega] at this
            exact this
          have hb1 : (r == 0) = false := by simp; omega
          have hb2 : decide (900 < l) = false := by simp; omega
          rcases hex with hex | ⟨hex, hex2⟩
          all_goals
            go_wp2_with fail
            refine (has_any _ _ _ _ _ _ HT.out).mono ?_
            rintro e w4 ⟨rfl, nd, rfl⟩
            go_wp2_with fail
            refine (C.out _ (Buck.drewN HT.out nd)).mono ?_
            rintro e w5 ⟨rfl, ho, hg⟩
            have HT' := Lib.hid ho; clear ho
            have HB' : Hid (Below w.heap.size w w5) := (below_drewN HB.out nd).trans (below_grown hg hsz HT.out.lt)
            clear hg
            go_wp2_with fail
            refine (has_any _ _ _ _ _ _ HT'.out).mono ?_
            rintro e w6 ⟨rfl, nd2, rfl⟩
            go_wp2
            go_ret
            exact ⟨by simp, below_drewN HB'.out _⟩
  · have H := Lib.hid (show (r < 0 ∨ 20 < r) ∨ (d < 0 ∨ 100 < d) by omega)
    clear hv
    go_enter Try.func8, Try.ntmps8
    go_wp2_with fail
    refine (bfact_any _).mono ?_
    rintro e w1 ⟨rfl, hb1⟩
    have B1 := Lib.hid hb1; clear hb1
    go_wp2_with fail
    refine (bnew_no _ _ _ H.out).mono ?_
    rintro e w' ⟨rfl, rfl⟩
    by_cases hr2 : 0 ≤ r ∧ r ≤ 20
    · have HV := Lib.hid (show d < 0 ∨ 100 < d by have := H.out; omega)
      obtain ⟨r0, r1⟩ := hr2
      go_wp2_with fail
      refine (in_in _ _ _ _ r0 r1).mono ?_
      rintro e w' ⟨rfl, rfl⟩
      go_wp2_with fail
      refine (in_out _ _ _ _ HV.out).mono ?_
      rintro e w' ⟨rfl, rfl⟩
      go_wp2
      go_ret
      exact ⟨rfl, B1.out⟩
    · have HV := Lib.hid (show r < 0 ∨ 20 < r by omega)
      clear hr2
      go_wp2_with fail
      refine (in_out _ _ _ _ HV.out).mono ?_
      rintro e w' ⟨rfl, rfl⟩
      go_wp2
      go_ret
      exact ⟨rfl, B1.out⟩
end Go.Proofs.Ythnpbcnnpmohaaa.bucketFull
