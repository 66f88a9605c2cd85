/- CurveDelay returns true for every input: the walk. -/
import Derived.Test.YtikdpjedlbkkjaaCurveL
namespace Go.Proofs.Ytikdpjedlbkkjaa.curveDelay
open Go.RowKit
set_option linter.unusedSimpArgs false
set_option linter.unusedVariables false

set_option maxHeartbeats 8000000 in
set_option maxRecDepth 100000 in
theorem walk (aF : Option Addr) (lF cF : Nat) (fs : List Int) (aL : Option Addr) (lL cL : Nat) (ls : List Int) (aS : Option Addr) (lS cS : Nat) (ss : List Int) (w : World) (hF : Ints w w.heap.size aF lF fs) (hL : Ints w w.heap.size aL lL ls) (hS : Ints w w.heap.size aS lS ss) (hcap : lS ≤ cS) :
    Calls Try.prog 6 #[.slice aF lF cF, .slice aL lL cL, .slice aS lS cS] w fun e w' => e = .returned (.bool true) ∧ Below w.heap.size w w' := by
  have HF := Lib.hid hF; clear hF
  have HL := Lib.hid hL; clear hL
  have HS := Lib.hid hS; clear hS
  go_enter Try.func6, Try.ntmps6
  go_wp2_with fail
  refine (cfact_any _).mono ?_
  rintro e w1 ⟨rfl, hb1⟩
  have B1 := Lib.hid hb1; clear hb1
  have F1 := Lib.hid (HF.out.later B1.out)
  have L1 := Lib.hid (HL.out.later B1.out)
  have S1 := Lib.hid (HS.out.later B1.out)
  by_cases h1 : bothE fs ls = 0
  · obtain ⟨kf, kl, hll⟩ := both_zero h1
    rw [HF.out.size, HL.out.size] at hll
    subst hll
    by_cases h2 : bothE fs ss = 0
    · obtain ⟨_, ks, hll⟩ := both_zero h2
      rw [HF.out.size, HS.out.size] at hll
      subst hll
      have h4 : bothE ls ss = 0 := both_mk kl ks (by rw [HL.out.size, HS.out.size])
      have hlen : lF ≤ 16 := by rw [← HF.out.size]; exact kf.few
      have H4 := Lib.hid h4; clear h4
      by_cases hfit : Cv.Fits (gD fs) (gD ls) lF
      · go_wp2_with fail
        refine ((fits_yes aF aL lF cF cL fs ls _ _ w1 F1.out L1.out h1 hfit)).mono ?_
        rintro e w2 ⟨rfl, hd⟩
        have hdb : Below w1.heap.size w1 w2 := Drawn.below hd
        have B2 : Hid (Below w.heap.size w w2) := B1.out.trans (hdb.mono B1.out.size)
        have F2 := Lib.hid (F1.out.later hdb)
        have L2 := Lib.hid (L1.out.later hdb)
        have S2 := Lib.hid (S1.out.later hdb)
        clear hd hdb
        go_wp2_with fail
        refine (fold_yes aF aS lF cF cS fs ss w2 F2.out S2.out h2).mono ?_
        rintro e w3 ⟨g, c, rfl, hgi, hB⟩
        have G3 := Lib.hid hgi
        have B3 : Hid (Below w.heap.size w w3) := B2.out.trans (hB.mono B2.out.size)
        have F3 := Lib.hid (F2.out.later hB)
        have L3 := Lib.hid (L2.out.later hB)
        have S3 := Lib.hid (S2.out.later hB)
        clear hgi hB
        go_wp2_with fail
        refine (delay_yes aL aS lF cL cS ls ss w3 L3.out S3.out hcap H4.out).mono ?_
        rintro e w4 ⟨hB, hp⟩
        have B4 : Hid (Below w.heap.size w w4) := B3.out.trans (hB.mono B3.out.size)
        have G4 := Lib.hid (G3.out.later hB)
        have F4 := Lib.hid (F3.out.later hB)
        clear hB
        rcases hp with ⟨_, rfl⟩ | ⟨m, hm, rfl⟩
        · go_wp2_with fail
          go_ret
          exact ⟨rfl, B4.out⟩
        · have hmm := Cv.dlN_le lF m (Nat.le_refl _) hm
          have hmono := kf.mono
          have hmono2 := ks.mono
          have hpos := ks.fits
          rw [HF.out.size] at hmono
          rw [HS.out.size] at hmono2 hpos
          have HLAW : Hid (∀ t, t + m < lF → fs.getD t 0 ≤ (foldL fs ss lF).getD (t + m) 0) := fun t ht => by
            rw [foldL_at fs ss lF (t + m) ht]
            exact Cv.delay_le hfit hmono hmono2 (fun k hk => (hpos k hk).1) hm t ht
          clear hm hmono hmono2 hpos hfit h1 h2 kf kl ks
          go_wp2_with fail
          go_loopw [14] (fun v14 wr => ∃ t : Nat, t ≤ lF ∧ v14 = .int .i64 t ∧ Drawn w4 wr) (fun v14 _ => lF - (intOf v14).toNat)
          case atStart => exact ⟨0, by omega, rfl, Drawn.refl _⟩
          case round =>
            obtain ⟨t, ht, rfl, hdw⟩ := hrel
            have HW := Lib.hid hdw; clear hdw
            by_cases hlt : t + m < lF
            · obtain ⟨fb, fo, rfl, _, hc⟩ := F4.out.cell t (by omega)
              obtain ⟨gb, go_, he, _, hc2⟩ := G4.out.cell (t + m) hlt
              simp only [Option.some.injEq, Addr.mk.injEq, and_true] at he
              obtain ⟨rfl, rfl⟩ := he
              have hc := HW.out.cell hc
              have hc2 := HW.out.cell hc2
              have hle := HLAW.out t hlt
              rw [Nat.zero_add] at hc2
              generalize fs.getD t 0 = x at *
              generalize (foldL fs ss lF).getD (t + m) 0 = y at *
              have q1 : (0 : Int) ≤ (t : Int) := by omega
              have q2 : (t : Int) < (lF : Int) := by omega
              have q3 : (0 : Int) ≤ (t : Int) + (m : Int) := by omega
              have q4 : (t : Int) + (m : Int) < (lF : Int) := by omega
              have q5 : ((t : Int) + (m : Int)).toNat = t + m := by omega
              have q6 : IntKind.i64.wrap ((t : Int) + (m : Int)) = (t : Int) + (m : Int) := IntWalk.i64_in _ (by omega)
              go_wp2_with fail
              go_quiet (fail)
              clear q6
              go_wp2_with fail
              go_roundw
              case rel => exact ⟨t + 1, by omega, by go_num, HW.out.more _⟩
              case measure => simp [intOf] <;> omega
            · have hge : (lF : Int) ≤ (t : Int) + (m : Int) := by omega
              clear hlt
              go_wp2_with fail
              go_ret
              exact ⟨rfl, B4.out.trans HW.out.below⟩
      · go_wp2_with fail
        refine ((fits_no aF aL lF cF cL fs ls _ _ w1 F1.out L1.out h1 hfit)).mono ?_
        rintro e w2 ⟨rfl, hd⟩
        have hdb : Below w1.heap.size w1 w2 := Drawn.below hd
        have B2 : Hid (Below w.heap.size w w2) := B1.out.trans (hdb.mono B1.out.size)
        have F2 := Lib.hid (F1.out.later hdb)
        have L2 := Lib.hid (L1.out.later hdb)
        have S2 := Lib.hid (S1.out.later hdb)
        clear hd hdb
        go_wp2_with fail
        refine (fold_yes aF aS lF cF cS fs ss w2 F2.out S2.out h2).mono ?_
        rintro e w3 ⟨g, c, rfl, hgi, hB⟩
        have G3 := Lib.hid hgi
        have B3 : Hid (Below w.heap.size w w3) := B2.out.trans (hB.mono B2.out.size)
        have F3 := Lib.hid (F2.out.later hB)
        have L3 := Lib.hid (L2.out.later hB)
        have S3 := Lib.hid (S2.out.later hB)
        clear hgi hB
        go_wp2_with fail
        refine (delay_yes aL aS lF cL cS ls ss w3 L3.out S3.out hcap H4.out).mono ?_
        rintro e w4 ⟨hB, hp⟩
        have B4 : Hid (Below w.heap.size w w4) := B3.out.trans (hB.mono B3.out.size)
        clear hB
        rcases hp with ⟨_, rfl⟩ | ⟨m, hm, rfl⟩
        all_goals
          go_wp2_with fail
          go_ret
          exact ⟨rfl, B4.out⟩
    · by_cases hfit : Cv.Fits (gD fs) (gD ls) lF
      · go_wp2_with fail
        refine ((fits_yes aF aL lF cF cL fs ls _ _ w1 F1.out L1.out h1 hfit)).mono ?_
        rintro e w2 ⟨rfl, hd⟩
        have hdb : Below w1.heap.size w1 w2 := Drawn.below hd
        have B2 : Hid (Below w.heap.size w w2) := B1.out.trans (hdb.mono B1.out.size)
        have F2 := Lib.hid (F1.out.later hdb)
        have L2 := Lib.hid (L1.out.later hdb)
        have S2 := Lib.hid (S1.out.later hdb)
        clear hd hdb

        have hE := Lib.hid (fold_no aF aS lF cF lS cS fs ss _ _ w2 F2.out S2.out h2)
        clear h2
        generalize bothE fs ss = n at *
        go_wp2_with fail
        refine hE.out.mono ?_
        rintro e w3 ⟨rfl, hd⟩
        have B3 : Hid (Below w.heap.size w w3) := B2.out.trans (Drawn.below hd)
        have hdb : Below w2.heap.size w2 w3 := Drawn.below hd
        have L3 := Lib.hid (L2.out.later hdb)
        have S3 := Lib.hid (S2.out.later hdb)
        clear hd hdb
        go_wp2_with fail
        refine (delay_some aL aS lF cL lS cS ls ss w3 L3.out S3.out hcap).mono ?_
        rintro e w4 ⟨v, ev, rfl, hB⟩
        have B4 : Hid (Below w.heap.size w w4) := B3.out.trans (hB.mono B3.out.size)
        clear hB
        go_wp2_with fail
        go_ret
        exact ⟨rfl, B4.out⟩
      · go_wp2_with fail
        refine ((fits_no aF aL lF cF cL fs ls _ _ w1 F1.out L1.out h1 hfit)).mono ?_
        rintro e w2 ⟨rfl, hd⟩
        have hdb : Below w1.heap.size w1 w2 := Drawn.below hd
        have B2 : Hid (Below w.heap.size w w2) := B1.out.trans (hdb.mono B1.out.size)
        have F2 := Lib.hid (F1.out.later hdb)
        have L2 := Lib.hid (L1.out.later hdb)
        have S2 := Lib.hid (S1.out.later hdb)
        clear hd hdb

        have hE := Lib.hid (fold_no aF aS lF cF lS cS fs ss _ _ w2 F2.out S2.out h2)
        clear h2
        generalize bothE fs ss = n at *
        go_wp2_with fail
        refine hE.out.mono ?_
        rintro e w3 ⟨rfl, hd⟩
        have B3 : Hid (Below w.heap.size w w3) := B2.out.trans (Drawn.below hd)
        have hdb : Below w2.heap.size w2 w3 := Drawn.below hd
        have L3 := Lib.hid (L2.out.later hdb)
        have S3 := Lib.hid (S2.out.later hdb)
        clear hd hdb
        go_wp2_with fail
        refine (delay_some aL aS lF cL lS cS ls ss w3 L3.out S3.out hcap).mono ?_
        rintro e w4 ⟨v, ev, rfl, hB⟩
        have B4 : Hid (Below w.heap.size w w4) := B3.out.trans (hB.mono B3.out.size)
        clear hB
        go_wp2_with fail
        go_ret
        exact ⟨rfl, B4.out⟩
  · have hE := Lib.hid (fits_bad aF aL lF cF lL cL fs ls _ _ w1 F1.out L1.out h1)
    clear h1
    generalize bothE fs ls = n at *
    go_wp2_with fail
    refine hE.out.mono ?_
    rintro e w2 ⟨rfl, hd⟩
    have hdb : Below w1.heap.size w1 w2 := Drawn.below hd
    have B2 : Hid (Below w.heap.size w w2) := B1.out.trans (hdb.mono B1.out.size)
    have F2 := Lib.hid (F1.out.later hdb)
    have L2 := Lib.hid (L1.out.later hdb)
    have S2 := Lib.hid (S1.out.later hdb)
    clear hd hdb
    go_wp2_with fail
    refine (fold_some aF aS lF cF lS cS fs ss w2 F2.out S2.out).mono ?_
    rintro e w3 ⟨v, ev, rfl, hB⟩
    have B3 : Hid (Below w.heap.size w w3) := B2.out.trans (hB.mono B2.out.size)
    have L3 := Lib.hid (L2.out.later hB)
    have S3 := Lib.hid (S2.out.later hB)
    clear hB
    go_wp2_with fail
    refine (delay_some aL aS lL cL lS cS ls ss w3 L3.out S3.out hcap).mono ?_
    rintro e w4 ⟨v2, ev2, rfl, hB⟩
    have B4 : Hid (Below w.heap.size w w4) := B3.out.trans (hB.mono B3.out.size)
    clear hB
    go_wp2_with fail
    go_ret
    exact ⟨rfl, B4.out⟩
end Go.Proofs.Ytikdpjedlbkkjaa.curveDelay
