/- CurveServed returns true for every input: the walk. -/
import Derived.Test.YtikdpjedlbkkjaaCurveL
namespace Go.Proofs.Ytikdpjedlbkkjaa.curveServed
open Go.RowKit
set_option linter.unusedSimpArgs false
set_option linter.unusedVariables false

set_option maxHeartbeats 8000000 in
set_option maxRecDepth 100000 in
theorem walk (aF : Option Addr) (lF cF : Nat) (fs : List Int) (aL : Option Addr) (lL cL : Nat) (ls : List Int) (aS : Option Addr) (lS cS : Nat) (ss : List Int) (w : World) (hF : Ints w w.heap.size aF lF fs) (hL : Ints w w.heap.size aL lL ls) (hS : Ints w w.heap.size aS lS ss) :
    Calls Try.prog 5 #[.slice aF lF cF, .slice aL lL cL, .slice aS lS cS] w fun e w' => e = .returned (.bool true) ∧ Below w.heap.size w w' := by
  have HF := Lib.hid hF; clear hF
  have HL := Lib.hid hL; clear hL
  have HS := Lib.hid hS; clear hS
  go_enter Try.func5, Try.ntmps5
  go_wp2_with fail
  refine (cfact_any _).mono ?_
  rintro e w1 ⟨rfl, hb1⟩
  have B1 := Lib.hid hb1; clear hb1
  have F1 := Lib.hid (HF.out.later B1.out)
  have L1 := Lib.hid (HL.out.later B1.out)
  have S1 := Lib.hid (HS.out.later B1.out)
  by_cases h1 : bothE fs ls = 0
  · obtain ⟨kf, kl, hll⟩ := both_zero h1
    rw [HF.out.size, HL.out.size] at hll
    subst hll
    by_cases hfit : Cv.Fits (gD fs) (gD ls) lF
    · by_cases h2 : bothE fs ss = 0
      · obtain ⟨_, ks, hll⟩ := both_zero h2
        rw [HF.out.size, HS.out.size] at hll
        subst hll
        have hone : 1 ≤ lF := by rw [← HF.out.size]; exact kf.some
        go_wp2_with fail
        refine ((fits_yes aF aL lF cF cL fs ls _ _ w1 F1.out L1.out h1 hfit)).mono ?_
        rintro e w2 ⟨rfl, hd⟩
        have hdb : Below w1.heap.size w1 w2 := Drawn.below hd
        have B2 : Hid (Below w.heap.size w w2) := B1.out.trans (hdb.mono B1.out.size)
        have F2 := Lib.hid (F1.out.later hdb)
        have L2 := Lib.hid (L1.out.later hdb)
        have S2 := Lib.hid (S1.out.later hdb)
        clear hd hdb
        go_wp2_with fail
        refine (fold_yes aF aS lF cF cS fs ss w2 F2.out S2.out h2).mono ?_
        rintro e w3 ⟨g, c, rfl, hgi, hB⟩
        have G3 := Lib.hid hgi
        have B3 : Hid (Below w.heap.size w w3) := B2.out.trans (hB.mono B2.out.size)
        have F3 := Lib.hid (F2.out.later hB)
        have L3 := Lib.hid (L2.out.later hB)
        have S3 := Lib.hid (S2.out.later hB)
        clear hgi hB
        have hfl := foldL_len fs ss lF
        have hK := Lib.hid (cvcheck_any (some ⟨g, 0, none⟩) lF c (foldL fs ss lF) _ w3 G3.out)
        by_cases h3 : cvE (foldL fs ss lF) = 0
        · rw [h3] at hK
          have e0 : cvErr 0 = .nilIface := rfl
          rw [e0] at hK
          clear e0
          have hle : Cv.bkN (gD fs) (gD (foldL fs ss lF)) lF ≤ Cv.bkN (gD ls) (gD ss) lF := by
            refine Cv.bkN_le (Cv.bkN_ge _ _ _).1 fun t ht => ?_
            have := Cv.served_le (s := gD ss) hfit t ht
            have h9 := foldL_at fs ss lF t ht
            unfold gD at this h9 ⊢
            rw [h9]; exact this
          have HK1 : Hid (bothE fs (foldL fs ss lF) = 0) := both_mk kf (cv_zero h3) (by rw [hfl, HF.out.size])
          have HK2 : Hid (bothE ls ss = 0) := both_mk kl ks (by rw [HL.out.size, HS.out.size])
          obtain ⟨sb, so, rfl, hsb, hsc⟩ := S3.out.cell 0 (by omega)
          have HBK := Lib.hid hle
          clear h3 hfl hfit h1 h2 kf kl ks hle
          by_cases hz : ss.getD 0 0 = 0
          · rw [hz] at hsc
            have hsc' : w3.cell? ⟨sb, so, none⟩ = some (.int .i64 0) := hsc
            clear hz hsc
            go_wp2_with fail
            refine hK.out.mono ?_
            rintro e w4 ⟨rfl, hd⟩
            have hdd : Drawn w3 w4 := hd
            have hdb : Below w3.heap.size w3 w4 := Drawn.below hdd
            have hs4 := hdd.cell hsc'
            have B4 : Hid (Below w.heap.size w w4) := B3.out.trans (hdb.mono B3.out.size)
            have G4 := Lib.hid (G3.out.later hdb)
            have F4 := Lib.hid (F3.out.later hdb)
            have L4 := Lib.hid (L3.out.later hdb)
            have S4 := Lib.hid (S3.out.later hdb)
            clear hd hdd hdb hsc' hK
            go_wp2_with fail
            refine (backlog_yes aF (some ⟨g, 0, none⟩) lF cF c fs (foldL fs ss lF) _ _ w4 F4.out G4.out HK1.out).mono ?_
            rintro e w5 ⟨rfl, hd⟩
            have hdb : Below w4.heap.size w4 w5 := Drawn.below hd
            have B5 : Hid (Below w.heap.size w w5) := B4.out.trans (hdb.mono B4.out.size)
            have L5 := Lib.hid (L4.out.later hdb)
            have S5 := Lib.hid (S4.out.later hdb)
            clear hd hdb hs4
            go_wp2_with fail
            refine (backlog_yes aL _ lF cL cS ls ss _ _ w5 L5.out S5.out HK2.out).mono ?_
            rintro e w6 ⟨rfl, hd⟩
            have B6 : Hid (Below w.heap.size w w6) := B5.out.trans (Drawn.below hd)
            clear hd
            have hle := HBK.out
            generalize Cv.bkN (gD fs) (gD (foldL fs ss lF)) lF = x at *
            generalize Cv.bkN (gD ls) (gD ss) lF = y at *
            go_wp2_with fail
            go_ret
            exact ⟨by simp [hle], B6.out⟩
          · have hzb : (ss.getD 0 0 != 0) = true := by simpa using hz
            have hsc' : w3.cell? ⟨sb, so, none⟩ = some (.int .i64 (ss.getD 0 0)) := hsc
            clear hz hsc
            generalize ss.getD 0 0 = z at hzb hsc'
            go_wp2_with fail
            refine hK.out.mono ?_
            rintro e w4 ⟨rfl, hd⟩
            have hdd : Drawn w3 w4 := hd
            have hs4 := hdd.cell hsc'
            have B4 : Hid (Below w.heap.size w w4) := B3.out.trans (Drawn.below hdd)
            clear hd hdd hsc' hK
            go_wp2_with fail
            go_ret
            exact ⟨rfl, B4.out⟩
        · rw [cv_bad h3] at hK
          clear h3 hfl hfit h1 h2
          generalize cvE (foldL fs ss lF) = n at *
          go_wp2_with fail
          refine hK.out.mono ?_
          rintro e w4 ⟨rfl, hd⟩
          have hdd : Drawn w3 w4 := hd
          have B4 : Hid (Below w.heap.size w w4) := B3.out.trans (Drawn.below hdd)
          clear hd hdd hK
          go_wp2_with fail
          go_ret
          exact ⟨rfl, B4.out⟩
      · go_wp2_with fail
        refine ((fits_yes aF aL lF cF cL fs ls _ _ w1 F1.out L1.out h1 hfit)).mono ?_
        rintro e w2 ⟨rfl, hd⟩
        have hdb : Below w1.heap.size w1 w2 := Drawn.below hd
        have B2 : Hid (Below w.heap.size w w2) := B1.out.trans (hdb.mono B1.out.size)
        have F2 := Lib.hid (F1.out.later hdb)
        have L2 := Lib.hid (L1.out.later hdb)
        have S2 := Lib.hid (S1.out.later hdb)
        clear hd hdb
        have hE := Lib.hid (fold_no aF aS lF cF lS cS fs ss _ _ w2 F2.out S2.out h2)
        clear h2
        generalize bothE fs ss = n at *
        go_wp2_with fail
        refine hE.out.mono ?_
        rintro e w3 ⟨rfl, hd⟩
        have B3 : Hid (Below w.heap.size w w3) := B2.out.trans (Drawn.below hd)
        clear hd
        go_wp2_with fail
        go_ret
        exact ⟨rfl, B3.out⟩
    · by_cases h2 : bothE fs ss = 0
      · obtain ⟨_, ks, hll⟩ := both_zero h2
        rw [HF.out.size, HS.out.size] at hll
        subst hll
        go_wp2_with fail
        refine ((fits_no aF aL lF cF cL fs ls _ _ w1 F1.out L1.out h1 hfit)).mono ?_
        rintro e w2 ⟨rfl, hd⟩
        have hdb : Below w1.heap.size w1 w2 := Drawn.below hd
        have B2 : Hid (Below w.heap.size w w2) := B1.out.trans (hdb.mono B1.out.size)
        have F2 := Lib.hid (F1.out.later hdb)
        have L2 := Lib.hid (L1.out.later hdb)
        have S2 := Lib.hid (S1.out.later hdb)
        clear hd hdb
        go_wp2_with fail
        refine (fold_yes aF aS lF cF cS fs ss w2 F2.out S2.out h2).mono ?_
        rintro e w3 ⟨g, c, rfl, hgi, hB⟩
        have G3 := Lib.hid hgi
        have B3 : Hid (Below w.heap.size w w3) := B2.out.trans (hB.mono B2.out.size)
        have F3 := Lib.hid (F2.out.later hB)
        have L3 := Lib.hid (L2.out.later hB)
        have S3 := Lib.hid (S2.out.later hB)
        clear hgi hB
        go_wp2_with fail
        go_ret
        exact ⟨rfl, B3.out⟩
      · go_wp2_with fail
        refine ((fits_no aF aL lF cF cL fs ls _ _ w1 F1.out L1.out h1 hfit)).mono ?_
        rintro e w2 ⟨rfl, hd⟩
        have hdb : Below w1.heap.size w1 w2 := Drawn.below hd
        have B2 : Hid (Below w.heap.size w w2) := B1.out.trans (hdb.mono B1.out.size)
        have F2 := Lib.hid (F1.out.later hdb)
        have L2 := Lib.hid (L1.out.later hdb)
        have S2 := Lib.hid (S1.out.later hdb)
        clear hd hdb
        have hE := Lib.hid (fold_no aF aS lF cF lS cS fs ss _ _ w2 F2.out S2.out h2)
        clear h2
        generalize bothE fs ss = n at *
        go_wp2_with fail
        refine hE.out.mono ?_
        rintro e w3 ⟨rfl, hd⟩
        have B3 : Hid (Below w.heap.size w w3) := B2.out.trans (Drawn.below hd)
        clear hd
        go_wp2_with fail
        go_ret
        exact ⟨rfl, B3.out⟩
  · have hE := Lib.hid (fits_bad aF aL lF cF lL cL fs ls _ _ w1 F1.out L1.out h1)
    clear h1
    generalize bothE fs ls = n at *
    go_wp2_with fail
    refine hE.out.mono ?_
    rintro e w2 ⟨rfl, hd⟩
    have hdb : Below w1.heap.size w1 w2 := Drawn.below hd
    have B2 : Hid (Below w.heap.size w w2) := B1.out.trans (hdb.mono B1.out.size)
    have F2 := Lib.hid (F1.out.later hdb)
    have S2 := Lib.hid (S1.out.later hdb)
    clear hd hdb
    go_wp2_with fail
    refine (fold_some aF aS lF cF lS cS fs ss w2 F2.out S2.out).mono ?_
    rintro e w3 ⟨v, ev, rfl, hB⟩
    have B3 : Hid (Below w.heap.size w w3) := B2.out.trans (hB.mono B2.out.size)
    clear hB
    go_wp2_with fail
    go_ret
    exact ⟨rfl, B3.out⟩
end Go.Proofs.Ytikdpjedlbkkjaa.curveServed
