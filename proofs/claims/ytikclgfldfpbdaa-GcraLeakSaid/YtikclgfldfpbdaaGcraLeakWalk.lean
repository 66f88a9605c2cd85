/- GcraLeak returns true for every input: the walk. -/
import Derived.Test.YtikclgfldfpbdaaGcraF
import Derived.Test.YtikclgfldfpbdaaGcraPlain2
namespace Go.Proofs.Ytikclgfldfpbdaa.gcraLeak
open Go.RowKit
set_option linter.unusedSimpArgs false
set_option linter.unusedVariables false

set_option maxHeartbeats 8000000 in
set_option maxRecDepth 100000 in
theorem walk (st sl : Int) (a : Option Addr) (len cap : Nat) (ts : List Int) (w : World) (hst : -9223372036854775808 ≤ st ∧ st ≤ 9223372036854775807) (hsl : -9223372036854775808 ≤ sl ∧ sl ≤ 9223372036854775807) (hI : Ints w w.heap.size a len ts) :
    Calls Try.prog 3 #[.int .i64 st, .int .i64 sl, .slice a len cap] w fun e w' => e = .returned (.bool true) ∧ Below w.heap.size w w' := by
  have hroom := hI.room
  have hlz := Lib.hid hI.size
  have HI := Lib.hid hI; clear hI
  go_enter Try.func3, Try.ntmps3
  go_wp2_with fail
  refine (gfact_any _).mono ?_
  rintro e w1 ⟨rfl, hb1⟩
  have B1 := Lib.hid hb1; clear hb1
  have I1 := Lib.hid (HI.out.later B1.out)
  have CL := Lib.hid (leak_any st sl a len cap ts w1 I1.out)
  by_cases hE : leakE st sl ts = 0
  · have HE := Lib.hid hE; clear hE
    obtain ⟨s0, s1, l0, l1, hl2, htm⟩ := leak_zero HE.out
    have HTM := Lib.hid htm; clear htm
    have hlen : len ≤ 200 := by rw [hlz.out] at hl2; exact hl2
    clear hl2
    have HOUT := Lib.hid (lk_out (st := st) (sl := sl) HTM.out s0 l0)
    have HAT := Lib.hid (lk_at (st := st) (sl := sl) HTM.out s0 l0)
    go_wp2_with fail
    refine CL.out.mono ?_
    clear CL
    rintro e w2 ⟨he, _⟩
    obtain ⟨ga, gc, he2, hgi, hol, hB⟩ := he HE.out
    clear he
    rw [hol, hlz.out] at hgi he2
    subst he2
    have HG := Lib.hid hgi; clear hgi
    have BB := Lib.hid hB
    have B2 : Hid (Below w.heap.size w w2) := B1.out.trans (hB.mono B1.out.size)
    clear hB hol
    have I2 := Lib.hid (I1.out.later BB.out)
    have HGB := Lib.hid (gn_bound (st := st) (sl := sl) HTM.out ⟨s0, s1⟩ ⟨l0, l1⟩)
    have hsz2 := B2.out.size
    go_wp2_with fail
    refine (gnew_yes _ _ _ s0 s1 l0 l1).mono ?_
    rintro e w3 ⟨rfl, ho, hg⟩
    have H3 := Lib.hid ho; clear ho
    have B3 : Hid (Below w2.heap.size w2 w3) := below_new hg
    clear hg
    generalize hb : w2.heap.size = b at *
    have hsz : b ≤ b := Nat.le_refl _
    clear hb
    generalize hbs : (lkRun st sl ts).out = bs at *
    clear hbs
    go_wp2_with fail
    go_loopw [12] (fun v12 wr => ∃ i : Nat, i ≤ len ∧ v12 = .int .i64 i ∧ Gat wr b st sl (gnRun st sl (ts.take i)) (lkRun st sl (ts.take i)).last ∧ Below b w2 wr) (fun v12 _ => len - (intOf v12).toNat)
    case atStart => exact ⟨0, by omega, rfl, H3.out, B3.out⟩
    case round =>
      clear H3 B3
      obtain ⟨i, hi, rfl, hT, hB⟩ := hrel
      have HT := Lib.hid hT; clear hT
      have HB := Lib.hid hB; clear hB
      by_cases hlt : i < len
      · obtain ⟨tb, toff, rfl, htb, hti⟩ := I2.out.cell i hlt
        obtain ⟨lb, loff, rfl, hlb, hli⟩ := HG.out.cell i hlt
        have hcx := (HB.out.cell (p := ⟨tb, toff + i, none⟩) htb).trans hti
        have HLI := Lib.hid hli; clear hli hti
        obtain ⟨a1, a2, a3⟩ := HAT.out i (by rw [hlz.out]; omega)
        rw [drop_cons_int ts i (by rw [hlz.out]; exact hlt)] at a2
        obtain ⟨t0, t1, t2, _⟩ := tm_cons a2
        have hob := HOUT.out i (by rw [hlz.out]; exact hlt)
        have hgb := HGB.out i (by rw [hlz.out]; omega)
        have hgs := gn_succ st sl ts i (by rw [hlz.out]; exact hlt)
        have hls : (lkRun st sl (ts.take (i + 1))).last = ts.getD i 0 := by
          rw [take_succ_int ts i (by rw [hlz.out]; exact hlt), lk_snoc]
          exact (lk_gn (st := st) a1 t2 s0 l0).2.2.1
        have HLS := Lib.hid hls; clear hls a1 a2 a3
        generalize ts.getD i 0 = t at *
        generalize (lkRun st sl (ts.take i)).last = la at *
        generalize gnRun st sl (ts.take i) = nx at *
        unfold gnStep at hgs
        have HGS := Lib.hid hgs; clear hgs
        by_cases hc : nx - sl ≤ t
        · rw [decide_eq_true hc] at hob
          have HOB := Lib.hid hob; clear hob
          go_wp2_with fail
          refine (gcome_yes _ _ _ _ _ _ _ HT.out t0 t1 t2 ⟨s0, s1⟩ ⟨l0, l1⟩ ⟨hgb.1, by omega⟩ hc).mono ?_
          rintro e w4 ⟨rfl, ho, hg⟩
          have HT4 : Hid (Gat w4 b st sl (gnRun st sl (ts.take (i + 1))) (lkRun st sl (ts.take (i + 1))).last) := by
            rw [HGS.out, if_pos hc, HLS.out]; exact ho
          have HB4 : Hid (Below b w2 w4) := HB.out.trans (below_grown hg hsz HT.out.lt)
          clear ho hg
          have hl4 := (HB4.out.cell (p := ⟨lb, loff + i, none⟩) hlb).trans HLI.out
          rw [HOB.out] at hl4
          go_wp2_with fail
          go_roundw
          case rel => exact ⟨i + 1, by omega, by go_num, HT4.out, HB4.out⟩
          case measure => simp [intOf]; omega
        · rw [decide_eq_false hc] at hob
          have HOB := Lib.hid hob; clear hob
          have hc2 : t < nx - sl := by omega
          go_wp2_with fail
          refine (gcome_wait _ _ _ _ _ _ _ HT.out t0 t1 t2 ⟨l0, l1⟩ ⟨hgb.1, by omega⟩ hc2).mono ?_
          rintro e w4 ⟨rfl, ho, hg⟩
          have HT4 : Hid (Gat w4 b st sl (gnRun st sl (ts.take (i + 1))) (lkRun st sl (ts.take (i + 1))).last) := by
            rw [HGS.out, if_neg (by omega), HLS.out]; exact ho
          have HB4 : Hid (Below b w2 w4) := HB.out.trans (below_grown hg hsz HT.out.lt)
          clear ho hg
          have hl4 := (HB4.out.cell (p := ⟨lb, loff + i, none⟩) hlb).trans HLI.out
          rw [HOB.out] at hl4
          skip
          go_wp2_with fail
          go_roundw
          case rel => exact ⟨i + 1, by omega, by go_num, HT4.out, HB4.out⟩
          case measure => simp [intOf]; omega
      · go_wp2_with fail
        go_ret
        exact ⟨rfl, B2.out.trans (HB.out.mono hsz2)⟩
  · have HE := Lib.hid hE; clear hE
    go_wp2_with fail
    refine CL.out.mono ?_
    clear CL
    rintro e w2 ⟨_, he⟩
    obtain ⟨he2, hB⟩ := he HE.out
    clear he
    subst he2
    have B2 : Hid (Below w.heap.size w w2) := B1.out.trans (hB.mono B1.out.size)
    clear hB
    by_cases hv : (1 ≤ st ∧ st ≤ 20) ∧ (0 ≤ sl ∧ sl ≤ 100)
    · obtain ⟨⟨s0, s1⟩, l0, l1⟩ := hv
      generalize leakE st sl ts = n at *
      go_wp2_with fail
      refine (gnew_yes _ _ _ s0 s1 l0 l1).mono ?_
      rintro e w3 ⟨rfl, ho, hg⟩
      have B3 := Lib.hid (below_new hg)
      clear ho hg
      go_wp2
      go_ret
      exact ⟨rfl, B2.out.trans (B3.out.mono B2.out.size)⟩
    · have HV := Lib.hid (show (st < 1 ∨ 20 < st) ∨ (sl < 0 ∨ 100 < sl) by omega)
      clear hv
      generalize leakE st sl ts = n at *
      go_wp2_with fail
      refine (gnew_no _ _ _ HV.out).mono ?_
      rintro e w' ⟨rfl, rfl⟩
      go_wp2
      go_ret
      exact ⟨rfl, B2.out⟩
end Go.Proofs.Ytikclgfldfpbdaa.gcraLeak
