/- The reference's Leak. -/
import Derived.Test.YtikclgfldfpbdaaDoorGcraM
import Derived.Test.YtikclgfldfpbdaaDoorGcraPlain2
import Derived.Test.YtikclgfldfpbdaaDoorCel
import Derived.Test.YtikclgfldfpbdaaDoorMIn
import Derived.Test.YtikclgfldfpbdaaDoorMMost
namespace Go.Proofs.YtikclgfldfpbdaaDoor
open Go.RowKit
set_option linter.unusedSimpArgs false
set_option linter.unusedVariables false

def outM (st sl : Int) (ts : List Int) : List Bool := if leakE st sl ts = 0 then (lkRun st sl ts).out else []
theorem outM_bad {st sl : Int} {ts : List Int} {n : Int} (h : leakE st sl ts = n) (hn : n ≠ 0) : outM st sl ts = [] := if_neg (by omega)
def MLeakPost (st sl : Int) (ts : List Int) (w : World) (e : Ending) (w' : World) : Prop :=
  ∃ a c, e = .returned (.tuple #[.slice a (outM st sl ts).length c, .int .i64 (leakE st sl ts)]) ∧ Bools w' w'.heap.size a (outM st sl ts).length (outM st sl ts) ∧ Below w.heap.size w w'
theorem mleak_bad {st sl : Int} {ts : List Int} {w w' : World} {n : Int} (h : leakE st sl ts = n) (hn : n ≠ 0) (hB : Below w.heap.size w w') :
    MLeakPost st sl ts w (.returned (.tuple #[.slice none 0 0, .int .i64 n])) w' := by
  refine ⟨none, 0, ?_, ?_, hB⟩
  · rw [outM_bad h hn, h]; rfl
  · rw [outM_bad h hn]; exact ⟨rfl, by simp, by intro k hk; simp at hk⟩
/-- What is so far. -/
structure MLk (st sl : Int) (ts : List Int) (k : Nat) (s : LkS) (nx : Int) : Prop where
  run : s = lkRun st sl (ts.take k)
  lev : s.level = max 0 (nx - s.last)
  err : tmE 0 ts = tmE s.last (ts.drop k)
  nx0 : 0 ≤ nx
  nx1 : nx ≤ 1120
  l0 : 0 ≤ s.last
  l1 : s.last ≤ 1000
  len : s.out.length = k

set_option maxHeartbeats 4000000 in
set_option maxRecDepth 100000 in
theorem mleak_any (st sl : Int) (a : Option Addr) (len cap : Nat) (ts : List Int) (w : World) (hI : Ints w w.heap.size a len ts) :
    Calls Tryd.prog 5 #[.int .i64 st, .int .i64 sl, .slice a len cap] w (MLeakPost st sl ts w) := by
  have hroom := hI.room
  have hlz := Lib.hid hI.size
  have HI := Lib.hid hI; clear hI
  by_cases hv : (1 ≤ st ∧ st ≤ 20) ∧ (0 ≤ sl ∧ sl ≤ 100)
  · by_cases hl : len ≤ 200
    · have hE : Hid (leakE st sl ts = tmE 0 ts) := by
        show _ = _
        unfold leakE; rw [if_pos hv, if_neg (by rw [hlz.out]; omega)]
      have HV := Lib.hid hv
      obtain ⟨⟨s0, s1⟩, l0, l1⟩ := hv
      obtain ⟨i0, hi, hz0, hz1, hz2⟩ := info_parts info4
      go_enter Tryd.func5, Tryd.ntmps5
      go_wp2_with fail
      refine (min_in _ _ _ _ s0 s1).mono ?_
      rintro e w' ⟨rfl, rfl⟩
      go_wp2_with fail
      refine (min_in _ _ _ _ l0 l1).mono ?_
      rintro e w' ⟨rfl, rfl⟩
      go_wp2_with fail
      go_loopw [8, 9, 10, 11] (fun v8 v9 v10 v11 wr => ∃ (k : Nat) (s : LkS) (nx : Int), k ≤ len ∧ v11 = .int .i64 k ∧ v9 = .int .i64 nx ∧ v10 = .int .i64 s.last ∧ MLk st sl ts k s nx ∧ wr.ownsRow w.heap.size 4 1 v8 k (s.out.map Value.bool) ∧ Below w.heap.size w wr) (fun _ _ _ v11 _ => len - (intOf v11).toNat)
      case atStart => exact ⟨0, ⟨0, 0, []⟩, 0, by omega, rfl, rfl, rfl, ⟨rfl, rfl, rfl, by decide, by decide, by decide, by decide, rfl⟩, World.ownsRow_nil _ _ _ _, Below.refl _ _⟩
      case round =>
        obtain ⟨k, s, nx, hk, rfl, rfl, rfl, hin, hown, hB⟩ := hrel
        have HB := Lib.hid hB; clear hB
        have HOW := Lib.hid hown; clear hown
        have HIN := Lib.hid hin; clear hin
        have hsz := HB.out.size
        by_cases hlt : k < len
        · obtain ⟨b, off, rfl, hb, hc⟩ := HI.out.cell k hlt
          have hcx := (HB.out.cell (p := ⟨b, off + k, none⟩) hb).trans hc
          clear hc
          have hd := HIN.out.err
          rw [drop_cons_int ts k (by rw [hlz.out]; exact hlt)] at hd
          have HTD := Lib.hid hd; clear hd
          have hstep : lkRun st sl (ts.take (k + 1)) = lkStep st sl s (ts.getD k 0) := by
            rw [take_succ_int ts k (by rw [hlz.out]; exact hlt), lk_snoc, ← HIN.out.run]
          have HST := Lib.hid hstep; clear hstep
          have n0 := HIN.out.nx0
          have n1 := HIN.out.nx1
          have p0 := HIN.out.l0
          have p1 := HIN.out.l1
          have HLEN := Lib.hid HIN.out.len
          have HLEV := Lib.hid HIN.out.lev
          obtain ⟨lv, la, out⟩ := s
          simp only at p0 p1 HLEN HLEV HOW
          generalize ts.getD k 0 = t at *
          by_cases hr : 0 ≤ t ∧ t ≤ 1000
          · obtain ⟨r0, r1⟩ := hr
            by_cases hla : la ≤ t
            · have hT2 : tmE 0 ts = tmE t (ts.drop (k + 1)) := by
                have := HTD.out
                rw [show tmE la (t :: ts.drop (k + 1)) = tmE t (ts.drop (k + 1)) from by
                  show (if t < 0 ∨ 1000 < t then 1 else if t < la then 7 else tmE t (ts.drop (k + 1))) = _
                  rw [if_neg (by omega), if_neg (by omega)]] at this
                exact this
              obtain ⟨g1, g2, g3, g4⟩ := lk_gn (st := st) (s := ⟨lv, la, out⟩) (t := t) HLEV.out hla s0 l0
              have HNEW : Hid (MLk st sl ts (k + 1) (lkStep st sl ⟨lv, la, out⟩ t) (gnStep st sl nx t)) := by
                refine ⟨HST.out.symm, by rw [g2, g3], by rw [g3]; exact hT2, ?_, ?_, by rw [g3]; exact r0, by rw [g3]; exact r1, by rw [g4, List.length_append, HLEN.out]; rfl⟩
                · unfold gnStep; split <;> omega
                · unfold gnStep; split <;> omega
              have HLA := Lib.hid g3
              have HOU := Lib.hid g4
              clear hT2 HTD g1 g2 g3 g4 HIN HLEV
              by_cases hm : nx ≤ t + sl
              · have HG : Hid (gnStep st sl nx t = max nx t + st) := by
                  show _ = _
                  unfold gnStep; rw [if_pos (by omega)]; omega
                have hdec : decide (nx - sl ≤ t) = true := by simp; omega
                rw [hdec] at HOU
                have hmx : 0 ≤ max nx t ∧ max nx t ≤ 1120 := by omega
                clear hdec
                have hdt : decide (nx ≤ t + sl) = true := by simp; omega
                go_wp2_with (first | (go_at_call 20; refine (min_in _ _ _ _ r0 r1).mono ?_; rintro e w' ⟨rfl, rfl⟩) | (go_at_call 21; refine (most_any _ _ _).mono ?_; rintro e w' ⟨rfl, rfl⟩) | (at_builtin; refine wpList_append_lies _ rfl _ _ 23 rfl w.heap.size 4 i0 (.bool false) 1 1 Tryd.underlying23 hi hz0 hz1 hz2 rfl (by decide) _ _ _ rfl (HOW.out.alloc _) ⟨wr.heap.size, 0, none⟩ 1 1 [.bool _] rfl rfl (cell_one_new _ _ _) (by intro u hu; simp at hu; subst hu; rfl) (by decide) (by unfold maxLen; omega) (by omega) (by simp; omega) _ rfl ?_))
                intro g9 c9 w4 hown1 hgrow1 hat1 hlt1
                have HB2 : Hid (Below w.heap.size w w4) := (HB.out.alloc HB.out.size _).grown hgrow1 (by simp; omega) (fun kk hkk => (HOW.out.lt kk hkk).1)
                have HOW2 := Lib.hid hown1
                clear hown1 hgrow1 hat1 hlt1 hcx
                go_wp2_with fail
                go_roundw
                case rel => exact ⟨k + 1, lkStep st sl ⟨lv, la, out⟩ t, gnStep st sl nx t, by omega, by go_num, by rw [HG.out], by rw [HLA.out], HNEW.out, by rw [HOU.out]; simpa using HOW2.out, HB2.out⟩
                case measure => simp [intOf]; omega
              · have HG : Hid (gnStep st sl nx t = nx) := by
                  show _ = _
                  unfold gnStep; rw [if_neg (by omega)]
                have hdec : decide (nx - sl ≤ t) = false := by simp; omega
                rw [hdec] at HOU
                have hm2 : t + sl < nx := by omega
                clear hdec hm
                have hdt : decide (nx ≤ t + sl) = false := by simp; omega
                go_wp2_with (first | (go_at_call 20; refine (min_in _ _ _ _ r0 r1).mono ?_; rintro e w' ⟨rfl, rfl⟩) | (at_builtin; refine wpList_append_lies _ rfl _ _ 23 rfl w.heap.size 4 i0 (.bool false) 1 1 Tryd.underlying23 hi hz0 hz1 hz2 rfl (by decide) _ _ _ rfl (HOW.out.alloc _) ⟨wr.heap.size, 0, none⟩ 1 1 [.bool _] rfl rfl (cell_one_new _ _ _) (by intro u hu; simp at hu; subst hu; rfl) (by decide) (by unfold maxLen; omega) (by omega) (by simp; omega) _ rfl ?_))
                intro g9 c9 w4 hown1 hgrow1 hat1 hlt1
                have HB2 : Hid (Below w.heap.size w w4) := (HB.out.alloc HB.out.size _).grown hgrow1 (by simp; omega) (fun kk hkk => (HOW.out.lt kk hkk).1)
                have HOW2 := Lib.hid hown1
                clear hown1 hgrow1 hat1 hlt1 hcx
                go_wp2_with fail
                go_roundw
                case rel => exact ⟨k + 1, lkStep st sl ⟨lv, la, out⟩ t, gnStep st sl nx t, by omega, by go_num, by rw [HG.out], by rw [HLA.out], HNEW.out, by rw [HOU.out]; simpa using HOW2.out, HB2.out⟩
                case measure => simp [intOf]; omega
            · have hla2 : t < la := by omega
              clear hla
              have hE7 : Hid (leakE st sl ts = 7) := by
                show _ = _
                rw [hE.out, HTD.out]
                show (if t < 0 ∨ 1000 < t then 1 else if t < la then 7 else tmE t (ts.drop (k + 1))) = _
                rw [if_neg (by omega), if_pos hla2]
              go_wp2_with fail
              refine (min_in _ _ _ _ r0 r1).mono ?_
              rintro e w' ⟨rfl, rfl⟩
              go_wp2
              go_ret2
              exact mleak_bad hE7.out (by decide) HB.out
          · have HVR := Lib.hid (show t < 0 ∨ 1000 < t by omega)
            clear hr
            have hE1 : Hid (leakE st sl ts = 1) := by
              show _ = _
              rw [hE.out, HTD.out]
              show (if t < 0 ∨ 1000 < t then 1 else if t < la then 7 else tmE t (ts.drop (k + 1))) = _
              rw [if_pos HVR.out]
            go_wp2_with fail
            refine (min_out _ _ _ _ HVR.out).mono ?_
            rintro e w' ⟨rfl, rfl⟩
            go_wp2
            go_ret2
            exact mleak_bad hE1.out (by decide) HB.out
        · have hkk : k = len := by omega
          subst hkk
          have hall : ts.take k = ts := List.take_of_length_le (by rw [hlz.out]; exact Nat.le_refl _)
          have HX : Hid (lkRun st sl ts = s) := by show _ = _; rw [HIN.out.run, hall]
          have HE0 : Hid (leakE st sl ts = 0) := by
            show _ = _
            rw [hE.out, HIN.out.err, List.drop_of_length_le (by rw [hlz.out]; exact Nat.le_refl _)]
            rfl
          clear hall
          obtain ⟨ga, gc, hv2, hgi⟩ := bools_own HOW.out HIN.out.len
          subst hv2
          have HGI := Lib.hid hgi; clear hgi
          have HO : Hid (outM st sl ts = s.out) := by show _ = _; unfold outM; rw [if_pos HE0.out, HX.out]
          have HLN := Lib.hid HIN.out.len
          go_wp2_with fail
          go_ret2
          refine ⟨ga, gc, ?_, ?_, HB.out⟩
          · rw [HO.out, HLN.out, HE0.out]; rfl
          · rw [HO.out, HLN.out]; exact HGI.out
    · have hl2 : 200 < len := by omega
      clear hl
      have hE : Hid (leakE st sl ts = 4) := by
        show _ = _
        unfold leakE; rw [if_pos hv, if_pos (by rw [hlz.out]; omega)]
      obtain ⟨⟨s0, s1⟩, l0, l1⟩ := hv
      go_enter Tryd.func5, Tryd.ntmps5
      go_wp2_with fail
      refine (min_in _ _ _ _ s0 s1).mono ?_
      rintro e w' ⟨rfl, rfl⟩
      go_wp2_with fail
      refine (min_in _ _ _ _ l0 l1).mono ?_
      rintro e w' ⟨rfl, rfl⟩
      go_wp2
      go_ret2
      exact mleak_bad hE.out (by decide) (Below.refl _ _)
  · have hE : Hid (leakE st sl ts = 1) := by
      show _ = _
      unfold leakE; rw [if_neg hv]
    by_cases hs : 1 ≤ st ∧ st ≤ 20
    · obtain ⟨s0, s1⟩ := hs
      have HV := Lib.hid (show sl < 0 ∨ 100 < sl by omega)
      clear hv
      go_enter Tryd.func5, Tryd.ntmps5
      go_wp2_with fail
      refine (min_in _ _ _ _ s0 s1).mono ?_
      rintro e w' ⟨rfl, rfl⟩
      go_wp2_with fail
      refine (min_out _ _ _ _ HV.out).mono ?_
      rintro e w' ⟨rfl, rfl⟩
      go_wp2
      go_ret2
      exact mleak_bad hE.out (by decide) (Below.refl _ _)
    · have HV := Lib.hid (show st < 1 ∨ 20 < st by omega)
      clear hv hs
      go_enter Tryd.func5, Tryd.ntmps5
      go_wp2_with fail
      refine (min_out _ _ _ _ HV.out).mono ?_
      rintro e w' ⟨rfl, rfl⟩
      go_wp2
      go_ret2
      exact mleak_bad hE.out (by decide) (Below.refl _ _)
end Go.Proofs.YtikclgfldfpbdaaDoor
