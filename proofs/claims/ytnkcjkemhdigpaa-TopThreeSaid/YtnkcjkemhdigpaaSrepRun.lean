/- The contract of srep.Run: what is got, how much is known, as the plain function says. -/
import Derived.Test.YtnkcjkemhdigpaaSrepW
import Derived.Test.YtnkcjkemhdigpaaGbn
import Derived.Deep.DeepCutAuto
namespace Go.Proofs.Ytnkcjkemhdigpaa
open Go.RowKit Go.Maps
set_option linter.unusedSimpArgs false
set_option linter.unusedVariables false

theorem srun_no (a : Option Addr) (len cap : Nat) (win rnd : Int) (af : Option Addr) (lf cf : Nat) (zs : List Int) (B : Nat) (w : World) (hI : Ints w B a len zs) (he : aheadE zs lf win rnd ≠ 0) :
    Calls Try.prog 18 #[.slice a len cap, .int .i64 win, .int .i64 rnd, .slice af lf cf] w fun e w' => e = .returned (.tuple #[.slice none 0 0, .int .i64 0, errV (aheadE zs lf win rnd)]) ∧ w = w' := by
  have C := Lib.hid (fun w' h => gcheck_any a len cap win rnd af lf cf zs B w' h)
  have HI := Lib.hid hI; clear hI
  have hv : errOf (aheadE zs lf win rnd) = errV (aheadE zs lf win rnd) := by unfold errOf; rw [if_neg he]
  rw [hv] at C
  clear hv he
  generalize aheadE zs lf win rnd = n at *
  go_enter Try.func18, Try.ntmps18
  go_wp2_with fail
  refine (C.out _ HI.out).mono ?_
  rintro e w' ⟨rfl, rfl⟩
  go_wp2
  go_ret3
  exact ⟨rfl, rfl⟩

theorem info3b : (Try.prog.info? 4).map (fun i => (i.zero, i.size, i.bytes)) = some (some (.bool false), 1, 1) := by kernel_rfl
theorem take_succ_getD' (fs : List (Bool × Bool)) (k : Nat) (h : k < fs.length) : fs.take (k + 1) = fs.take k ++ [fs.getD k (false, false)] := by
  rw [List.take_succ_eq_append_getElem h]
  simp [List.getD_eq_getElem?_getD, h]
def lenOf : Value → Nat
  | .slice _ n _ => n
  | _ => 0
theorem stepOn_is {D : List Int} {W R : Nat} {s : Sr.St} {now : Nat} {q qq : List Nat} {f : Bool × Bool} {gs : List Int} {h : Nat → Option Int} {dn : List Bool} {kn : Nat} {b : Bool}
    (e1 : Sr.recv D W R s now f.1 = (gs, h)) (e2 : Sr.mark D.length W R s now (f.1 || f.2) = dn) (e3 : Sr.ahead D.length W s q dn (f.1 || f.2) = (kn, qq)) (e4 : dn.getD now false = b) :
    Sr.stepOn D W R s now q f = ⟨gs, kn, if b = true then qq else qq ++ [now], dn, h⟩ := by
  unfold Sr.stepOn
  simp only [e1, e2, e3, e4]
def FitP (x : Int) : Prop := -9223372036854775808 ≤ x ∧ x ≤ 9223372036854775807
theorem fit_got {zs : List Int} {W R : Nat} {fs : List (Bool × Bool)} (h : ∀ k, -9223372036854775808 ≤ zs.getD k 0 ∧ zs.getD k 0 ≤ 9223372036854775807) (k : Nat) :
    -9223372036854775808 ≤ (Sr.run zs W R fs).got.getD k 0 ∧ (Sr.run zs W R fs).got.getD k 0 ≤ 9223372036854775807 := by
  have hv := (Sr.run_vals (P := FitP) zs W R fs h).1
  simp only at hv
  rcases Nat.lt_or_ge k (Sr.run zs W R fs).got.length with h1 | h1
  · have := hv _ (List.getElem_mem h1)
    simpa [List.getD_eq_getElem?_getD, h1, FitP] using this
  · rw [List.getD_eq_getElem?_getD, List.getElem?_eq_none h1]; simp

set_option maxHeartbeats 16000000 in
set_option maxRecDepth 100000 in
theorem srun_yes (a : Option Addr) (len cap W R : Nat) (af : Option Addr) (lf cf : Nat) (zs : List Int) (fs : List (Bool × Bool)) (w : World) (hI : Ints w w.heap.size a len zs) (hF : Pairs w w.heap.size af lf fs) (he : aheadE zs lf W R = 0) (hW1 : 1 ≤ W) (hW2 : W ≤ 8) (hR1 : 2 ≤ R) (hR2 : R ≤ 16) (hl20 : len ≤ 20) (hl200 : lf ≤ 200) :
    Calls Try.prog 18 #[.slice a len cap, .int .i64 W, .int .i64 R, .slice af lf cf] w (GotPost w.heap.size (Sr.run zs W R fs).got (Sr.run zs W R fs).known w) := by
  have C := Lib.hid (fun w' h => gcheck_any a len cap W R af lf cf zs w.heap.size w' h)
  rw [he] at C
  clear he
  have hlz := Lib.hid hI.size
  have hlf := Lib.hid hF.size
  have HI := Lib.hid hI; clear hI
  have HF := Lib.hid hF; clear hF
  obtain ⟨i0, hi, hz0, hz1, hz2⟩ := info_parts infoQ
  obtain ⟨i1, hi', hz0', hz1', hz2'⟩ := info_parts info3b
  have hmm := @run_makeMap Try.prog
  obtain ⟨M, hM⟩ : ∃ M, M = min W len := ⟨_, rfl⟩
  have hM1 : M ≤ W := by omega
  have hM2 : M ≤ len := by omega
  go_enter Try.func18, Try.ntmps18
  go_wp2_with fail
  refine (C.out _ HI.out).mono ?_
  clear C
  rintro e w' ⟨he, rfl⟩
  have he2 : e = .returned .nilIface := he
  subst he2
  clear he
  go_wp2_with (first | (at_make; refine wpList_make_full _ rfl _ _ 42 rfl (w.heap.size + 1) 4 i1 (.bool false) 1 Try.underlying42 hi' hz0' hz1' .i64 .i64 _ _ len rfl rfl (by omega) (by omega) (by rw [hz2']; omega) (by unfold maxLen; omega) (by simp) ?_))
  intro w1 hown hgr
  have HS : Hid (SrS w w.heap.size (w.heap.size + 1) w1.heap.size (w1.heap.size + 1) (w1.alloc (.map #[] 0)) (.slice none 0 0) [] [] (List.replicate len false) (fun _ => none) 0 none (.map [])) := by
    have hq0 : Obj (w.alloc (.cells #[.slice none 0 0] 41 (0, 0))) w.heap.size 41 [.slice none 0 0] := Obj.new w [.slice none 0 0] _
    have hc0 : Cel w1 (w.heap.size + 1) 4 ((List.replicate len false).map .bool) := by
      have := (Cel.own hown).1
      simpa [toList_madeCells_one, List.map_replicate] using this
    have hl := hc0.lt
    exact ⟨Nat.le_refl _, by omega, by omega, by omega, by simp, ⟨none, 0, (hq0.kept hgr (by simp)).alloc _, .inl ⟨rfl, rfl, rfl, rfl⟩⟩, hc0.alloc _, World.ownsMap_made _ _ _ _, hm_empty, World.ownsRow_nil _ _ _ _, fun g e => by simp at e,
      ((((Below.refl _ _).alloc (Nat.le_refl _) _).grown hgr (by simp) (fun k e => by simp at e))).alloc (by omega) _⟩
  clear hown hgr
  obtain ⟨db, hdb⟩ : ∃ db, db = w.heap.size + 1 := ⟨_, rfl⟩
  obtain ⟨mb, hmb⟩ : ∃ mb, mb = w1.heap.size := ⟨_, rfl⟩
  obtain ⟨B, hBB⟩ : ∃ B, B = mb + 1 := ⟨_, rfl⟩
  obtain ⟨w2, hw2⟩ : ∃ w2, w2 = w1.alloc (.map #[] 0) := ⟨_, rfl⟩
  go_upto_region 7 with fail
  rw [← hdb, ← hmb, ← hw2]
  rw [← hdb, ← hmb, ← hw2, ← hBB] at HS
  clear hdb hmb hw2 hBB hmm
  have HM := Lib.hid hM; clear hM
  go_cut [43, 44] (fun v43 v44 wr => v43 = .int .i64 (M : Int) ∧ v44 = .int .i64 0 ∧ wr = w2)
  case first =>
    by_cases hWl : W ≤ len
    · obtain rfl : M = W := by have := HM.out; omega
      clear HM
      go_wp2_with fail
      go_meet
      case rel => exact ⟨rfl, rfl, rfl⟩
    · have hlw : len < W := by omega
      obtain rfl : M = len := by have := HM.out; omega
      clear HM hWl
      go_wp2_with fail
      go_meet
      case rel => exact ⟨rfl, rfl, rfl⟩
  case rest =>
    obtain ⟨rfl, rfl, rfl⟩ := hcut
    go_wp2_with fail
    go_loopw [44] (fun v44 wr => ∃ (j : Nat) (ar : Option Nat), j ≤ M ∧ v44 = .int .i64 j ∧ SrS w w.heap.size db mb B wr (.slice none 0 0) [] (List.range j) (List.replicate len false) (fun _ => none) 0 ar (.map [])) (fun v44 _ => M - (intOf v44).toNat)
    case atStart => exact ⟨0, none, by omega, rfl, HS.out⟩
    case round =>
      clear HS
      obtain ⟨j, ar, hj, rfl, hS⟩ := hrel
      have S := Lib.hid hS; clear hS
      by_cases hlt : j < M
      · have P := Lib.hid (push_any w.heap.size B j (List.range j) ar wr S.out.qu S.out.artb S.out.b5 (by simp; omega))
        go_wp2_with fail
        refine P.out.mono ?_
        clear P
        rintro e w5 ⟨rfl, ar', w4, hQ, hg, hg2, har⟩
        have S2 := Lib.hid (S.out.push hQ hg hg2 har)
        rw [← List.range_succ] at S2
        clear hQ hg hg2 har
        go_wp2_with fail
        go_roundw
        case rel => exact ⟨j + 1, ar', by omega, by go_num, S2.out⟩
        case measure => simp [intOf]; omega
      · obtain rfl : j = M := by omega
        clear hlt hj
        have S0 : Hid (SrS w w.heap.size db mb B wr (.slice none 0 ([] : List Int).length) (Sr.run zs W R (fs.take 0)).got (Sr.run zs W R (fs.take 0)).q (Sr.run zs W R (fs.take 0)).done (Sr.run zs W R (fs.take 0)).held 0 ar (.map [])) := by
          have := S.out
          simp only [List.take_zero, Sr.run, List.foldl_nil, Sr.start]
          rw [hlz.out, ← HM.out]; exact this
        clear S
        go_wp2_with fail
        go_loopw [8, 9, 52] (fun v8 v9 v52 wr => ∃ (k : Nat) (s : Sr.St) (ar : Option Nat) (D : DataW Unit) (ga : Option Addr) (gc nm : Nat), k ≤ lf ∧ nm ≤ k ∧ v52 = .int .i64 k ∧ v9 = .int .i64 s.known ∧ v8 = .slice ga s.got.length gc ∧ Hid (s = Sr.run zs W R (fs.take k)) ∧ SrS w w.heap.size db mb B wr (.slice ga s.got.length gc) s.got s.q s.done s.held nm ar D) (fun _ _ v52 _ => lf - (intOf v52).toNat)
        case atStart => exact ⟨0, _, ar, _, none, 0, 0, by omega, by omega, rfl, rfl, rfl, rfl, S0.out⟩
        case round =>
          clear S0
          obtain ⟨k, s, ar, D, ga, gc, nm, hk, hnm, rfl, rfl, rfl, HR, hS⟩ := hrel
          have S := Lib.hid hS; clear hS
          have hok := Sr.run_ok zs W R (fs.take k)
          have hql := Sr.run_ql zs W R (fs.take k)
          rw [← HR.out] at hok hql
          have hkl : (fs.take k).length = k := by rw [List.length_take, hlf.out]; omega
          rw [hkl, hlz.out] at hql
          rw [hkl, hlz.out] at hok
          obtain ⟨o1, o2, o3, o4, o5⟩ := hok
          have hkW : k * W ≤ 200 * 8 := Nat.mul_le_mul (by omega) hW2
          have hkn : k * len ≤ 200 * 20 := Nat.mul_le_mul (by omega) hl20
          have hg1 : s.got.length ≤ 1800 := by omega
          have hq1 : s.q.length ≤ 4020 := by omega
          clear o5 hql hkl hkW hkn
          have O2 := Lib.hid o2; clear o2
          have O3 := Lib.hid o3; clear o3
          have O4 := Lib.hid o4; clear o4
          by_cases hlt : k < lf
          · obtain ⟨fb, foff, rfl, hfb, hf1, hf2⟩ := HF.out.cell k hlt
            have g1 := (S.out.bl.cell (p := ⟨fb, foff + k * 2, none⟩) hfb).trans hf1
            have g2 := (S.out.bl.cell (p := ⟨fb, foff + k * 2 + 1, none⟩) hfb).trans hf2
            clear hf1 hf2
            have hstep : Sr.run zs W R (fs.take (k + 1)) = Sr.step zs W R s (fs.getD k (false, false)) := by
              rw [take_succ_getD' fs k (by rw [hlf.out]; exact hlt), Sr.run_snoc, ← HR.out]
            have HSP := Lib.hid hstep; clear hstep
            obtain ⟨t, bk, hfv⟩ : ∃ t bk, fs.getD k (false, false) = (t, bk) := ⟨_, _, rfl⟩
            rw [hfv] at g1 g2 HSP
            clear hfv
            obtain ⟨got, known, qs, done, held⟩ := s
            simp only at *
            rcases qs with _ | ⟨now, q⟩
            · have HX : Hid (Sr.run zs W R fs = ⟨got, known, [], done, held⟩) := by
                show Sr.run zs W R fs = _
                rw [Sr.run_split zs W R fs k, ← HR.out]
                exact Sr.run_stay _ _ rfl
              obtain ⟨ga2, gc2, hv, hgi⟩ := ints_own S.out.go rfl (by
                have := fit_got (W := W) (R := R) (fs := fs) HI.out.fits
                rw [HX.out] at this; exact this)
              have hv1 : ga = ga2 ∧ gc = gc2 := by simpa using hv
              obtain ⟨rfl, rfl⟩ := hv1
              clear hv
              have HBL := Lib.hid S.out.bl
              have HGI := Lib.hid hgi; clear hgi
              have P := Lib.hid (pop_none w.heap.size B ar _ (S.out.alloc (.cells #[.bool t, .bool bk] 32 (0, 0))).qu)
              clear S
              go_wp2_with fail
              refine P.out.mono ?_
              clear P g1 g2
              rintro e w' ⟨rfl, rfl⟩
              go_wp2_with fail
              go_ret3
              rw [HX.out]
              exact ⟨ga, gc, rfl, HGI.out.alloc _, HBL.out.alloc HBL.out.size _⟩
            · have hsp : Sr.run zs W R (fs.take (k + 1)) = Sr.stepOn zs W R ⟨got, known, now :: q, done, held⟩ now q (t, bk) := HSP.out
              have HSP := Lib.hid hsp; clear hsp
              have hnow : now < len := O2.out now (by simp)
              have P := Lib.hid (pop_some w.heap.size B now q ar _ (S.out.alloc (.cells #[.bool t, .bool bk] 32 (0, 0))).qu (S.out.alloc (.cells #[.bool t, .bool bk] 32 (0, 0))).artb)
              have hb5 := S.out.b5
              have hb1 := S.out.b2; have hb2 := S.out.b3; have hb3 := S.out.b4
              go_wp2_with fail
              refine P.out.mono ?_
              clear P g1 g2
              rintro e w5 ⟨rfl, hQ, hg⟩
              have S5 := Lib.hid ((S.out.alloc (.cells #[.bool t, .bool bk] 32 (0, 0))).pop hQ hg)
              have FO : Hid (Obj w5 wr.heap.size 32 [.bool t, .bool bk]) := (Obj.new wr [.bool t, .bool bk] 32).kept hg (by simp; omega)
              clear hQ hg hb5 hb1 hb2 hb3
              have x0 := FO.out.cell 0
              have x1 := FO.out.cell 1
              simp only [List.getElem?_cons_zero, List.getElem?_cons_succ] at x0 x1
              clear FO
              simp only [List.length_cons] at hq1
              generalize wr.heap.size = fblk at *
              obtain ⟨ls, hls⟩ : ∃ ls, ls = (t || bk) := ⟨_, rfl⟩
              have HLS := Lib.hid hls; clear hls
              obtain ⟨wp, hwp⟩ : ∃ wp : World, wp = w5 := ⟨_, rfl⟩
              subst hwp
              go_upto_region 17 with fail
              go_cut [20] (fun v20 wx => v20 = .bool ls ∧ wx = wp)
              case first =>
                have hls := HLS.out
                cases t <;> cases bk <;> simp only [Bool.or_true, Bool.or_false, Bool.true_or, Bool.false_or] at hls <;> subst hls
                all_goals
                  go_wp2_with fail
                  go_meet
                  case rel => exact ⟨rfl, rfl⟩
              case rest =>
                obtain ⟨rfl, rfl⟩ := hcut
                go_upto_if 70 with fail
                go_cut [8] (fun v8 wx => ∃ (gs : List Int) (hh : Nat → Option Int) (D2 : DataW Unit) (ga2 : Option Addr) (gc2 nm2 : Nat), nm2 ≤ k + 1 ∧ v8 = .slice ga2 gs.length gc2 ∧ Hid (Sr.recv zs W R ⟨got, known, now :: q, done, held⟩ now t = (gs, hh)) ∧ SrS w w.heap.size db mb B wx (.slice ga2 gs.length gc2) gs q done hh nm2 ar D2)
                case first =>
                  clear x0 x1 HLS
                  cases t
                  · have FD := Lib.hid (find_any got.length W (now % R) R ((now : Int) % (R : Int)) wc (by simp) (by omega) (by omega) (by omega))
                    rcases hf1 : Sr.find (now % R) R got.length W with _ | at1
                    · have HF1 := Lib.hid hf1; clear hf1
                      have EH : Hid (Sr.hold zs W R ⟨got, known, now :: q, done, held⟩ now = held) := by
                        show Sr.hold _ _ _ _ _ = _
                        unfold Sr.hold
                        show (match Sr.find (now % R) R got.length W with | none => held | some at_ => Sr.put held at_ (some (zs.getD now 0))) = _
                        rw [HF1.out]
                      rw [HF1.out] at FD
                      go_wp2_with fail
                      refine FD.out.mono ?_
                      clear FD
                      rintro e w' ⟨rfl, rfl⟩
                      have hhas := (S5.out.hm got.length).1
                      have hky : keyOf Try.prog 3 (.int .i64 (got.length : Int)) = some (ky got.length) := ky_of (by omega)
                      go_wp2_with (first | (at_lookup; go_loud (refine wpList_lookup_own_ok_int _ rfl _ _ 43 rfl 3 3 .i64 lawK Try.underlying43 Try.underlying3 (zeroK _) mb nm D rfl S5.out.mp _ _ rfl hky ?_)))
                      intro c hat hwc
                      have HCV : Hid (∀ v, held got.length = some v → c = v) := fun v hv => by
                        have := (S5.out.hm got.length).2 v hv
                        rw [hat] at this
                        simpa using this
                      have HBD : Hid (∀ i, held i ≠ none → i < got.length + W) := by
                        have := Sr.hold_held (D := zs) (W := W) (R := R) (s := ⟨got, known, now :: q, done, held⟩) (now := now) O4.out
                        rw [EH.out] at this
                        exact this
                      clear hky hat hwc
                      go_wp2_with fail
                      clear hhas
                      go_loopw [8, 23, 24] (fun v8 v23 v24 wx => ∃ (j : Nat) (gs : List Int) (hh : Nat → Option Int) (D2 : DataW Unit) (ga2 : Option Addr) (gc2 : Nat) (c : Int), gs.length ≤ got.length + j ∧ got.length + j ≤ gs.length ∧ j ≤ W ∧ v8 = .slice ga2 gs.length gc2 ∧ v23 = .int .i64 c ∧ v24 = .bool (hh gs.length).isSome ∧ Hid (∀ v, hh gs.length = some v → c = v) ∧ Hid (Sr.drain W (got, held) = Sr.drain (W - j) (gs, hh)) ∧ Hid (∀ i, hh i ≠ none → i < got.length + W) ∧ SrS w w.heap.size db mb B wx (.slice ga2 gs.length gc2) gs q done hh nm ar D2) (fun v8 _ _ _ => got.length + W - lenOf v8)
                      case atStart => exact ⟨0, got, _, _, ga, gc, c, by omega, by omega, by omega, rfl, rfl, rfl, HCV, rfl, HBD, S5.out⟩
                      case round =>
                        clear HCV HBD S5
                        obtain ⟨j, gs, hh, D2, ga2, gc2, c, hgl, hgl2, hjW, rfl, rfl, rfl, HCV, HDR, HBD, hS⟩ := hrel
                        have S2 := Lib.hid hS; clear hS
                        rcases hv : hh gs.length with _ | v
                        · have hv' : (hh gs.length).isSome = false := by rw [hv]; rfl
                          have ER : Hid (Sr.recv zs W R ⟨got, known, now :: q, done, held⟩ now false = (gs, hh)) := by
                            show Sr.recv _ _ _ _ _ _ = _
                            unfold Sr.recv
                            rw [if_neg (by simp)]
                            show Sr.drain W (got, Sr.hold zs W R ⟨got, known, now :: q, done, held⟩ now) = _
                            rw [EH.out, HDR.out, Sr.drain_none _ _ _ hv]
                          clear HCV HDR HBD hv
                          go_wp2_with fail
                          go_meet
                          case rel => exact ⟨gs, hh, D2, ga2, gc2, nm, by omega, rfl, ER, S2.out⟩
                        · have hv' : (hh gs.length).isSome = true := by rw [hv]; rfl
                          obtain rfl := HCV.out v hv
                          have hj : j < W := by have := HBD.out gs.length (by rw [hv]; simp); omega
                          have HDR2 : Hid (Sr.drain W (got, held) = Sr.drain (W - (j + 1)) (gs ++ [c], Sr.put hh gs.length none)) := by
                            show _ = _
                            rw [HDR.out, show W - j = (W - (j + 1)) + 1 from by omega, Sr.drain_some _ _ _ _ hv]
                          have HBD2 : Hid (∀ i, Sr.put hh gs.length none i ≠ none → i < got.length + W) := fun i hi => by
                            refine HBD.out i ?_
                            simp only [Sr.put] at hi
                            split at hi
                            · exact absurd rfl hi
                            · exact hi
                          clear HCV HDR HBD hv
                          have hky : keyOf Try.prog 3 (.int .i64 (gs.length : Int)) = some (ky gs.length) := ky_of (by omega)
                          go_wp2_with (first | (at_delete; go_loud (refine wpList_delete_own _ rfl _ _ 43 3 rfl 3 lawK Try.underlying43 _ mb nm D2 rfl S2.out.mp (.int .i64 (gs.length : Int)) (ky gs.length) (by simp [Act.eval]) hky ?_)))
                          intro w6 hM6 hturn
                          have S6 := Lib.hid (S2.out.drop gs.length hM6 hturn.grown)
                          clear hM6 hturn hky S2
                          go_wp2_with (first | (at_builtin; go_loud (refine wpList_append_lies _ rfl _ _ 22 rfl B 3 i0 (.int .i64 0) 1 8 Try.underlying22 hi hz0 hz1 hz2 rfl (by decide) _ _ _ rfl (S6.out.go.alloc _) ⟨w6.heap.size, 0, none⟩ 1 1 [.int .i64 c] rfl rfl (cell_one_new _ _ _) (by intro u hu; simp at hu; subst hu; rfl) (by decide) (by unfold maxLen; omega) (by omega) (by have := S6.out.b5; simp; omega) _ rfl ?_)))
                          intro g9 c9 w7 hown1 hgrow1 hat1 hlt1
                          have S7 := Lib.hid (S6.out.app c hown1 hgrow1 (by simpa using hat1))
                          clear hown1 hgrow1 hat1 hlt1 S6
                          have hhas := (S7.out.hm (gs.length + 1)).1
                          have hky : keyOf Try.prog 3 (.int .i64 ((gs.length : Int) + 1)) = some (ky (gs.length + 1)) := by
                            have := ky_of (i := gs.length + 1) (by omega)
                            simpa using this
                          go_wp2_with (first | (at_lookup; go_loud (refine wpList_lookup_own_ok_int _ rfl _ _ 43 rfl 3 3 .i64 lawK Try.underlying43 Try.underlying3 (zeroK _) mb nm _ rfl S7.out.mp _ _ rfl hky ?_)))
                          intro c2 hat2 hwc2
                          have HCV2 : Hid (∀ v, Sr.put hh gs.length none (gs.length + 1) = some v → c2 = v) := fun v hv => by
                            have := (S7.out.hm (gs.length + 1)).2 v hv
                            rw [hat2] at this
                            simpa using this
                          clear hky hat2 hwc2
                          go_wp2_with fail
                          clear hhas
                          go_roundw
                          case rel => exact ⟨j + 1, gs ++ [c], Sr.put hh gs.length none, _, some ⟨g9, 0, none⟩, c9, c2, by simp; omega, by simp; omega, by omega, by simp, rfl, by simp, by simpa using HCV2, HDR2, HBD2, by rw [show (gs ++ [c]).length = gs.length + 1 from by simp]; exact S7.out⟩
                          case measure => simp [lenOf]; omega
                    · have HF1 := Lib.hid hf1; clear hf1
                      have hb1 := (Sr.find_some _ _ _ HF1.out).2.1
                      obtain ⟨zb, zoff, rfl, hzb, hzc⟩ := HI.out.cell now hnow
                      have hcz := (S5.out.bl.cell (p := ⟨zb, zoff + now, none⟩) hzb).trans hzc
                      have hfz := HI.out.fits now
                      have EH : Hid (Sr.hold zs W R ⟨got, known, now :: q, done, held⟩ now = Sr.put held at1 (some (zs.getD now 0))) := by
                        show Sr.hold _ _ _ _ _ = _
                        unfold Sr.hold
                        show (match Sr.find (now % R) R got.length W with | none => held | some at_ => Sr.put held at_ (some (zs.getD now 0))) = _
                        rw [HF1.out]
                      rw [HF1.out] at FD
                      generalize zs.getD now 0 = z at *
                      have hky : keyOf Try.prog 3 (.int .i64 (at1 : Int)) = some (ky at1) := ky_of (by omega)
                      go_wp2_with fail
                      refine FD.out.mono ?_
                      clear FD
                      rintro e w' ⟨rfl, rfl⟩
                      go_wp2_with (first | (at_mapUpdate; go_loud (refine wpList_mapUpdate_own _ rfl _ _ _ 43 rfl 3 3 lawK Try.underlying43 _ mb nm D rfl S5.out.mp (by unfold maxLen; omega) _ _ _ rfl rfl hky (.lit (.int .i64 z)) [] (plainElem_int Try.underlying3 (WalkArith.wf_i64 (by omega))) ?_)))
                      intro w6 hM6 hg6
                      have S6 := Lib.hid (S5.out.store at1 z hM6 hg6)
                      clear hM6 hg6 hky hcz hzc hfz S5
                      have hhas := (S6.out.hm got.length).1
                      have hky : keyOf Try.prog 3 (.int .i64 (got.length : Int)) = some (ky got.length) := ky_of (by omega)
                      go_wp2_with (first | (at_lookup; go_loud (refine wpList_lookup_own_ok_int _ rfl _ _ 43 rfl 3 3 .i64 lawK Try.underlying43 Try.underlying3 (zeroK _) mb (nm + 1) _ rfl S6.out.mp _ _ rfl hky ?_)))
                      intro c hat hwc
                      have HCV : Hid (∀ v, (Sr.put held at1 (some z)) got.length = some v → c = v) := fun v hv => by
                        have := (S6.out.hm got.length).2 v hv
                        rw [hat] at this
                        simpa using this
                      have HBD : Hid (∀ i, (Sr.put held at1 (some z)) i ≠ none → i < got.length + W) := by
                        have := Sr.hold_held (D := zs) (W := W) (R := R) (s := ⟨got, known, now :: q, done, held⟩) (now := now) O4.out
                        rw [EH.out] at this
                        exact this
                      clear hky hat hwc
                      go_wp2_with fail
                      clear hhas
                      go_loopw [8, 23, 24] (fun v8 v23 v24 wx => ∃ (j : Nat) (gs : List Int) (hh : Nat → Option Int) (D2 : DataW Unit) (ga2 : Option Addr) (gc2 : Nat) (c : Int), gs.length ≤ got.length + j ∧ got.length + j ≤ gs.length ∧ j ≤ W ∧ v8 = .slice ga2 gs.length gc2 ∧ v23 = .int .i64 c ∧ v24 = .bool (hh gs.length).isSome ∧ Hid (∀ v, hh gs.length = some v → c = v) ∧ Hid (Sr.drain W (got, (Sr.put held at1 (some z))) = Sr.drain (W - j) (gs, hh)) ∧ Hid (∀ i, hh i ≠ none → i < got.length + W) ∧ SrS w w.heap.size db mb B wx (.slice ga2 gs.length gc2) gs q done hh (nm + 1) ar D2) (fun v8 _ _ _ => got.length + W - lenOf v8)
                      case atStart => exact ⟨0, got, _, _, ga, gc, c, by omega, by omega, by omega, rfl, rfl, rfl, HCV, rfl, HBD, S6.out⟩
                      case round =>
                        clear HCV HBD S6
                        obtain ⟨j, gs, hh, D2, ga2, gc2, c, hgl, hgl2, hjW, rfl, rfl, rfl, HCV, HDR, HBD, hS⟩ := hrel
                        have S2 := Lib.hid hS; clear hS
                        rcases hv : hh gs.length with _ | v
                        · have hv' : (hh gs.length).isSome = false := by rw [hv]; rfl
                          have ER : Hid (Sr.recv zs W R ⟨got, known, now :: q, done, held⟩ now false = (gs, hh)) := by
                            show Sr.recv _ _ _ _ _ _ = _
                            unfold Sr.recv
                            rw [if_neg (by simp)]
                            show Sr.drain W (got, Sr.hold zs W R ⟨got, known, now :: q, done, held⟩ now) = _
                            rw [EH.out, HDR.out, Sr.drain_none _ _ _ hv]
                          clear HCV HDR HBD hv
                          go_wp2_with fail
                          go_meet
                          case rel => exact ⟨gs, hh, D2, ga2, gc2, (nm + 1), by omega, rfl, ER, S2.out⟩
                        · have hv' : (hh gs.length).isSome = true := by rw [hv]; rfl
                          obtain rfl := HCV.out v hv
                          have hj : j < W := by have := HBD.out gs.length (by rw [hv]; simp); omega
                          have HDR2 : Hid (Sr.drain W (got, (Sr.put held at1 (some z))) = Sr.drain (W - (j + 1)) (gs ++ [c], Sr.put hh gs.length none)) := by
                            show _ = _
                            rw [HDR.out, show W - j = (W - (j + 1)) + 1 from by omega, Sr.drain_some _ _ _ _ hv]
                          have HBD2 : Hid (∀ i, Sr.put hh gs.length none i ≠ none → i < got.length + W) := fun i hi => by
                            refine HBD.out i ?_
                            simp only [Sr.put] at hi
                            split at hi
                            · exact absurd rfl hi
                            · exact hi
                          clear HCV HDR HBD hv
                          have hky : keyOf Try.prog 3 (.int .i64 (gs.length : Int)) = some (ky gs.length) := ky_of (by omega)
                          go_wp2_with (first | (at_delete; go_loud (refine wpList_delete_own _ rfl _ _ 43 3 rfl 3 lawK Try.underlying43 _ mb (nm + 1) D2 rfl S2.out.mp (.int .i64 (gs.length : Int)) (ky gs.length) (by simp [Act.eval]) hky ?_)))
                          intro w6 hM6 hturn
                          have S6 := Lib.hid (S2.out.drop gs.length hM6 hturn.grown)
                          clear hM6 hturn hky S2
                          go_wp2_with (first | (at_builtin; go_loud (refine wpList_append_lies _ rfl _ _ 22 rfl B 3 i0 (.int .i64 0) 1 8 Try.underlying22 hi hz0 hz1 hz2 rfl (by decide) _ _ _ rfl (S6.out.go.alloc _) ⟨w6.heap.size, 0, none⟩ 1 1 [.int .i64 c] rfl rfl (cell_one_new _ _ _) (by intro u hu; simp at hu; subst hu; rfl) (by decide) (by unfold maxLen; omega) (by omega) (by have := S6.out.b5; simp; omega) _ rfl ?_)))
                          intro g9 c9 w7 hown1 hgrow1 hat1 hlt1
                          have S7 := Lib.hid (S6.out.app c hown1 hgrow1 (by simpa using hat1))
                          clear hown1 hgrow1 hat1 hlt1 S6
                          have hhas := (S7.out.hm (gs.length + 1)).1
                          have hky : keyOf Try.prog 3 (.int .i64 ((gs.length : Int) + 1)) = some (ky (gs.length + 1)) := by
                            have := ky_of (i := gs.length + 1) (by omega)
                            simpa using this
                          go_wp2_with (first | (at_lookup; go_loud (refine wpList_lookup_own_ok_int _ rfl _ _ 43 rfl 3 3 .i64 lawK Try.underlying43 Try.underlying3 (zeroK _) mb (nm + 1) _ rfl S7.out.mp _ _ rfl hky ?_)))
                          intro c2 hat2 hwc2
                          have HCV2 : Hid (∀ v, Sr.put hh gs.length none (gs.length + 1) = some v → c2 = v) := fun v hv => by
                            have := (S7.out.hm (gs.length + 1)).2 v hv
                            rw [hat2] at this
                            simpa using this
                          clear hky hat2 hwc2
                          go_wp2_with fail
                          clear hhas
                          go_roundw
                          case rel => exact ⟨j + 1, gs ++ [c], Sr.put hh gs.length none, _, some ⟨g9, 0, none⟩, c9, c2, by simp; omega, by simp; omega, by omega, by simp, rfl, by simp, by simpa using HCV2, HDR2, HBD2, by rw [show (gs ++ [c]).length = gs.length + 1 from by simp]; exact S7.out⟩
                          case measure => simp [lenOf]; omega
                  · have ER : Hid (Sr.recv zs W R ⟨got, known, now :: q, done, held⟩ now true = (got, held)) := by show Sr.recv _ _ _ _ _ _ = _; unfold Sr.recv; rw [if_pos rfl]
                    go_wp2_with fail
                    go_meet
                    case rel => exact ⟨got, held, D, ga, gc, nm, by omega, rfl, ER, S5.out⟩
                case rest =>
                  clear x0 x1 S5
                  obtain ⟨gs, hh, D2, ga2, gc2, nm2, hnm2, rfl, ER, hS⟩ := hcut
                  have S2 := Lib.hid hS; clear hS
                  obtain ⟨wA, hwA⟩ : ∃ wA : World, wA = wc := ⟨_, rfl⟩
                  subst hwA
                  go_upto_if 112 with fail
                  go_cut [9] (fun v9 wx => ∃ (kn : Nat) (qq : List Nat) (dn : List Bool) (ar9 : Option Nat), qq.length ≤ q.length + len ∧ v9 = .int .i64 kn ∧ dn.length = len ∧ Hid (Sr.mark zs.length W R ⟨got, known, now :: q, done, held⟩ now ls = dn) ∧ Hid (Sr.ahead zs.length W ⟨got, known, now :: q, done, held⟩ q dn ls = (kn, qq)) ∧ SrS w w.heap.size db mb B wx (.slice ga2 gs.length gc2) gs qq dn hh nm2 ar9 D2)
                  case first =>
                    clear HLS ER
                    cases ls
                    · have FD2 := Lib.hid (find_any known W (now % R) R ((now : Int) % (R : Int)) wA (by simp) (by omega) (by omega) (by omega))
                      rcases hf2 : Sr.find (now % R) R known W with _ | at2
                      · have HF2 := Lib.hid hf2; clear hf2
                        rw [HF2.out] at FD2
                        have EM : Hid (Sr.mark zs.length W R ⟨got, known, now :: q, done, held⟩ now false = done) := by
                          show Sr.mark _ _ _ _ _ _ = _
                          unfold Sr.mark
                          rw [if_neg (by simp)]
                          show (match Sr.find (now % R) R known W with | none => done | some at_ => if at_ < zs.length then done.set at_ true else done) = _
                          rw [HF2.out]
                          all_goals rfl
                        go_wp2_with fail
                        refine FD2.out.mono ?_
                        clear FD2
                        rintro e w' ⟨rfl, rfl⟩
                        go_wp2_with fail
                        go_loopw [9] (fun v9 wx => ∃ (kn : Nat) (qq : List Nat) (ar9 : Option Nat), v9 = .int .i64 kn ∧ known ≤ kn ∧ kn ≤ len ∧ qq.length ≤ q.length + kn ∧ Hid (Sr.adv len W done (len - known) (known, q) = Sr.adv len W done (len - kn) (kn, qq)) ∧ SrS w w.heap.size db mb B wx (.slice ga2 gs.length gc2) gs qq done hh nm2 ar9 D2) (fun v9 _ => len - (intOf v9).toNat)
                        case atStart => exact ⟨known, q, ar, rfl, by omega, by omega, by omega, rfl, S2.out⟩
                        case round =>
                          clear S2
                          obtain ⟨kn, qq, ar9, rfl, k1, k2, k3, HAD, hS⟩ := hrel
                          have S9 := Lib.hid hS; clear hS
                          have hdl : done.length = len := by first | exact O3.out | (rw [List.length_set]; exact O3.out)
                          by_cases hkl : kn < len
                          · have hce := S9.out.cellD kn (by rw [hdl]; exact hkl)
                            obtain ⟨bx, hbx⟩ : ∃ bx, done.getD kn false = bx := ⟨_, rfl⟩
                            rw [hbx] at hce
                            have HBX := Lib.hid hbx; clear hbx
                            cases bx
                            · have HAD := Lib.hid (HAD.out.trans (Sr.adv_end k2 (.inr HBX.out)))
                              have EA : Hid (Sr.ahead zs.length W ⟨got, known, now :: q, done, held⟩ q done false = (kn, qq)) := by
                                show Sr.ahead _ _ _ _ _ _ = _
                                unfold Sr.ahead
                                rw [if_neg (by simp)]
                                show Sr.adv zs.length W _ (zs.length - known) (known, q) = _
                                rw [hlz.out, HAD.out]
                              go_wp2_with fail
                              go_meet
                              case rel => exact ⟨kn, qq, done, ar9, by omega, rfl, hdl, EM, EA, S9.out⟩
                            · by_cases hw : kn + W < len
                              · have HAD2 : Hid (Sr.adv len W done (len - known) (known, q) = Sr.adv len W done (len - (kn + 1)) (kn + 1, qq ++ [kn + W])) := by
                                  show _ = _
                                  rw [HAD.out, Sr.adv_go hkl HBX.out, if_pos hw]
                                have P := Lib.hid (push_any w.heap.size B (kn + W) qq _ _ S9.out.qu S9.out.artb S9.out.b5 (by omega))
                                clear HAD hdl
                                go_wp2_with fail
                                refine P.out.mono ?_
                                clear P
                                rintro e w8 ⟨rfl, ar8, w7, hQ, hg, hg2, har⟩
                                have S8 := Lib.hid (S9.out.push hQ hg hg2 har)
                                clear hQ hg hg2 har hce
                                go_wp2_with fail
                                go_roundw
                                case rel => exact ⟨kn + 1, qq ++ [kn + W], ar8, by go_num, by omega, by omega, by simp; omega, HAD2, S8.out⟩
                                case measure => simp [intOf]; omega
                              · have HAD2 : Hid (Sr.adv len W done (len - known) (known, q) = Sr.adv len W done (len - (kn + 1)) (kn + 1, qq)) := by
                                  show _ = _
                                  rw [HAD.out, Sr.adv_go hkl HBX.out, if_neg hw]
                                have hw2 : len ≤ kn + W := by omega
                                clear HAD hdl hw
                                go_wp2_with fail
                                go_roundw
                                case rel => exact ⟨kn + 1, qq, ar9, by go_num, by omega, by omega, by omega, HAD2, S9.out⟩
                                case measure => simp [intOf]; omega
                          · have hke : len ≤ kn := by omega
                            have HAD := Lib.hid (HAD.out.trans (Sr.adv_end k2 (.inl (by omega))))
                            have EA : Hid (Sr.ahead zs.length W ⟨got, known, now :: q, done, held⟩ q done false = (kn, qq)) := by
                              show Sr.ahead _ _ _ _ _ _ = _
                              unfold Sr.ahead
                              rw [if_neg (by simp)]
                              show Sr.adv zs.length W _ (zs.length - known) (known, q) = _
                              rw [hlz.out, HAD.out]
                            clear hkl
                            go_wp2_with fail
                            go_meet
                            case rel => exact ⟨kn, qq, done, ar9, by omega, rfl, hdl, EM, EA, S9.out⟩
                      · have HF2 := Lib.hid hf2; clear hf2
                        have hb2 := (Sr.find_some _ _ _ HF2.out).2.1
                        by_cases hat2 : at2 < len
                        · rw [HF2.out] at FD2
                          have EM : Hid (Sr.mark zs.length W R ⟨got, known, now :: q, done, held⟩ now false = done.set at2 true) := by
                            show Sr.mark _ _ _ _ _ _ = _
                            unfold Sr.mark
                            rw [if_neg (by simp)]
                            show (match Sr.find (now % R) R known W with | none => done | some at_ => if at_ < zs.length then done.set at_ true else done) = _
                            rw [HF2.out]
                            exact if_pos (by rw [hlz.out]; exact hat2)
                          have hcs := S2.out.cellD at2 (by rw [O3.out]; exact hat2)
                          have hfs := S2.out.freeD at2
                          go_wp2_with fail
                          refine FD2.out.mono ?_
                          clear FD2
                          rintro e w' ⟨rfl, rfl⟩
                          have SM := Lib.hid (S2.out.mark at2)
                          go_wp2_with fail
                          clear hcs hfs S2
                          go_loopw [9] (fun v9 wx => ∃ (kn : Nat) (qq : List Nat) (ar9 : Option Nat), v9 = .int .i64 kn ∧ known ≤ kn ∧ kn ≤ len ∧ qq.length ≤ q.length + kn ∧ Hid (Sr.adv len W (done.set at2 true) (len - known) (known, q) = Sr.adv len W (done.set at2 true) (len - kn) (kn, qq)) ∧ SrS w w.heap.size db mb B wx (.slice ga2 gs.length gc2) gs qq (done.set at2 true) hh nm2 ar9 D2) (fun v9 _ => len - (intOf v9).toNat)
                          case atStart => exact ⟨known, q, ar, rfl, by omega, by omega, by omega, rfl, SM.out⟩
                          case round =>
                            clear SM
                            obtain ⟨kn, qq, ar9, rfl, k1, k2, k3, HAD, hS⟩ := hrel
                            have S9 := Lib.hid hS; clear hS
                            have hdl : (done.set at2 true).length = len := by first | exact O3.out | (rw [List.length_set]; exact O3.out)
                            by_cases hkl : kn < len
                            · have hce := S9.out.cellD kn (by rw [hdl]; exact hkl)
                              obtain ⟨bx, hbx⟩ : ∃ bx, (done.set at2 true).getD kn false = bx := ⟨_, rfl⟩
                              rw [hbx] at hce
                              have HBX := Lib.hid hbx; clear hbx
                              cases bx
                              · have HAD := Lib.hid (HAD.out.trans (Sr.adv_end k2 (.inr HBX.out)))
                                have EA : Hid (Sr.ahead zs.length W ⟨got, known, now :: q, done, held⟩ q (done.set at2 true) false = (kn, qq)) := by
                                  show Sr.ahead _ _ _ _ _ _ = _
                                  unfold Sr.ahead
                                  rw [if_neg (by simp)]
                                  show Sr.adv zs.length W _ (zs.length - known) (known, q) = _
                                  rw [hlz.out, HAD.out]
                                go_wp2_with fail
                                go_meet
                                case rel => exact ⟨kn, qq, (done.set at2 true), ar9, by omega, rfl, hdl, EM, EA, S9.out⟩
                              · by_cases hw : kn + W < len
                                · have HAD2 : Hid (Sr.adv len W (done.set at2 true) (len - known) (known, q) = Sr.adv len W (done.set at2 true) (len - (kn + 1)) (kn + 1, qq ++ [kn + W])) := by
                                    show _ = _
                                    rw [HAD.out, Sr.adv_go hkl HBX.out, if_pos hw]
                                  have P := Lib.hid (push_any w.heap.size B (kn + W) qq _ _ S9.out.qu S9.out.artb S9.out.b5 (by omega))
                                  clear HAD hdl
                                  go_wp2_with fail
                                  refine P.out.mono ?_
                                  clear P
                                  rintro e w8 ⟨rfl, ar8, w7, hQ, hg, hg2, har⟩
                                  have S8 := Lib.hid (S9.out.push hQ hg hg2 har)
                                  clear hQ hg hg2 har hce
                                  go_wp2_with fail
                                  go_roundw
                                  case rel => exact ⟨kn + 1, qq ++ [kn + W], ar8, by go_num, by omega, by omega, by simp; omega, HAD2, S8.out⟩
                                  case measure => simp [intOf]; omega
                                · have HAD2 : Hid (Sr.adv len W (done.set at2 true) (len - known) (known, q) = Sr.adv len W (done.set at2 true) (len - (kn + 1)) (kn + 1, qq)) := by
                                    show _ = _
                                    rw [HAD.out, Sr.adv_go hkl HBX.out, if_neg hw]
                                  have hw2 : len ≤ kn + W := by omega
                                  clear HAD hdl hw
                                  go_wp2_with fail
                                  go_roundw
                                  case rel => exact ⟨kn + 1, qq, ar9, by go_num, by omega, by omega, by omega, HAD2, S9.out⟩
                                  case measure => simp [intOf]; omega
                            · have hke : len ≤ kn := by omega
                              have HAD := Lib.hid (HAD.out.trans (Sr.adv_end k2 (.inl (by omega))))
                              have EA : Hid (Sr.ahead zs.length W ⟨got, known, now :: q, done, held⟩ q (done.set at2 true) false = (kn, qq)) := by
                                show Sr.ahead _ _ _ _ _ _ = _
                                unfold Sr.ahead
                                rw [if_neg (by simp)]
                                show Sr.adv zs.length W _ (zs.length - known) (known, q) = _
                                rw [hlz.out, HAD.out]
                              clear hkl
                              go_wp2_with fail
                              go_meet
                              case rel => exact ⟨kn, qq, (done.set at2 true), ar9, by omega, rfl, hdl, EM, EA, S9.out⟩
                        · rw [HF2.out] at FD2
                          have EM : Hid (Sr.mark zs.length W R ⟨got, known, now :: q, done, held⟩ now false = done) := by
                            show Sr.mark _ _ _ _ _ _ = _
                            unfold Sr.mark
                            rw [if_neg (by simp)]
                            show (match Sr.find (now % R) R known W with | none => done | some at_ => if at_ < zs.length then done.set at_ true else done) = _
                            rw [HF2.out]
                            exact if_neg (by rw [hlz.out]; omega)
                          have hat3 : len ≤ at2 := by omega
                          clear hat2
                          go_wp2_with fail
                          refine FD2.out.mono ?_
                          clear FD2
                          rintro e w' ⟨rfl, rfl⟩
                          go_wp2_with fail
                          go_loopw [9] (fun v9 wx => ∃ (kn : Nat) (qq : List Nat) (ar9 : Option Nat), v9 = .int .i64 kn ∧ known ≤ kn ∧ kn ≤ len ∧ qq.length ≤ q.length + kn ∧ Hid (Sr.adv len W done (len - known) (known, q) = Sr.adv len W done (len - kn) (kn, qq)) ∧ SrS w w.heap.size db mb B wx (.slice ga2 gs.length gc2) gs qq done hh nm2 ar9 D2) (fun v9 _ => len - (intOf v9).toNat)
                          case atStart => exact ⟨known, q, ar, rfl, by omega, by omega, by omega, rfl, S2.out⟩
                          case round =>
                            clear S2
                            obtain ⟨kn, qq, ar9, rfl, k1, k2, k3, HAD, hS⟩ := hrel
                            have S9 := Lib.hid hS; clear hS
                            have hdl : done.length = len := by first | exact O3.out | (rw [List.length_set]; exact O3.out)
                            by_cases hkl : kn < len
                            · have hce := S9.out.cellD kn (by rw [hdl]; exact hkl)
                              obtain ⟨bx, hbx⟩ : ∃ bx, done.getD kn false = bx := ⟨_, rfl⟩
                              rw [hbx] at hce
                              have HBX := Lib.hid hbx; clear hbx
                              cases bx
                              · have HAD := Lib.hid (HAD.out.trans (Sr.adv_end k2 (.inr HBX.out)))
                                have EA : Hid (Sr.ahead zs.length W ⟨got, known, now :: q, done, held⟩ q done false = (kn, qq)) := by
                                  show Sr.ahead _ _ _ _ _ _ = _
                                  unfold Sr.ahead
                                  rw [if_neg (by simp)]
                                  show Sr.adv zs.length W _ (zs.length - known) (known, q) = _
                                  rw [hlz.out, HAD.out]
                                go_wp2_with fail
                                go_meet
                                case rel => exact ⟨kn, qq, done, ar9, by omega, rfl, hdl, EM, EA, S9.out⟩
                              · by_cases hw : kn + W < len
                                · exfalso; omega
                                · have HAD2 : Hid (Sr.adv len W done (len - known) (known, q) = Sr.adv len W done (len - (kn + 1)) (kn + 1, qq)) := by
                                    show _ = _
                                    rw [HAD.out, Sr.adv_go hkl HBX.out, if_neg hw]
                                  have hw2 : len ≤ kn + W := by omega
                                  clear HAD hdl hw
                                  go_wp2_with fail
                                  go_roundw
                                  case rel => exact ⟨kn + 1, qq, ar9, by go_num, by omega, by omega, by omega, HAD2, S9.out⟩
                                  case measure => simp [intOf]; omega
                            · have hke : len ≤ kn := by omega
                              have HAD := Lib.hid (HAD.out.trans (Sr.adv_end k2 (.inl (by omega))))
                              have EA : Hid (Sr.ahead zs.length W ⟨got, known, now :: q, done, held⟩ q done false = (kn, qq)) := by
                                show Sr.ahead _ _ _ _ _ _ = _
                                unfold Sr.ahead
                                rw [if_neg (by simp)]
                                show Sr.adv zs.length W _ (zs.length - known) (known, q) = _
                                rw [hlz.out, HAD.out]
                              clear hkl
                              go_wp2_with fail
                              go_meet
                              case rel => exact ⟨kn, qq, done, ar9, by omega, rfl, hdl, EM, EA, S9.out⟩
                    · have EM : Hid (Sr.mark zs.length W R ⟨got, known, now :: q, done, held⟩ now true = done) := by show Sr.mark _ _ _ _ _ _ = _; unfold Sr.mark; rw [if_pos (by simp)]
                      have EA : Hid (Sr.ahead zs.length W ⟨got, known, now :: q, done, held⟩ q done true = (known, q)) := by show Sr.ahead _ _ _ _ _ _ = _; unfold Sr.ahead; rw [if_pos (by simp)]
                      have hdl : done.length = len := O3.out
                      go_wp2_with fail
                      go_meet
                      case rel => exact ⟨known, q, done, ar, by omega, rfl, hdl, EM, EA, S2.out⟩
                  case rest =>
                    clear S2
                    obtain ⟨kn, qq, dn, ar9, hql, rfl, hdn, EM, EA, hS⟩ := hcut
                    have S9 := Lib.hid hS; clear hS
                    have hcd := S9.out.cellD now (by rw [hdn]; exact hnow)
                    obtain ⟨bd, hbd⟩ : ∃ bd, dn.getD now false = bd := ⟨_, rfl⟩
                    rw [hbd] at hcd
                    have hst := stepOn_is (qq := qq) (gs := gs) (h := hh) (dn := dn) (kn := kn) (f := (t, bk)) ER.out (by have h := EM.out; rw [HLS.out] at h; exact h) (by have h := EA.out; rw [HLS.out] at h; exact h) hbd
                    rw [hst] at HSP
                    clear hst hbd
                    cases bd
                    · have HSP2 : Hid (Sr.run zs W R (fs.take (k + 1)) = ⟨gs, kn, qq ++ [now], dn, hh⟩) := HSP.out
                      have P := Lib.hid (push_any w.heap.size B now qq _ _ S9.out.qu S9.out.artb S9.out.b5 (by omega))
                      go_wp2_with fail
                      refine P.out.mono ?_
                      clear P
                      rintro e w8 ⟨rfl, ar8, w7, hQ, hg, hg2, har⟩
                      have S8 := Lib.hid (S9.out.push hQ hg hg2 har)
                      clear hQ hg hg2 har hcd
                      go_wp2_with fail
                      go_roundw
                      case rel => exact ⟨k + 1, ⟨gs, kn, qq ++ [now], dn, hh⟩, ar8, D2, _, _, nm2, by omega, by omega, by go_num, rfl, rfl, HSP2.out.symm, S8.out⟩
                      case measure => simp [intOf]; omega
                    · have HSP2 : Hid (Sr.run zs W R (fs.take (k + 1)) = ⟨gs, kn, qq, dn, hh⟩) := HSP.out
                      go_wp2_with fail
                      go_roundw
                      case rel => exact ⟨k + 1, ⟨gs, kn, qq, dn, hh⟩, _, D2, _, _, nm2, by omega, by omega, by go_num, rfl, rfl, HSP2.out.symm, S9.out⟩
                      case measure => simp [intOf]; omega
          · have HX : Hid (Sr.run zs W R fs = s) := by
              show Sr.run zs W R fs = _
              rw [HR.out, List.take_of_length_le (by rw [hlf.out]; omega)]
            obtain ⟨ga2, gc2, hv, hgi⟩ := ints_own S.out.go rfl (by
              have := fit_got (W := W) (R := R) (fs := fs) HI.out.fits
              rw [HX.out] at this; exact this)
            have hv1 : ga = ga2 ∧ gc = gc2 := by simpa using hv
            obtain ⟨rfl, rfl⟩ := hv1
            clear hv
            have HBL := Lib.hid S.out.bl
            have HGI := Lib.hid hgi; clear hgi
            clear S
            go_wp2_with fail
            go_ret3
            rw [HX.out]
            exact ⟨ga, gc, rfl, HGI.out, HBL.out⟩
end Go.Proofs.Ytnkcjkemhdigpaa
