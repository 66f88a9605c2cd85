/- The contracts of package gcra. -/
import Derived.Test.YtikclgfldfpbdaaDoorCore
import Derived.Test.YtikclgfldfpbdaaDoorGcraPlain
import Derived.Deep.AppendLies
namespace Go.Proofs.YtikclgfldfpbdaaDoor
open Go.RowKit
set_option linter.unusedSimpArgs false
set_option linter.unusedVariables false

theorem info4 : (Tryd.prog.info? 4).map (fun i => (i.zero, i.size, i.bytes)) = some (some (.bool false), 1, 1) := by kernel_rfl

/-- A gate in block b. -/
def Gat (w : World) (b : Nat) (st sl nx l : Int) : Prop := Obj w b 55 [.int .i64 st, .int .i64 sl, .int .i64 nx, .int .i64 l]
theorem Gat.set2 {w : World} {b : Nat} {r d h l : Int} (ho : Gat w b r d h l) {u v : Int} (e : u = v) : Gat (w.setCell ⟨b, 2, none⟩ (.int .i64 u)) b r d v l := by
  subst e; exact Obj.set ho 2 _
theorem Gat.set3 {w : World} {b : Nat} {r d h l : Int} (ho : Gat w b r d h l) {u v : Int} (e : u = v) : Gat (w.setCell ⟨b, 3, none⟩ (.int .i64 u)) b r d h v := by
  subst e; exact Obj.set ho 3 _
theorem Gat.drewN {w : World} {b : Nat} {r d h l : Int} (ho : Gat w b r d h l) (n : Nat) : Gat (w.drewN n) b r d h l := ho
theorem Gat.drew {w : World} {b : Nat} {r d h l : Int} (ho : Gat w b r d h l) : Gat w.drew b r d h l := ho

theorem gnew_no (r d : Int) (w : World) (h : (r < 1 ∨ 20 < r) ∨ (d < 0 ∨ 100 < d)) : Calls Tryd.prog 9 #[.int .i64 r, .int .i64 d] w fun e w' => e = .returned (.tuple #[.pointer none, errV 1]) ∧ w = w' := by
  by_cases hr : 1 ≤ r ∧ r ≤ 20
  · obtain ⟨h1, h2⟩ := hr
    have H := Lib.hid (show d < 0 ∨ 100 < d by omega)
    clear h
    go_enter Tryd.func9, Tryd.ntmps9
    go_wp2_with fail
    refine (within_in _ _ _ _ h1 h2).mono ?_
    rintro e w' ⟨rfl, rfl⟩
    go_wp2_with fail
    refine (within_out _ _ _ _ H.out).mono ?_
    rintro e w' ⟨rfl, rfl⟩
    go_wp2
    go_ret2
    exact ⟨rfl, rfl⟩
  · have H := Lib.hid (show r < 1 ∨ 20 < r by omega)
    clear h hr
    go_enter Tryd.func9, Tryd.ntmps9
    go_wp2_with fail
    refine (within_out _ _ _ _ H.out).mono ?_
    rintro e w' ⟨rfl, rfl⟩
    go_wp2
    go_ret2
    exact ⟨rfl, rfl⟩
theorem gnew_yes (r d : Int) (w : World) (h1 : 1 ≤ r) (h2 : r ≤ 20) (h3 : 0 ≤ d) (h4 : d ≤ 100) : Calls Tryd.prog 9 #[.int .i64 r, .int .i64 d] w fun e w' => e = .returned (.tuple #[.pointer (some ⟨w.heap.size, 0, none⟩), .nilIface]) ∧ Gat w' w.heap.size r d 0 0 ∧ w.grownBy w' none := by
  go_enter Tryd.func9, Tryd.ntmps9
  go_wp2_with fail
  refine (within_in _ _ _ _ h1 h2).mono ?_
  rintro e w' ⟨rfl, rfl⟩
  go_wp2_with fail
  refine (within_in _ _ _ _ h3 h4).mono ?_
  rintro e w' ⟨rfl, rfl⟩
  go_wp2
  go_ret2
  exact ⟨rfl, Obj.new _ _ _, World.grownBy_alloc _ _ _⟩

/-- What is so far: the leaking bucket's loop. -/
def LeakPost (st sl : Int) (ts : List Int) (w : World) (e : Ending) (w' : World) : Prop :=
  (leakE st sl ts = 0 → ∃ a c, e = .returned (.tuple #[.slice a (lkRun st sl ts).out.length c, .nilIface]) ∧ Bools w' w'.heap.size a (lkRun st sl ts).out.length (lkRun st sl ts).out ∧ (lkRun st sl ts).out.length = ts.length ∧ Below w.heap.size w w') ∧
  (leakE st sl ts ≠ 0 → e = .returned (.tuple #[.slice none 0 0, errV (leakE st sl ts)]) ∧ Below w.heap.size w w')

set_option maxHeartbeats 4000000 in
set_option maxRecDepth 100000 in
theorem leak_any (st sl : Int) (a : Option Addr) (len cap : Nat) (ts : List Int) (w : World) (hI : Ints w w.heap.size a len ts) :
    Calls Tryd.prog 6 #[.int .i64 st, .int .i64 sl, .slice a len cap] w (LeakPost st sl ts w) := by
  have hroom := hI.room
  have hlz := Lib.hid hI.size
  have HI := Lib.hid hI; clear hI
  by_cases hv : (1 ≤ st ∧ st ≤ 20) ∧ (0 ≤ sl ∧ sl ≤ 100)
  · by_cases hl : len ≤ 200
    · have hE : Hid (leakE st sl ts = tmE 0 ts) := by
        show _ = _
        unfold leakE; rw [if_pos hv, if_neg (by rw [hlz.out]; omega)]
      have HV := Lib.hid hv
      obtain ⟨⟨s0, s1⟩, l0, l1⟩ := hv
      obtain ⟨i0, hi, hz0, hz1, hz2⟩ := info_parts info4
      go_enter Tryd.func6, Tryd.ntmps6
      go_wp2_with fail
      refine (gnew_yes _ _ _ s0 s1 l0 l1).mono ?_
      rintro e w1 ⟨rfl, ho, hg⟩
      have B1 := Lib.hid (below_new hg)
      clear ho hg
      go_wp2_with fail
      go_loopw [10, 11, 12, 31] (fun v10 v11 v12 v31 wr => ∃ (k : Nat) (s : LkS), k ≤ len ∧ v31 = .int .i64 k ∧ v11 = .int .i64 s.level ∧ v12 = .int .i64 s.last ∧ LkI st sl k s ∧
          wr.ownsRow w.heap.size 4 1 v10 k (s.out.map Value.bool) ∧ Hid (s = lkRun st sl (ts.take k)) ∧ Hid (tmE 0 ts = tmE s.last (ts.drop k)) ∧ Below w.heap.size w wr)
        (fun _ _ _ v31 _ => len - (intOf v31).toNat)
      case atStart => exact ⟨0, ⟨0, 0, []⟩, by omega, rfl, rfl, rfl, ⟨Int.le_refl _, by decide, Int.le_refl _, by decide, rfl⟩, World.ownsRow_nil _ _ _ _, rfl, rfl, B1.out⟩
      case round =>
        clear B1
        obtain ⟨k, s, hk, rfl, rfl, rfl, hin, hown, HR, HT, hB⟩ := hrel
        have HB := Lib.hid hB; clear hB
        have HOW := Lib.hid hown; clear hown
        have HIN := Lib.hid hin
        obtain ⟨p1, p2, p3, p4, p5⟩ := hin
        have HP5 := Lib.hid p5; clear p5
        have hsz := HB.out.size
        by_cases hlt : k < len
        · obtain ⟨b, off, rfl, hb, hc⟩ := HI.out.cell k hlt
          have hcx := (HB.out.cell (p := ⟨b, off + k, none⟩) hb).trans hc
          clear hc
          have hfit := HI.out.fits k
          have hstep : lkRun st sl (ts.take (k + 1)) = lkStep st sl s (ts.getD k 0) := by
            rw [take_succ_int ts k (by rw [hlz.out]; exact hlt), lk_snoc, ← HR.out]
          have HST := Lib.hid hstep; clear hstep
          have hd := HT.out
          rw [drop_cons_int ts k (by rw [hlz.out]; exact hlt)] at hd
          have HTD := Lib.hid hd; clear hd
          generalize ts.getD k 0 = t at *
          by_cases hr : 0 ≤ t ∧ t ≤ 1000
          · obtain ⟨r0, r1⟩ := hr
            by_cases hla : s.last ≤ t
            · have HT2 : Hid (tmE 0 ts = tmE t (ts.drop (k + 1))) := by
                have := HTD.out
                rw [show tmE s.last (t :: ts.drop (k + 1)) = tmE t (ts.drop (k + 1)) from by
                  show (if t < 0 ∨ 1000 < t then 1 else if t < s.last then 7 else tmE t (ts.drop (k + 1))) = _
                  rw [if_neg (by omega), if_neg (by omega)]] at this
                exact this
              have HI2 := Lib.hid (lk_step HIN.out HV.out.1 HV.out.2 ⟨r0, r1⟩ hla)
              have hlev : (s.level - (t - s.last) ≤ 0 ∧ lkLev s t = 0) ∨ (0 < s.level - (t - s.last) ∧ lkLev s t = s.level - (t - s.last)) := by unfold lkLev; omega
              have hm : (lkLev s t ≤ sl ∧ lkStep st sl s t = ⟨lkLev s t + st, t, s.out ++ [true]⟩) ∨ (sl < lkLev s t ∧ lkStep st sl s t = ⟨lkLev s t, t, s.out ++ [false]⟩) := by
                unfold lkStep
                by_cases h : lkLev s t ≤ sl
                · left; exact ⟨h, if_pos h⟩
                · right; exact ⟨by omega, if_neg h⟩
              clear HTD
              obtain ⟨lv, la, out⟩ := s
              simp only at *
              rcases hlev with ⟨g1, g2⟩ | ⟨g1, g2⟩
              · rw [g2] at hm
                clear g2
                rcases hm with ⟨m1, m2⟩ | ⟨m1, m2⟩
                · rw [m2] at HST HI2
                  clear m2
                  go_wp2_with (first | (go_at_call 22; refine (within_in _ _ _ _ r0 r1).mono ?_; rintro e w' ⟨rfl, rfl⟩) | (at_builtin; refine wpList_append_lies _ rfl (.tmp 57) (.tmp 59) 23 rfl w.heap.size 4 i0 (.bool false) 1 1 Tryd.underlying23 hi hz0 hz1 hz2 rfl (by decide) _ _ _ rfl (HOW.out.alloc _) ⟨wr.heap.size, 0, none⟩ 1 1 [.bool _] rfl rfl (cell_one_new _ _ _) (by intro u hu; simp at hu; subst hu; rfl) (by decide) (by unfold maxLen; omega) (by omega) (by simp; omega) _ rfl ?_))
                  intro g9 c9 w4 hown1 hgrow1 hat1 hlt1
                  have HB2 : Hid (Below w.heap.size w w4) := (HB.out.alloc HB.out.size _).grown hgrow1 (by simp; omega) (fun kk hkk => (HOW.out.lt kk hkk).1)
                  have HOW2 := Lib.hid hown1
                  clear hown1 hgrow1 hat1 hlt1 hcx
                  go_wp2_with fail
                  go_roundw
                  case rel => exact ⟨k + 1, ⟨0 + st, t, out ++ [true]⟩, by omega, by go_num, congrArg (Value.int .i64) (by show _ = 0 + st; omega), rfl, HI2.out, by simpa using HOW2.out, HST.out.symm, HT2, HB2.out⟩
                  case measure => simp [intOf]; omega
                · exfalso; omega
              · rw [g2] at hm
                clear g2
                rcases hm with ⟨m1, m2⟩ | ⟨m1, m2⟩
                · rw [m2] at HST HI2
                  clear m2
                  go_wp2_with (first | (go_at_call 22; refine (within_in _ _ _ _ r0 r1).mono ?_; rintro e w' ⟨rfl, rfl⟩) | (at_builtin; refine wpList_append_lies _ rfl (.tmp 57) (.tmp 59) 23 rfl w.heap.size 4 i0 (.bool false) 1 1 Tryd.underlying23 hi hz0 hz1 hz2 rfl (by decide) _ _ _ rfl (HOW.out.alloc _) ⟨wr.heap.size, 0, none⟩ 1 1 [.bool _] rfl rfl (cell_one_new _ _ _) (by intro u hu; simp at hu; subst hu; rfl) (by decide) (by unfold maxLen; omega) (by omega) (by simp; omega) _ rfl ?_))
                  intro g9 c9 w4 hown1 hgrow1 hat1 hlt1
                  have HB2 : Hid (Below w.heap.size w w4) := (HB.out.alloc HB.out.size _).grown hgrow1 (by simp; omega) (fun kk hkk => (HOW.out.lt kk hkk).1)
                  have HOW2 := Lib.hid hown1
                  clear hown1 hgrow1 hat1 hlt1 hcx
                  go_wp2_with fail
                  go_roundw
                  case rel => exact ⟨k + 1, ⟨lv - (t - la) + st, t, out ++ [true]⟩, by omega, by go_num, by go_num, by go_num, HI2.out, by simpa using HOW2.out, HST.out.symm, HT2, HB2.out⟩
                  case measure => simp [intOf]; omega
                · rw [m2] at HST HI2
                  clear m2
                  have hdf : decide (lv - (t - la) ≤ sl) = false := by simp; omega
                  go_wp2_with (first | (go_at_call 22; refine (within_in _ _ _ _ r0 r1).mono ?_; rintro e w' ⟨rfl, rfl⟩) | (at_builtin; refine wpList_append_lies _ rfl (.tmp 57) (.tmp 59) 23 rfl w.heap.size 4 i0 (.bool false) 1 1 Tryd.underlying23 hi hz0 hz1 hz2 rfl (by decide) _ _ _ rfl (HOW.out.alloc _) ⟨wr.heap.size, 0, none⟩ 1 1 [.bool _] rfl rfl (cell_one_new _ _ _) (by intro u hu; simp at hu; subst hu; rfl) (by decide) (by unfold maxLen; omega) (by omega) (by simp; omega) _ rfl ?_))
                  intro g9 c9 w4 hown1 hgrow1 hat1 hlt1
                  have HB2 : Hid (Below w.heap.size w w4) := (HB.out.alloc HB.out.size _).grown hgrow1 (by simp; omega) (fun kk hkk => (HOW.out.lt kk hkk).1)
                  have HOW2 := Lib.hid hown1
                  clear hown1 hgrow1 hat1 hlt1 hcx
                  go_wp2_with fail
                  go_roundw
                  case rel => exact ⟨k + 1, ⟨lv - (t - la), t, out ++ [false]⟩, by omega, by go_num, by go_num, by go_num, HI2.out, by simpa using HOW2.out, HST.out.symm, HT2, HB2.out⟩
                  case measure => simp [intOf]; omega
            · have hla2 : t < s.last := by omega
              clear hla
              have hE7 : Hid (leakE st sl ts = 7) := by
                show _ = _
                rw [hE.out, HTD.out]
                show (if t < 0 ∨ 1000 < t then 1 else if t < s.last then 7 else tmE t (ts.drop (k + 1))) = _
                rw [if_neg (by omega), if_pos hla2]
              go_wp2_with fail
              refine (within_in _ _ _ _ r0 r1).mono ?_
              rintro e w' ⟨rfl, rfl⟩
              go_wp2
              go_ret2
              refine ⟨fun h => ?_, fun _ => ⟨by rw [hE7.out]; rfl, HB.out⟩⟩
              rw [hE7.out] at h; exact absurd h (by decide)
          · have HVR := Lib.hid (show t < 0 ∨ 1000 < t by omega)
            clear hr
            have hE1 : Hid (leakE st sl ts = 1) := by
              show _ = _
              rw [hE.out, HTD.out]
              show (if t < 0 ∨ 1000 < t then 1 else if t < s.last then 7 else tmE t (ts.drop (k + 1))) = _
              rw [if_pos HVR.out]
            go_wp2_with fail
            refine (within_out _ _ _ _ HVR.out).mono ?_
            rintro e w' ⟨rfl, rfl⟩
            go_wp2
            go_ret2
            refine ⟨fun h => ?_, fun _ => ⟨by rw [hE1.out]; rfl, HB.out⟩⟩
            rw [hE1.out] at h; exact absurd h (by decide)
        · have hkk : k = len := by omega
          subst hkk
          have hall : ts.take k = ts := List.take_of_length_le (by rw [hlz.out]; exact Nat.le_refl _)
          have HX : Hid (lkRun st sl ts = s) := by show _ = _; rw [HR.out, hall]
          have HE0 : Hid (leakE st sl ts = 0) := by
            show _ = _
            rw [hE.out, HT.out, List.drop_of_length_le (by rw [hlz.out]; exact Nat.le_refl _)]
            rfl
          clear hall
          obtain ⟨ga, gc, hv2, hgi⟩ := bools_own HOW.out HP5.out
          subst hv2
          have HGI := Lib.hid hgi; clear hgi
          go_wp2_with fail
          go_ret2
          refine ⟨fun _ => ?_, fun h => absurd HE0.out h⟩
          rw [HX.out, HP5.out]
          exact ⟨ga, gc, rfl, HGI.out, hlz.out.symm, HB.out⟩
    · have hl2 : 200 < len := by omega
      clear hl
      have hE : Hid (leakE st sl ts = 4) := by
        show _ = _
        unfold leakE; rw [if_pos hv, if_pos (by rw [hlz.out]; omega)]
      obtain ⟨⟨s0, s1⟩, l0, l1⟩ := hv
      go_enter Tryd.func6, Tryd.ntmps6
      go_wp2_with fail
      refine (gnew_yes _ _ _ s0 s1 l0 l1).mono ?_
      rintro e w1 ⟨rfl, ho, hg⟩
      have B1 := Lib.hid (below_new hg)
      clear ho hg
      go_wp2
      go_ret2
      refine ⟨fun h => ?_, fun _ => ⟨by rw [hE.out]; rfl, B1.out⟩⟩
      rw [hE.out] at h; exact absurd h (by decide)
  · have hE : Hid (leakE st sl ts = 1) := by
      show _ = _
      unfold leakE; rw [if_neg hv]
    have HV := Lib.hid (show (st < 1 ∨ 20 < st) ∨ (sl < 0 ∨ 100 < sl) by omega)
    clear hv
    go_enter Tryd.func6, Tryd.ntmps6
    go_wp2_with fail
    refine (gnew_no _ _ _ HV.out).mono ?_
    rintro e w' ⟨rfl, rfl⟩
    go_wp2
    go_ret2
    refine ⟨fun h => ?_, fun _ => ⟨by rw [hE.out]; rfl, Below.refl _ _⟩⟩
    rw [hE.out] at h; exact absurd h (by decide)
end Go.Proofs.YtikclgfldfpbdaaDoor
