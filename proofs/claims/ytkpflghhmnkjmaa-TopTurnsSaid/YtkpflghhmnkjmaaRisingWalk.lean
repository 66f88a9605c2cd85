/- The contract of the reference's Rising. -/
import Derived.Test.YtkpflghhmnkjmaaRising
import Derived.Test.YtkpflghhmnkjmaaCel
import Derived.Test.YtkpflghhmnkjmaaLit
namespace Go.Proofs.Ytkpflghhmnkjmaa
open Go.RowKit
set_option linter.unusedSimpArgs false
set_option linter.unusedVariables false

theorem risInt : (Try.prog.info? 3).map (fun i => (i.zero, i.size, i.bytes)) = some (some (.int .i64 0), 1, 8) := by kernel_rfl
theorem risBool : (Try.prog.info? 4).map (fun i => (i.zero, i.size, i.bytes)) = some (some (.bool false), 1, 1) := by kernel_rfl

/-- After i places: none yet, or the first of the least that is free. -/
def Best (zs : List Int) (us : List Bool) (i : Nat) (v : Int) : Prop :=
  (v = -1 ∧ ∀ j, j < i → us.getD j false = true) ∨ ∃ b : Nat, v = (b : Int) ∧ b < i ∧ us.getD b false = false ∧ ∀ j, j < i → us.getD j false = false → zs.getD b 0 ≤ zs.getD j 0

theorem Best.skip {zs : List Int} {us : List Bool} {i : Nat} {v : Int} (h : Best zs us i v) (hu : us.getD i false = true) : Best zs us (i + 1) v := by
  rcases h with ⟨h1, h2⟩ | ⟨b, h1, h2, h3, h4⟩
  · refine Or.inl ⟨h1, fun j hj => ?_⟩
    rcases Nat.lt_or_ge j i with h | h
    · exact h2 j h
    · rw [show j = i from by omega]; exact hu
  · refine Or.inr ⟨b, h1, by omega, h3, fun j hj hju => ?_⟩
    rcases Nat.lt_or_ge j i with h | h
    · exact h4 j h hju
    · rw [show j = i from by omega] at hju; rw [hju] at hu; exact absurd hu (by simp)
theorem Best.first {zs : List Int} {us : List Bool} {i : Nat} (h : ∀ j, j < i → us.getD j false = true) (hu : us.getD i false = false) : Best zs us (i + 1) i := by
  refine Or.inr ⟨i, rfl, by omega, hu, fun j hj hju => ?_⟩
  rcases Nat.lt_or_ge j i with h' | h'
  · rw [h j h'] at hju; exact absurd hju (by simp)
  · rw [show j = i from by omega]; exact Int.le_refl _
theorem Best.better {zs : List Int} {us : List Bool} {i b : Nat} (h : ∀ j, j < i → us.getD j false = false → zs.getD b 0 ≤ zs.getD j 0) (hu : us.getD i false = false) (hlt : zs.getD i 0 < zs.getD b 0) : Best zs us (i + 1) i := by
  refine Or.inr ⟨i, rfl, by omega, hu, fun j hj hju => ?_⟩
  rcases Nat.lt_or_ge j i with h' | h'
  · have := h j h' hju; omega
  · rw [show j = i from by omega]; exact Int.le_refl _
theorem Best.worse {zs : List Int} {us : List Bool} {i b : Nat} (hb : b < i) (hub : us.getD b false = false) (h : ∀ j, j < i → us.getD j false = false → zs.getD b 0 ≤ zs.getD j 0) (hlt : zs.getD b 0 ≤ zs.getD i 0) : Best zs us (i + 1) b := by
  refine Or.inr ⟨b, rfl, by omega, hub, fun j hj hju => ?_⟩
  rcases Nat.lt_or_ge j i with h' | h'
  · exact h j h' hju
  · rw [show j = i from by omega]; exact hlt

set_option maxHeartbeats 4000000 in
set_option maxRecDepth 100000 in
theorem rising_any (b off : Nat) (len cap : Nat) (zs : List Int) (w : World) (hI : Ints w w.heap.size (some ⟨b, off, none⟩) len zs) (h1 : 1 ≤ len) (hl : len ≤ 1000) :
    Calls Try.prog 19 #[.slice (some ⟨b, off, none⟩) len cap] w fun e w' => ∃ g c idx, e = .returned (.slice (some ⟨g, 0, none⟩) len c) ∧ Cel w' g 3 ((idx.map fun i => zs.getD i 0).map (.int .i64)) ∧ idx.length = len ∧ (∃ us, Ris zs us idx) ∧ Below w.heap.size w w' := by
  have hlz := Lib.hid hI.size
  have HI := Lib.hid hI; clear hI
  obtain ⟨i0, hi, hz0, hz1, hz2⟩ := info_parts risInt
  obtain ⟨i1, hi', hz0', hz1', hz2'⟩ := info_parts risBool
  go_enter Try.func19, Try.ntmps19
  go_wp2_with (first | (at_make; refine wpList_make_full _ rfl _ _ 54 rfl w.heap.size 4 i1 (.bool false) 1 Try.underlying54 hi' hz0' hz1' .i64 .i64 _ _ len rfl rfl (by omega) (by omega) (by rw [hz2']; omega) (by unfold maxLen; omega) (Nat.le_refl _) ?_))
  intro w1 hown hgr
  have hc0 : Cel w1 w.heap.size 4 ((List.replicate len false).map .bool) := by
    have := (Cel.own hown).1
    simpa [toList_madeCells_one, List.map_replicate] using this
  have HC0 := Lib.hid hc0
  have HB0 := Lib.hid (below_new hgr)
  have HR0 : Hid (Ris zs (List.replicate len false) []) := by show Ris _ _ _; rw [← hlz.out]; exact Ris.start zs
  clear hown hgr hc0
  go_wp2_with fail
  go_loopw [3, 5, 6, 7] (fun v2 v4 v5 v6 wr => ∃ (n : Nat) (idx : List Nat) (us : List Bool), n ≤ len ∧ v4 = .int .i64 n ∧ idx.length = n ∧ wr.ownsRow (w.heap.size + 1) 3 1 v2 n ((idx.map fun i => zs.getD i 0).map (.int .i64)) ∧ Cel wr w.heap.size 4 (us.map .bool) ∧ Ris zs us idx ∧ Below w.heap.size w wr) (fun _ v4 _ _ _ => len - (intOf v4).toNat)
  case atStart => exact ⟨0, [], _, by omega, rfl, rfl, World.ownsRow_nil _ _ _ _, HC0.out, HR0.out, HB0.out⟩
  case round =>
    clear HC0 HB0 HR0
    obtain ⟨n, idx, us, hn, rfl, hil, hown, hcel, hris, hB⟩ := hrel
    have HOW := Lib.hid hown; clear hown
    have HCEL := Lib.hid hcel; clear hcel
    have HRIS := Lib.hid hris; clear hris
    have HB := Lib.hid hB; clear hB
    have HIL := Lib.hid hil; clear hil
    have hul : Hid (us.length = len) := by have := HRIS.out.len; show us.length = len; rw [this]; exact hlz.out
    have hsz : w.heap.size < wr.heap.size := HCEL.out.lt
    by_cases hlt : n < len
    · go_wp2_with fail
      obtain ⟨wo, hwo⟩ : ∃ wo : World, wo = wr := ⟨_, rfl⟩
      subst hwo
      go_loopw [6, 7] (fun v5 v6 wq => ∃ (i m : Nat) (v : Int), i ≤ len ∧ v6 = .int .i64 i ∧ v5 = .int .i64 v ∧ Best zs us i v ∧ wq = wo.drewN m) (fun _ v6 _ => len - (intOf v6).toNat)
      case atStart => exact ⟨0, 0, -1, by omega, rfl, rfl, Or.inl ⟨rfl, fun j hj => by omega⟩, rfl⟩
      case round =>
        obtain ⟨i, m, v, hi2, rfl, rfl, hbest, rfl⟩ := hrel
        have HBEST := Lib.hid hbest; clear hbest
        by_cases hil : i < len
        · have hcu := HCEL.out.cell i (by simpa using (by rw [hul.out]; exact hil : i < us.length))
          rw [map_at Value.bool us false i (by rw [hul.out]; exact hil)] at hcu
          obtain ⟨bb, oo, he, hbl, hci⟩ := HI.out.cell i hil
          simp only [Option.some.injEq, Addr.mk.injEq, and_true] at he
          obtain ⟨rfl, rfl⟩ := he
          have hci2 := (HB.out.cell (p := ⟨b, off + i, none⟩) hbl).trans hci
          clear hci hbl
          have q1 : (0 : Int) ≤ (i : Int) := by omega
          have q2 : (i : Int) < (len : Int) := by omega
          cases hu : us.getD i false
          · rw [hu] at hcu
            have HU := Lib.hid hu; clear hu
            rcases HBEST.out with ⟨rfl, hb2⟩ | ⟨p, rfl, hp, hpu, hmin⟩
            · have HN := Lib.hid (Best.first (zs := zs) hb2 HU.out)
              clear hb2
              go_wp2_with fail
              go_quiet (fail)
              go_wp2_with fail
              go_roundw
              case rel => exact ⟨i + 1, _, i, by omega, by go_num, by go_num, HN.out, rfl⟩
              case measure => simp [intOf]; omega
            · obtain ⟨bb, oo, he, hbl, hcp⟩ := HI.out.cell p (by omega)
              simp only [Option.some.injEq, Addr.mk.injEq, and_true] at he
              obtain ⟨rfl, rfl⟩ := he
              have hcp2 := (HB.out.cell (p := ⟨b, off + p, none⟩) hbl).trans hcp
              clear hcp hbl
              have q3 : (0 : Int) ≤ (p : Int) := by omega
              have q4 : (p : Int) < (len : Int) := by omega
              have HP := Lib.hid hpu; clear hpu
              have q5 : decide ((p : Int) < 0) = false := by simp
              by_cases hx : zs.getD i 0 < zs.getD p 0
              · have HN := Lib.hid (Best.better hmin HU.out hx)
                clear hmin
                generalize zs.getD i 0 = x at *
                generalize zs.getD p 0 = y at *
                go_wp2_with fail
                go_quiet (fail)
                go_wp2_with fail
                go_roundw
                case rel => exact ⟨i + 1, _, i, by omega, by go_num, by go_num, HN.out, rfl⟩
                case measure => simp [intOf]; omega
              · have hx2 : zs.getD p 0 ≤ zs.getD i 0 := by omega
                have HN := Lib.hid (Best.worse hp HP.out hmin hx2)
                clear hmin hx
                generalize zs.getD i 0 = x at *
                generalize zs.getD p 0 = y at *
                go_wp2_with fail
                go_quiet (fail)
                go_wp2_with fail
                go_roundw
                case rel => exact ⟨i + 1, _, p, by omega, by go_num, by go_num, HN.out, rfl⟩
                case measure => simp [intOf]; omega
          · rw [hu] at hcu
            have HN := Lib.hid (HBEST.out.skip hu)
            clear hu
            go_wp2_with fail
            go_quiet (fail)
            go_wp2_with fail
            go_roundw
            case rel => exact ⟨i + 1, _, v, by omega, by go_num, by go_num, HN.out, rfl⟩
            case measure => simp [intOf]; omega
        · obtain rfl : i = len := by omega
          obtain ⟨j, hj1, hj2⟩ := HRIS.out.free (by rw [HIL.out, hlz.out]; exact hlt)
          rcases HBEST.out with ⟨_, hb2⟩ | ⟨p, rfl, hp, hpu, hmin⟩
          · exfalso
            have := hb2 j (by rw [← hlz.out]; exact hj1)
            rw [hj2] at this; exact absurd this (by simp)
          · clear hj1 hj2
            have HST := Lib.hid (HRIS.out.step p (by rw [hlz.out]; exact hp) hpu (fun j hj hju => hmin j (by rw [← hlz.out]; exact hj) hju))
            clear hpu hmin
            obtain ⟨bb, oo, he, hbl, hcp⟩ := HI.out.cell p (by omega)
            simp only [Option.some.injEq, Addr.mk.injEq, and_true] at he
            obtain ⟨rfl, rfl⟩ := he
            have q3 : (0 : Int) ≤ (p : Int) := by omega
            have q4 : (p : Int) < (i : Int) := by omega
            have hcu := HCEL.out.cell p (by simpa using (by rw [hul.out]; exact hp : p < us.length))
            rw [map_at Value.bool us false p (by rw [hul.out]; exact hp)] at hcu
            have hfr := HCEL.out.free p
            have HSET : Hid (Cel ((wo.drewN m).setCell ⟨w.heap.size, p, none⟩ (.bool true)) w.heap.size 4 ((us.set p true).map .bool)) := by
              have := (HCEL.out.drewN m).set p (.bool true)
              rw [set_map] at this; exact this
            have HB2 : Hid (Below w.heap.size w ((wo.drewN m).setCell ⟨w.heap.size, p, none⟩ (.bool true))) := (below_drewN HB.out m).setCell (Nat.le_refl _) _
            have HOW2 := Lib.hid (ownsRow_setCell_below (own_drewN HOW.out m) (a := ⟨w.heap.size, p, none⟩) (by show w.heap.size < w.heap.size + 1; omega) (.bool true))
            obtain ⟨z, hz⟩ : ∃ z, z = zs.getD p 0 := ⟨_, rfl⟩
            have hcp2 := (HB.out.cell (p := ⟨b, off + p, none⟩) hbl).trans hcp
            rw [← hz] at hcp2
            have HZ := Lib.hid hz; clear hz hcp
            have hnl : n ≤ 1000 := by omega
            have hszo : (wo.drewN m).heap.size = wo.heap.size := rfl
            go_wp2_with (first | (at_builtin; go_loud (refine wpList_append_lies _ rfl _ _ 22 rfl (w.heap.size + 1) 3 i0 (.int .i64 0) 1 8 Try.underlying22 hi hz0 hz1 hz2 rfl (by decide) _ _ _ rfl (HOW2.out.alloc _) ⟨wo.heap.size, 0, none⟩ 1 1 [.int .i64 z] rfl rfl (by have := cell_one_new ((wo.drewN m).setCell ⟨w.heap.size, p, none⟩ (.bool true)) (.int .i64 z) 3; simpa using this) (by intro u hu; simp at hu; subst hu; rfl) (by decide) (by unfold maxLen; omega) (by omega) (by simp; omega) _ rfl ?_)))
            intro g c w4 hown1 hgrow1 hat1 hlt1
            have HC3 : Hid (Cel w4 w.heap.size 4 ((us.set p true).map .bool)) := (HSET.out.alloc _).kept hgrow1 (own_ne (HOW2.out.alloc (.cells #[.int .i64 z] 3 (0, 0))) (by omega))
            have HB3 : Hid (Below w.heap.size w w4) := below_row (HB2.out.alloc (by simp; omega) _) hgrow1 (b := w.heap.size + 1) (by omega) (by simp; omega) (HOW2.out.alloc _)
            have HOW3 := Lib.hid (show w4.ownsRow (w.heap.size + 1) 3 1 (.slice (some ⟨g, 0, none⟩) (n + 1) c) (n + 1) (((idx ++ [p]).map fun i => zs.getD i 0).map (.int .i64)) from by
              have := hown1
              rw [HZ.out] at this
              simpa using this)
            clear hown1 hgrow1 hat1 hlt1
            go_wp2_with fail
            go_roundw
            case rel => exact ⟨n + 1, idx ++ [p], us.set p true, by omega, by go_num, by rw [List.length_append, HIL.out]; rfl, HOW3.out, HC3.out, HST.out, HB3.out⟩
            case measure => simp [intOf]; omega
    · obtain rfl : n = len := by omega
      obtain ⟨g, c, hv, hcel, _⟩ := Cel.form HOW.out h1
      subst hv
      have HG := Lib.hid hcel; clear hcel
      go_wp2_with fail
      go_ret
      exact ⟨g, c, idx, rfl, HG.out, HIL.out, ⟨us, HRIS.out⟩, HB.out⟩
end Go.Proofs.Ytkpflghhmnkjmaa
