/- TopShapes returns true for every input: the walk. -/
import Derived.Test.YtikdpjedlbkkjaaShapes
import Derived.Test.YtikdpjedlbkkjaaTopIn
namespace Go.Proofs.Ytikdpjedlbkkjaa.topShapes
open Go.RowKit
set_option linter.unusedSimpArgs false
set_option linter.unusedVariables false

theorem own_other {w : World} {b e size n : Nat} {v : Value} {xs : List Value} (h : w.ownsRow (b + 1) e size v n xs) : v.ownBlock = none ∨ v.ownBlock ≠ some b := by
  rcases hv : v.ownBlock with _ | g
  · exact .inl rfl
  · right; intro e; have := (h.lt g hv).1; simp at e; omega

set_option maxHeartbeats 8000000 in
set_option maxRecDepth 100000 in
theorem walk (r d : Int) (a : Option Addr) (len cap : Nat) (zs : List Int) (w : World) (hr : -9223372036854775808 ≤ r ∧ r ≤ 9223372036854775807) (hd : -9223372036854775808 ≤ d ∧ d ≤ 9223372036854775807) (hI : Ints w w.heap.size a len zs) :
    Calls Try.prog 7 #[.int .i64 r, .int .i64 d, .slice a len cap] w fun e w' => e = .returned (.bool true) ∧ Below w.heap.size w w' := by
  have hroom := hI.room
  have HI := Lib.hid hI; clear hI
  by_cases hv : (0 ≤ r ∧ r ≤ 20) ∧ (0 ≤ d ∧ d ≤ 100)
  · obtain ⟨⟨r0, r1⟩, d0, d1⟩ := hv
    clear hr hd
    obtain ⟨i0, hi, hz0, hz1, hz2⟩ := info_parts cvInt
    go_enter Try.func7, Try.ntmps7
    go_wp2_with fail
    refine (bnew_yes _ _ _ r0 r1 d0 d1).mono ?_
    rintro e w1 ⟨rfl, ho, hg⟩
    have H1 := Lib.hid ho; clear ho
    have B1 : Hid (Below w.heap.size w w1) := below_new hg
    clear hg
    have hwb : w.heap.size ≤ w.heap.size := Nat.le_refl _
    obtain ⟨b, hb⟩ : ∃ b, b = w.heap.size := ⟨_, rfl⟩
    have hsz : w.heap.size ≤ b := by omega
    rw [← hb] at H1 ⊢
    have HEQ := Lib.hid hb; clear hb hwb
    have hk0 : BkOk r d d 0 := ⟨r0, r1, d0, d1, d0, by omega, by omega, by omega⟩
    have e0 : fillB r d d 0 0 = d := by unfold fillB; simp
    have C0 := Lib.hid (btake_yes b r d d 0 0 0 w1 H1.out hk0 (by omega) (by omega) (by omega) (by omega) (by omega) (by rw [e0]; exact d0))
    rw [e0] at C0
    clear e0 hk0
    go_wp2_with fail
    refine C0.out.mono ?_
    clear C0
    rintro e w2 ⟨rfl, ho, hg⟩
    rw [Int.sub_zero] at ho
    have H2 := Lib.hid ho
    have B2 : Hid (Below w.heap.size w w2) := B1.out.trans (below_grown hg hsz H1.out.lt)
    clear hg ho H1
    have HS0 : Hid (Shp r d d 0 0 0 []) := Shp.start d0
    go_wp2_with fail
    go_loopw [11, 12, 13, 14] (fun v11 v12 v13 v14 wr => ∃ (t : Nat) (h l S : Int) (cs : List Int), t ≤ 16 ∧ v14 = .int .i64 t ∧ v13 = .int .i64 S ∧ 0 ≤ S ∧ S ≤ 420 ∧ 0 ≤ h ∧ h ≤ d ∧ 0 ≤ l ∧ l ≤ t ∧ Hid (Shp r d h l t S cs) ∧ Buck wr b r d h l ∧ wr.ownsRow (b + 1) 3 1 v11 t (cs.map (.int .i64)) ∧ wr.ownsRow (b + 1) 3 1 v12 t ((limL r d t).map (.int .i64)) ∧ Apt v11 v12 ∧ Below w.heap.size w wr)
      (fun _ _ _ v14 _ => 16 - (intOf v14).toNat)
    case atStart => exact ⟨0, d, 0, 0, [], by omega, rfl, rfl, by omega, by omega, d0, by omega, by omega, by omega, HS0.out, H2.out, World.ownsRow_nil _ _ _ _, World.ownsRow_nil _ _ _ _, (by intro g hg; simp [Value.ownBlock] at hg), B2.out⟩
    case round =>
      clear H2 B2 HS0
      obtain ⟨t, h, l, S, cs, ht, rfl, rfl, S0, S1, h0, h1, l0, l1, HSH, hT, hA, hM, hP, hB⟩ := hrel
      have HB := Lib.hid hB; clear hB
      have HT := Lib.hid hT; clear hT
      have HA := Lib.hid hA; clear hA
      have HM := Lib.hid hM; clear hM
      have HP := Lib.hid hP; clear hP
      by_cases hlt : t < 16
      · have HO := Lib.hid (show BkOk r d h l from ⟨r0, r1, d0, d1, h0, h1, l0, by omega⟩)
        have hrt := lim_bound r0 r1 t (by omega)
        have HFW := Lib.hid (fill_wait (d := d) (h := h) (l := l) (t := t) r0)
        have HF0 := Lib.hid (fill_ok HO.out (at_ := (t : Int)) l1 (by omega))
        by_cases hln : t < len
        · obtain ⟨tb, toff, rfl, htb, hti⟩ := HI.out.cell t hln
          have hcx := (HB.out.cell (p := ⟨tb, toff + t, none⟩) htb).trans hti
          have HCX := Lib.hid hti; clear hti
          have hfit := HI.out.fits t
          generalize zs.getD t 0 = n at *
          by_cases hn : 0 ≤ n ∧ n ≤ 100
          · obtain ⟨n0, n1⟩ := hn
            by_cases hf : n ≤ fillB r d h l t
            · have C := Lib.hid (btake_yes b r d h l t n wr HT.out HO.out (by omega) (by omega) n0 n1 l1 hf)
              have HN : Hid (Shp r d (fillB r d h l t - n) t (t + 1) (S + n) (cs ++ [S + n])) := HSH.out.step r0 d0 n0 hf (fill_took r0)
              have HFN := Lib.hid (fill_ok (show BkOk r d (fillB r d h l t - n) t from ⟨r0, r1, d0, d1, by omega, by have := HF0.out; omega, by omega, by omega⟩) (at_ := ((t + 1 : Nat) : Int)) (by omega) (by omega))
              obtain ⟨hf0, hf1⟩ := HF0.out
              have hSf := HSH.out.top
              clear HFW
              generalize fillB r d h l t = f at *
              go_wp2_with fail
              refine C.out.mono ?_
              clear C
              rintro e w3 ⟨rfl, ho, hg⟩
              have HT3 := Lib.hid ho
              have B3 : Hid (Below w.heap.size w w3) := HB.out.trans (below_grown hg hsz HT.out.lt)
              have HA3 := Lib.hid (HA.out.kept hg (own_other HA.out))
              have HM3 := Lib.hid (HM.out.kept hg (own_other HM.out))
              have hc3 := (B3.out.cell (p := ⟨tb, toff + t, none⟩) htb).trans HCX.out
              clear ho hg hcx
              have hbw : b + 1 ≤ w3.heap.size := HT3.out.lt
              go_wp2_with (first | (at_builtin; go_loud (refine wpList_append_lies _ rfl (.tmp 74) (.tmp 76) 22 rfl (b + 1) 3 i0 (.int .i64 0) 1 8 Try.underlying22 hi hz0 hz1 hz2 rfl (by decide) _ _ _ rfl (HA3.out.alloc _) ⟨w3.heap.size, 0, none⟩ 1 1 [.int .i64 (S + n)] rfl rfl (cell_one_new _ _ _) (by intro u hu; simp at hu; subst hu; rfl) (by decide) (by unfold maxLen; omega) (by omega) (by simp; omega) _ rfl ?_)))
              intro g1 cap1 w4 hown1 hgrow1 hat1 hlt1
              have HB4 : Hid (Below w.heap.size w w4) := below_row (B3.out.alloc B3.out.size _) hgrow1 (b := b + 1) (by omega) (by have := B3.out.size; simp; omega) (HA3.out.alloc (.cells #[.int .i64 (S + n)] 3 (0, 0)))
              have HT4 : Hid (Buck w4 b r d (f - n) (t)) := Obj.kept (Obj.alloc HT3.out _) hgrow1 (fun e => by have := (HA3.out.lt b e.symm).1; omega)
              have HM4 := Lib.hid ((HM3.out.alloc _).kept hgrow1 HP.out.kept)
              have HP4 := Lib.hid (HP.out.next (n' := t + 1) (c := cap1) (HM3.out.alloc (.cells #[.int .i64 (S + n)] 3 (0, 0))) (H := w3.heap.size + 1) (by simp) hat1)
              have HA4 := Lib.hid hown1
              have hbw4 : b + 1 ≤ w4.heap.size := HT4.out.lt
              clear hown1 hgrow1 hat1 hlt1 HA3 HM3 HT3
              go_wp2_with (first | (at_builtin; go_loud (refine wpList_append_lies _ rfl (.tmp 78) (.tmp 84) 22 rfl (b + 1) 3 i0 (.int .i64 0) 1 8 Try.underlying22 hi hz0 hz1 hz2 rfl (by decide) _ _ _ rfl (HM4.out.alloc _) ⟨w4.heap.size, 0, none⟩ 1 1 [.int .i64 (d + r * t)] rfl rfl (cell_one_new _ _ _) (by intro u hu; simp at hu; subst hu; rfl) (by decide) (by unfold maxLen; omega) (by omega) (by simp; omega) _ rfl ?_)))
              intro g2 cap2 w5 hown2 hgrow2 hat2 hlt2
              have HB5 : Hid (Below w.heap.size w w5) := below_row (HB4.out.alloc HB4.out.size _) hgrow2 (b := b + 1) (by omega) (by have := HB4.out.size; simp; omega) (HM4.out.alloc (.cells #[.int .i64 (d + r * t)] 3 (0, 0)))
              have HT5 : Hid (Buck w5 b r d (f - n) (t)) := Obj.kept (Obj.alloc HT4.out _) hgrow2 (fun e => by have := (HM4.out.lt b e.symm).1; omega)
              have HA5 := Lib.hid ((HA4.out.alloc _).kept hgrow2 HP4.out.symm.kept)
              have HP5 := Lib.hid ((HP4.out.symm.next (n' := t + 1) (c := cap2) (HA4.out.alloc (.cells #[.int .i64 (d + r * t)] 3 (0, 0))) (H := w4.heap.size + 1) (by simp) hat2).symm)
              have HM5 := Lib.hid hown2
              have htop := HN.out.top
              have hfn := HFN.out
              have hrt2 := lim_bound r0 r1 (t + 1) (by omega)
              clear hown2 hgrow2 hat2 hlt2 HA4 HM4 HB4
              go_wp2_with fail
              go_roundw
              case rel => exact ⟨t + 1, f - n, t, S + n, cs ++ [S + n], by omega, by go_num, by go_num, by omega, by omega, by omega, by omega, by omega, by omega, HN.out, HT5.out, by simpa using HA5.out, by rw [limL_succ]; simpa using HM5.out, HP5.out, HB5.out⟩
              case measure => simp [intOf] <;> omega
            · have hf2 : fillB r d h l t < n := by omega
              clear hf
              have C := Lib.hid (btake_short b r d h l t n wr HT.out HO.out (by omega) (by omega) n0 n1 l1 hf2)
              have HN0 : Shp r d (fillB r d h l t) t (t + 1) (S + 0) (cs ++ [S + 0]) := HSH.out.step r0 d0 (Int.le_refl _) HF0.out.1 (by have := fill_took (d := d) (f := fillB r d h l t) (n := 0) (t := t) r0; rw [Int.sub_zero] at this ⊢; exact this)
              rw [Int.add_zero] at HN0
              have HN := Lib.hid HN0; clear HN0
              have HFN := Lib.hid (fill_ok (show BkOk r d (fillB r d h l t) t from ⟨r0, r1, d0, d1, HF0.out.1, HF0.out.2, by omega, by omega⟩) (at_ := ((t + 1 : Nat) : Int)) (by omega) (by omega))
              obtain ⟨hf0, hf1⟩ := HF0.out
              clear HFW
              generalize fillB r d h l t = f at *
              go_wp2_with fail
              refine C.out.mono ?_
              clear C
              rintro e w3 ⟨rfl, ho, hg⟩
              have HT3 := Lib.hid ho
              have B3 : Hid (Below w.heap.size w w3) := HB.out.trans (below_grown hg hsz HT.out.lt)
              have HA3 := Lib.hid (HA.out.kept hg (own_other HA.out))
              have HM3 := Lib.hid (HM.out.kept hg (own_other HM.out))
              have hc3 := (B3.out.cell (p := ⟨tb, toff + t, none⟩) htb).trans HCX.out
              clear ho hg hcx
              have hbw : b + 1 ≤ w3.heap.size := HT3.out.lt
              go_wp2_with (first | (at_builtin; go_loud (refine wpList_append_lies _ rfl (.tmp 74) (.tmp 76) 22 rfl (b + 1) 3 i0 (.int .i64 0) 1 8 Try.underlying22 hi hz0 hz1 hz2 rfl (by decide) _ _ _ rfl (HA3.out.alloc _) ⟨w3.heap.size, 0, none⟩ 1 1 [.int .i64 (S)] rfl rfl (cell_one_new _ _ _) (by intro u hu; simp at hu; subst hu; rfl) (by decide) (by unfold maxLen; omega) (by omega) (by simp; omega) _ rfl ?_)))
              intro g1 cap1 w4 hown1 hgrow1 hat1 hlt1
              have HB4 : Hid (Below w.heap.size w w4) := below_row (B3.out.alloc B3.out.size _) hgrow1 (b := b + 1) (by omega) (by have := B3.out.size; simp; omega) (HA3.out.alloc (.cells #[.int .i64 (S)] 3 (0, 0)))
              have HT4 : Hid (Buck w4 b r d (f) (t)) := Obj.kept (Obj.alloc HT3.out _) hgrow1 (fun e => by have := (HA3.out.lt b e.symm).1; omega)
              have HM4 := Lib.hid ((HM3.out.alloc _).kept hgrow1 HP.out.kept)
              have HP4 := Lib.hid (HP.out.next (n' := t + 1) (c := cap1) (HM3.out.alloc (.cells #[.int .i64 (S)] 3 (0, 0))) (H := w3.heap.size + 1) (by simp) hat1)
              have HA4 := Lib.hid hown1
              have hbw4 : b + 1 ≤ w4.heap.size := HT4.out.lt
              clear hown1 hgrow1 hat1 hlt1 HA3 HM3 HT3
              go_wp2_with (first | (at_builtin; go_loud (refine wpList_append_lies _ rfl (.tmp 78) (.tmp 84) 22 rfl (b + 1) 3 i0 (.int .i64 0) 1 8 Try.underlying22 hi hz0 hz1 hz2 rfl (by decide) _ _ _ rfl (HM4.out.alloc _) ⟨w4.heap.size, 0, none⟩ 1 1 [.int .i64 (d + r * t)] rfl rfl (cell_one_new _ _ _) (by intro u hu; simp at hu; subst hu; rfl) (by decide) (by unfold maxLen; omega) (by omega) (by simp; omega) _ rfl ?_)))
              intro g2 cap2 w5 hown2 hgrow2 hat2 hlt2
              have HB5 : Hid (Below w.heap.size w w5) := below_row (HB4.out.alloc HB4.out.size _) hgrow2 (b := b + 1) (by omega) (by have := HB4.out.size; simp; omega) (HM4.out.alloc (.cells #[.int .i64 (d + r * t)] 3 (0, 0)))
              have HT5 : Hid (Buck w5 b r d (f) (t)) := Obj.kept (Obj.alloc HT4.out _) hgrow2 (fun e => by have := (HM4.out.lt b e.symm).1; omega)
              have HA5 := Lib.hid ((HA4.out.alloc _).kept hgrow2 HP4.out.symm.kept)
              have HP5 := Lib.hid ((HP4.out.symm.next (n' := t + 1) (c := cap2) (HA4.out.alloc (.cells #[.int .i64 (d + r * t)] 3 (0, 0))) (H := w4.heap.size + 1) (by simp) hat2).symm)
              have HM5 := Lib.hid hown2
              have htop := HN.out.top
              have hfn := HFN.out
              have hrt2 := lim_bound r0 r1 (t + 1) (by omega)
              clear hown2 hgrow2 hat2 hlt2 HA4 HM4 HB4
              go_wp2_with fail
              go_roundw
              case rel => exact ⟨t + 1, f, t, S, cs ++ [S], by omega, by go_num, by go_num, by omega, by omega, by omega, by omega, by omega, by omega, HN.out, HT5.out, by simpa using HA5.out, by rw [limL_succ]; simpa using HM5.out, HP5.out, HB5.out⟩
              case measure => simp [intOf] <;> omega
          · have HV := Lib.hid (show ((t : Int) < 0 ∨ 1000 < (t : Int)) ∨ (n < 0 ∨ 100 < n) by omega)
            clear hn
            have C : Hid (Calls Try.prog 18 #[.pointer (some ⟨b, 0, none⟩), .int .i64 t, .int .i64 n] wr fun e w'' => e = .returned (.tuple #[.bool false, errV 1]) ∧ Buck w'' b r d h l ∧ wr.grownBy w'' (some b)) :=
              (btake_no b t n wr HV.out).mono fun e w'' ⟨h1, h2⟩ => ⟨h1, by subst h2; exact HT.out, by subst h2; exact grown_refl _ _⟩
            have HN0 : Shp r d h l (t + 1) (S + 0) (cs ++ [S + 0]) := HSH.out.step r0 d0 (Int.le_refl _) HF0.out.1 HFW.out
            rw [Int.add_zero] at HN0
            have HN := Lib.hid HN0; clear HN0
            have HFN := Lib.hid (fill_ok HO.out (at_ := ((t + 1 : Nat) : Int)) (by omega) (by omega))
            clear HFW HF0
            go_wp2_with fail
            refine C.out.mono ?_
            clear C
            rintro e w3 ⟨rfl, ho, hg⟩
            have HT3 := Lib.hid ho
            have B3 : Hid (Below w.heap.size w w3) := HB.out.trans (below_grown hg hsz HT.out.lt)
            have HA3 := Lib.hid (HA.out.kept hg (own_other HA.out))
            have HM3 := Lib.hid (HM.out.kept hg (own_other HM.out))
            have hc3 := (B3.out.cell (p := ⟨tb, toff + t, none⟩) htb).trans HCX.out
            clear ho hg hcx
            have hbw : b + 1 ≤ w3.heap.size := HT3.out.lt
            go_wp2_with (first | (at_builtin; go_loud (refine wpList_append_lies _ rfl (.tmp 74) (.tmp 76) 22 rfl (b + 1) 3 i0 (.int .i64 0) 1 8 Try.underlying22 hi hz0 hz1 hz2 rfl (by decide) _ _ _ rfl (HA3.out.alloc _) ⟨w3.heap.size, 0, none⟩ 1 1 [.int .i64 (S)] rfl rfl (cell_one_new _ _ _) (by intro u hu; simp at hu; subst hu; rfl) (by decide) (by unfold maxLen; omega) (by omega) (by simp; omega) _ rfl ?_)))
            intro g1 cap1 w4 hown1 hgrow1 hat1 hlt1
            have HB4 : Hid (Below w.heap.size w w4) := below_row (B3.out.alloc B3.out.size _) hgrow1 (b := b + 1) (by omega) (by have := B3.out.size; simp; omega) (HA3.out.alloc (.cells #[.int .i64 (S)] 3 (0, 0)))
            have HT4 : Hid (Buck w4 b r d (h) (l)) := Obj.kept (Obj.alloc HT3.out _) hgrow1 (fun e => by have := (HA3.out.lt b e.symm).1; omega)
            have HM4 := Lib.hid ((HM3.out.alloc _).kept hgrow1 HP.out.kept)
            have HP4 := Lib.hid (HP.out.next (n' := t + 1) (c := cap1) (HM3.out.alloc (.cells #[.int .i64 (S)] 3 (0, 0))) (H := w3.heap.size + 1) (by simp) hat1)
            have HA4 := Lib.hid hown1
            have hbw4 : b + 1 ≤ w4.heap.size := HT4.out.lt
            clear hown1 hgrow1 hat1 hlt1 HA3 HM3 HT3
            go_wp2_with (first | (at_builtin; go_loud (refine wpList_append_lies _ rfl (.tmp 78) (.tmp 84) 22 rfl (b + 1) 3 i0 (.int .i64 0) 1 8 Try.underlying22 hi hz0 hz1 hz2 rfl (by decide) _ _ _ rfl (HM4.out.alloc _) ⟨w4.heap.size, 0, none⟩ 1 1 [.int .i64 (d + r * t)] rfl rfl (cell_one_new _ _ _) (by intro u hu; simp at hu; subst hu; rfl) (by decide) (by unfold maxLen; omega) (by omega) (by simp; omega) _ rfl ?_)))
            intro g2 cap2 w5 hown2 hgrow2 hat2 hlt2
            have HB5 : Hid (Below w.heap.size w w5) := below_row (HB4.out.alloc HB4.out.size _) hgrow2 (b := b + 1) (by omega) (by have := HB4.out.size; simp; omega) (HM4.out.alloc (.cells #[.int .i64 (d + r * t)] 3 (0, 0)))
            have HT5 : Hid (Buck w5 b r d (h) (l)) := Obj.kept (Obj.alloc HT4.out _) hgrow2 (fun e => by have := (HM4.out.lt b e.symm).1; omega)
            have HA5 := Lib.hid ((HA4.out.alloc _).kept hgrow2 HP4.out.symm.kept)
            have HP5 := Lib.hid ((HP4.out.symm.next (n' := t + 1) (c := cap2) (HA4.out.alloc (.cells #[.int .i64 (d + r * t)] 3 (0, 0))) (H := w4.heap.size + 1) (by simp) hat2).symm)
            have HM5 := Lib.hid hown2
            have htop := HN.out.top
            have hfn := HFN.out
            have hrt2 := lim_bound r0 r1 (t + 1) (by omega)
            clear hown2 hgrow2 hat2 hlt2 HA4 HM4 HB4
            go_wp2_with fail
            go_roundw
            case rel => exact ⟨t + 1, h, l, S, cs ++ [S], by omega, by go_num, by go_num, by omega, by omega, by omega, by omega, by omega, by omega, HN.out, HT5.out, by simpa using HA5.out, by rw [limL_succ]; simpa using HM5.out, HP5.out, HB5.out⟩
            case measure => simp [intOf] <;> omega
        · have hln2 : len ≤ t := by omega
          clear hln
          have HN0 : Shp r d h l (t + 1) (S + 0) (cs ++ [S + 0]) := HSH.out.step r0 d0 (Int.le_refl _) HF0.out.1 HFW.out
          rw [Int.add_zero] at HN0
          have HN := Lib.hid HN0; clear HN0
          have HFN := Lib.hid (fill_ok HO.out (at_ := ((t + 1 : Nat) : Int)) (by omega) (by omega))
          clear HFW HF0
          have HT3 := HT
          have B3 := HB
          have HA3 := HA
          have HM3 := HM
          have hbw : b + 1 ≤ wr.heap.size := HT3.out.lt
          go_wp2_with (first | (at_builtin; go_loud (refine wpList_append_lies _ rfl (.tmp 74) (.tmp 76) 22 rfl (b + 1) 3 i0 (.int .i64 0) 1 8 Try.underlying22 hi hz0 hz1 hz2 rfl (by decide) _ _ _ rfl (HA3.out.alloc _) ⟨wr.heap.size, 0, none⟩ 1 1 [.int .i64 (S)] rfl rfl (cell_one_new _ _ _) (by intro u hu; simp at hu; subst hu; rfl) (by decide) (by unfold maxLen; omega) (by omega) (by simp; omega) _ rfl ?_)))
          intro g1 cap1 w4 hown1 hgrow1 hat1 hlt1
          have HB4 : Hid (Below w.heap.size w w4) := below_row (B3.out.alloc B3.out.size _) hgrow1 (b := b + 1) (by omega) (by have := B3.out.size; simp; omega) (HA3.out.alloc (.cells #[.int .i64 (S)] 3 (0, 0)))
          have HT4 : Hid (Buck w4 b r d (h) (l)) := Obj.kept (Obj.alloc HT3.out _) hgrow1 (fun e => by have := (HA3.out.lt b e.symm).1; omega)
          have HM4 := Lib.hid ((HM3.out.alloc _).kept hgrow1 HP.out.kept)
          have HP4 := Lib.hid (HP.out.next (n' := t + 1) (c := cap1) (HM3.out.alloc (.cells #[.int .i64 (S)] 3 (0, 0))) (H := wr.heap.size + 1) (by simp) hat1)
          have HA4 := Lib.hid hown1
          have hbw4 : b + 1 ≤ w4.heap.size := HT4.out.lt
          clear hown1 hgrow1 hat1 hlt1 HA3 HM3 HT3
          go_wp2_with (first | (at_builtin; go_loud (refine wpList_append_lies _ rfl (.tmp 78) (.tmp 84) 22 rfl (b + 1) 3 i0 (.int .i64 0) 1 8 Try.underlying22 hi hz0 hz1 hz2 rfl (by decide) _ _ _ rfl (HM4.out.alloc _) ⟨w4.heap.size, 0, none⟩ 1 1 [.int .i64 (d + r * t)] rfl rfl (cell_one_new _ _ _) (by intro u hu; simp at hu; subst hu; rfl) (by decide) (by unfold maxLen; omega) (by omega) (by simp; omega) _ rfl ?_)))
          intro g2 cap2 w5 hown2 hgrow2 hat2 hlt2
          have HB5 : Hid (Below w.heap.size w w5) := below_row (HB4.out.alloc HB4.out.size _) hgrow2 (b := b + 1) (by omega) (by have := HB4.out.size; simp; omega) (HM4.out.alloc (.cells #[.int .i64 (d + r * t)] 3 (0, 0)))
          have HT5 : Hid (Buck w5 b r d (h) (l)) := Obj.kept (Obj.alloc HT4.out _) hgrow2 (fun e => by have := (HM4.out.lt b e.symm).1; omega)
          have HA5 := Lib.hid ((HA4.out.alloc _).kept hgrow2 HP4.out.symm.kept)
          have HP5 := Lib.hid ((HP4.out.symm.next (n' := t + 1) (c := cap2) (HA4.out.alloc (.cells #[.int .i64 (d + r * t)] 3 (0, 0))) (H := w4.heap.size + 1) (by simp) hat2).symm)
          have HM5 := Lib.hid hown2
          have htop := HN.out.top
          have hfn := HFN.out
          have hrt2 := lim_bound r0 r1 (t + 1) (by omega)
          clear hown2 hgrow2 hat2 hlt2 HA4 HM4 HB4
          go_wp2_with fail
          go_roundw
          case rel => exact ⟨t + 1, h, l, S, cs ++ [S], by omega, by go_num, by go_num, by omega, by omega, by omega, by omega, by omega, by omega, HN.out, HT5.out, by simpa using HA5.out, by rw [limL_succ]; simpa using HM5.out, HP5.out, HB5.out⟩
          case measure => simp [intOf] <;> omega
      · obtain rfl : t = 16 := by omega
        have hf := fill_ok (show BkOk r d h l from ⟨r0, r1, d0, d1, h0, h1, l0, by omega⟩) (at_ := ((16 : Nat) : Int)) l1 (by decide)
        have HC1 := Lib.hid (shp_curve HSH.out r0 r1 d0 d1 hf.1)
        have HC2 := Lib.hid (lim_curve r0 r1 d0 d1)
        have HFI := Lib.hid (shp_fits HSH.out)
        have hcl := HSH.out.len
        obtain ⟨g1, c1, hv1, hcel1, _⟩ := Cel.form HA.out (by decide)
        obtain ⟨g2, c2, hv2, hcel2, _⟩ := Cel.form HM.out (by decide)
        subst hv1 hv2
        have J1 := Lib.hid (hcel1.ints (n := 16) hcl (by decide) (fun k => by
          rcases Nat.lt_or_ge k cs.length with h9 | h9
          · have := HC1.out.fits k h9; omega
          · rw [List.getD_eq_getElem?_getD, List.getElem?_eq_none h9]; simp))
        have J2 := Lib.hid (hcel2.ints (n := 16) (limL_len _ _ _) (by decide) (fun k => by
          rcases Nat.lt_or_ge k (limL r d 16).length with h9 | h9
          · have := HC2.out.fits k h9; omega
          · rw [List.getD_eq_getElem?_getD, List.getElem?_eq_none h9]; simp))
        have HBO := Lib.hid (both_mk HC1.out HC2.out (by rw [hcl, limL_len]))
        clear hcel1 hcel2 hcl hf hlt
        go_wp2_with fail
        refine (fits_yes _ _ 16 c1 c2 cs (limL r d 16) _ _ wr J1.out J2.out HBO.out HFI.out).mono ?_
        rintro e w5 ⟨rfl, hdr⟩
        have B5 : Hid (Below w.heap.size w w5) := HB.out.trans (Drawn.below hdr)
        clear hdr
        go_wp2_with fail
        go_ret
        exact ⟨rfl, B5.out⟩
  · have HV := Lib.hid (show (r < 0 ∨ 20 < r) ∨ (d < 0 ∨ 100 < d) by omega)
    by_cases hr2 : 0 ≤ r ∧ r ≤ 20
    · obtain ⟨r0, r1⟩ := hr2
      have HV2 := Lib.hid (show d < 0 ∨ 100 < d by omega)
      clear hv
      go_enter Try.func7, Try.ntmps7
      go_wp2_with fail
      refine (bnew_no _ _ _ HV.out).mono ?_
      rintro e w' ⟨rfl, rfl⟩
      go_wp2_with fail
      refine (tin_in _ _ _ _ r0 r1).mono ?_
      rintro e w' ⟨rfl, rfl⟩
      go_wp2_with fail
      refine (tin_out _ _ _ _ HV2.out).mono ?_
      rintro e w' ⟨rfl, rfl⟩
      go_wp2
      go_ret
      exact ⟨rfl, Below.refl _ _⟩
    · have HV2 := Lib.hid (show r < 0 ∨ 20 < r by omega)
      clear hv hr2
      go_enter Try.func7, Try.ntmps7
      go_wp2_with fail
      refine (bnew_no _ _ _ HV.out).mono ?_
      rintro e w' ⟨rfl, rfl⟩
      go_wp2_with fail
      refine (tin_out _ _ _ _ HV2.out).mono ?_
      rintro e w' ⟨rfl, rfl⟩
      go_wp2
      go_ret
      exact ⟨rfl, Below.refl _ _⟩
end Go.Proofs.Ytikdpjedlbkkjaa.topShapes
