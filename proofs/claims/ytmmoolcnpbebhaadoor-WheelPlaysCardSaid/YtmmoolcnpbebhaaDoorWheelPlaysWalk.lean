/- WheelPlays returns true for every input: the walk. -/
import Derived.Test.YtmmoolcnpbebhaaDoorKpPlay
import Derived.Test.YtmmoolcnpbebhaaDoorTold
import Derived.Test.YtmmoolcnpbebhaaDoorInts
import Derived.Deep.RegionHeld3
import Derived.Deep.RegionLaw
import Derived.Deep.Matrix
namespace Go.Proofs.YtmmoolcnpbebhaaDoor.wheelPlays
open Go.RowKit
set_option linter.unusedSimpArgs false
set_option linter.unusedVariables false

theorem grown_row {a b c : World} {lb : Nat} {r : Option Nat} (h : a.grownBy b (some lb)) (k : b.grownBy c r) (hr : ∀ g, r = some g → a.heap.size ≤ g) : a.grownBy c (some lb) :=
  ⟨k.os.trans h.os, k.tape.trans h.tape, k.output.trans h.output, Nat.le_trans h.size k.size, fun j hj hne => (k.block j (Nat.lt_of_lt_of_le hj h.size) (fun e => by have := hr j e.symm; omega)).trans (h.block j hj hne)⟩

set_option maxHeartbeats 16000000 in
set_option maxRecDepth 100000 in
theorem walk (a : Option Addr) (len cap : Nat) (A : Nat → Option Addr) (L C : Nat → Nat) (Z : Nat → List Int) (w : World) (hI : Grid w w.heap.size a len A L C Z) (hd : Hd w) :
    Calls Tryd.prog 4 #[.slice a len cap] w fun e w' => e = .returned (.bool true) ∧ Below w.heap.size w w' := by
  have hroom := hI.room
  have HI := Lib.hid hI; clear hI
  have HD := Lib.hid hd; clear hd
  obtain ⟨i0, hi0, hz0, hz1, hz2⟩ := info_parts infoW
  go_enter Tryd.func4, Tryd.ntmps4
  go_wp2_with fail
  refine (pwnew w).mono ?_
  rintro e w2 ⟨rfl, h2, hb2⟩
  have H2 := Lib.hid h2
  have B2 := Lib.hid hb2
  have hs2 : w.heap.size ≤ w2.heap.size := hb2.size
  clear h2 hb2
  obtain ⟨wb, hwb⟩ : ∃ wb, wb = w.heap.size + 1 := ⟨_, rfl⟩
  rw [← hwb] at H2 ⊢
  clear hwb
  go_wp2_with (first | (at_make; go_loud (refine wpList_make_full _ rfl _ _ 29 rfl w2.heap.size 3 i0 (.int .i64 0) 1 Tryd.underlying29 hi0 hz0 hz1 .i64 .i64 _ _ 20 rfl rfl rfl rfl (by rw [hz2]; omega) (by unfold maxLen; omega) (Nat.le_refl _) ?_)))
  intro w3 hown hgr
  rw [lcs_made] at hown
  have O3 : Hid (Obj w3 w2.heap.size 3 (lcs fun _ => 0)) := Lib.hid (made_obj hown)
  have P3 : Hid (PW w.heap.size w2.heap.size wb w.heap.size (w.heap.size + 2) w3 (fun _ => none) 0 0) := Lib.hid (pw_new H2.out hgr (Nat.le_refl _) (fun k hk => ⟨.inl hk, hk⟩))
  have B3 : Hid (Below w.heap.size w w3) := Lib.hid (B2.out.grown hgr hs2 (fun k e => by simp at e))
  obtain ⟨lb, hlb⟩ : ∃ lb, lb = w2.heap.size := ⟨_, rfl⟩
  rw [← hlb] at O3 P3 ⊢
  have hClb : w.heap.size ≤ lb := by omega
  have L3 := Lib.hid Lf.start
  clear hown hgr hlb H2 B2 hs2
  go_wp2_with fail
  go_loopw [5] (fun v5 wr => ∃ (k : Nat) (f : Nat → Nat) (d : Nat → Option Nat) (T nm : Nat), k ≤ len ∧ k ≤ 200 ∧ v5 = .int .i64 (k : Int) ∧ T ≤ k ∧ nm ≤ k ∧ Lf f d T ∧ PW w.heap.size lb wb w.heap.size (w.heap.size + 2) wr d T nm ∧ Obj wr lb 3 (lcs f) ∧ Below w.heap.size w wr) (fun v5 _ => len - (intOf v5).toNat)
  case atStart => exact ⟨0, _, _, 0, 0, by omega, by omega, rfl, by omega, by omega, L3.out, P3.out, O3.out, B3.out⟩
  case round =>
    clear P3 O3 B3 L3
    obtain ⟨k, f, d, T, nm, hk, hk200, rfl, hT, hnm, hL, hP, hO, hB⟩ := hrel
    have HL := Lib.hid hL; clear hL
    have P := Lib.hid hP; clear hP
    have O := Lib.hid hO; clear hO
    have HB := Lib.hid hB; clear hB
    have hlb := O.out.lt
    have hC := HB.out.size
    by_cases hlt : k < len ∧ k < 200
    · obtain ⟨hl1, hl2⟩ := hlt
      have g1 : decide ((k : Int) < (len : Int)) = true := by simp; omega
      have g2 : decide ((k : Int) < 200) = true := by simp; omega
      obtain ⟨gb, goff, rfl, hgb, hgc⟩ := HI.out.cell k hl1
      have hrow := HI.out.row k hl1
      have hcx := (HB.out.cell (p := ⟨gb, goff + k, none⟩) hgb).trans hgc
      clear hgc
      generalize A k = ak at *
      generalize L k = lk at *
      generalize C k = ck at *
      generalize Z k = zk at *
      by_cases h0 : lk = 0
      · subst h0
        clear hrow
        obtain ⟨wo, hwo⟩ : ∃ wo : World, wo = wr := ⟨_, rfl⟩
        subst hwo
        go_wp2_with fail
        go_loopw [7, 8] (fun v7 v8 wx => ∃ (i : Nat) (wa : Option Addr) (wc : Nat), i ≤ 20 ∧ v7 = .slice wa (due1 f i).length wc ∧ v8 = .int .i64 (i : Int) ∧ wo.grownBy wx (some lb) ∧ Obj wx lb 3 (lcs (lfT f i)) ∧ wx.ownsRow wo.heap.size 3 1 (.slice wa (due1 f i).length wc) (due1 f i).length (nats (due1 f i))) (fun _ v8 _ => 20 - (intOf v8).toNat)
        case atStart => exact ⟨0, none, 0, by omega, rfl, rfl, grown_refl _ _, by rw [lfT_zero]; exact O.out, World.ownsRow_nil _ _ _ _⟩
        case round =>
          clear O hcx
          obtain ⟨i, wa, wc, hi20, rfl, rfl, hG, hO, hW⟩ := hrel
          have HG := Lib.hid hG; clear hG
          have O := Lib.hid hO; clear hO
          have OW := Lib.hid hW; clear hW
          have hsx := HG.out.size
          by_cases hi : i < 20
          · have c : wr.cell? ⟨lb, i, none⟩ = some (.int .i64 ((f i : Nat) : Int)) := by have := (O.out.cell i).trans (lcs_at (lfT f i) hi); rw [lfT_at] at this; exact this
            have fi := HL.out.le i
            by_cases h0 : f i = 0
            · have c0 : wr.cell? ⟨lb, i, none⟩ = some (.int .i64 0) := by rw [c, h0]; rfl
              have O2 : Hid (Obj wr lb 3 (lcs (lfT f (i + 1)))) := Lib.hid (by rw [← lfT_skip h0]; exact O.out)
              have D2 : Hid (due1 f (i + 1) = due1 f i) := Lib.hid (due1_no (by omega))
              clear c h0 fi
              have e1 : ((0 : Int) == 1) = false := rfl
              have e2 : decide ((0 : Int) > 0) = false := by decide
              go_wp2_with fail
              go_roundw
              case rel => exact ⟨i + 1, wa, wc, by omega, by rw [D2.out], by first | go_num | rfl | simp, HG.out, O2.out, by rw [D2.out]; exact OW.out⟩
              case measure => simp [intOf]; omega
            · obtain ⟨m, hm⟩ : ∃ m, m = f i := ⟨_, rfl⟩
              have HM := Lib.hid hm
              rw [← hm] at c h0 fi
              clear hm
              have e2 : decide ((m : Int) > 0) = true := by simp; omega
              have e3 : IntKind.i64.wrap ((m : Int) - 1) = (m : Int) - 1 := IntWalk.i64_in _ (by omega)
              have hm0 : (0 : Int) < (m : Int) := by omega
              have HE : Hid ((m : Int) - 1 = ((m - 1 : Nat) : Int)) := Lib.hid (by omega)
              by_cases h1 : m = 1
              · have e1 : ((m : Int) == 1) = true := by rw [beq_iff_eq]; omega
                have D2 : Hid (due1 f (i + 1) = due1 f i ++ [i]) := Lib.hid (due1_yes (by rw [← HM.out]; exact h1))
                have DL : Hid ((due1 f (i + 1)).length = (due1 f i).length + 1) := Lib.hid (by rw [D2.out]; simp)
                have hdl := due1_len f i
                obtain ⟨dl, hdl2⟩ : ∃ dl, dl = (due1 f i).length := ⟨_, rfl⟩
                rw [← hdl2] at OW DL hdl ⊢
                have HDL := Lib.hid hdl2
                clear h0 h1 hdl2
                go_wp2_with (first | (at_builtin; go_loud (refine wpList_append_lies _ rfl _ _ 29 rfl wo.heap.size 3 i0 (.int .i64 0) 1 8 Tryd.underlying29 hi0 hz0 hz1 hz2 rfl (by decide) _ _ _ rfl (OW.out.alloc _) ⟨wr.heap.size, 0, none⟩ 1 1 [.int .i64 i] rfl rfl (cell_one_new _ _ _) (by intro u hu; simp at hu; subst hu; rfl) (by decide) (by unfold maxLen; omega) (by omega) (by simp; omega) _ rfl ?_)))
                intro g9 c9 w4 hown1 hgrow1 hat1 hlt1
                have OW4 := Lib.hid hown1
                have hne : (some lb : Option Nat) ≠ (Value.slice wa dl wc).ownBlock := own_ne OW.out hlb
                have O4 : Hid (Obj w4 lb 3 (lcs (lfT f i))) := Lib.hid ((O.out.alloc _).kept hgrow1 hne)
                have G4 : Hid (wo.grownBy w4 (some lb)) := Lib.hid (grown_row (grown_alloc HG.out _) hgrow1 (fun g e => ((OW.out.alloc (.cells #[.int .i64 i] 3 (0, 0))).lt g e).1))
                have c4 : w4.cell? ⟨lb, i, none⟩ = some (.int .i64 (m : Int)) := by have := (O4.out.cell i).trans (lcs_at (lfT f i) hi); rw [lfT_at, ← HM.out] at this; exact this
                have f4 := O4.out.free i
                clear hown1 hgrow1 hat1 hlt1 c hne e1
                go_wp2_with fail
                have O5 : Hid (Obj (w4.setCell ⟨lb, i, none⟩ (.int .i64 ((m : Int) - 1))) lb 3 (lcs (lfT f (i + 1)))) := Lib.hid (by
                  have Z := O4.out.set i (.int .i64 ((m : Int) - 1))
                  rw [HE.out, lcs_set, HM.out, lfT_put, ← HM.out, ← HE.out] at Z
                  exact Z)
                have G5 : Hid (wo.grownBy (w4.setCell ⟨lb, i, none⟩ (.int .i64 ((m : Int) - 1))) (some lb)) := grown_set G4.out _ _
                have OW5 : Hid ((w4.setCell ⟨lb, i, none⟩ (.int .i64 ((m : Int) - 1))).ownsRow wo.heap.size 3 1 (.slice (some ⟨g9, 0, none⟩) (dl + 1) c9) (dl + 1) (nats (due1 f (i + 1)))) := Lib.hid (by
                  have Z := own_keep OW4.out (grown_set (grown_refl w4 (some lb)) i (.int .i64 ((m : Int) - 1))) (fun g e e' => by have := (OW4.out.lt g e).1; simp at e'; omega)
                  rw [D2.out]
                  simpa [nats] using Z)
                generalize w4.setCell ⟨lb, i, none⟩ (.int .i64 ((m : Int) - 1)) = w5 at *
                go_roundw
                case rel => exact ⟨i + 1, some ⟨g9, 0, none⟩, c9, by omega, by rw [DL.out], by first | go_num | rfl | simp, G5.out, O5.out, by rw [DL.out]; exact OW5.out⟩
                case measure => simp [intOf]; omega
              · have e1 : ((m : Int) == 1) = false := by rw [beq_eq_false_iff_ne]; omega
                have D2 : Hid (due1 f (i + 1) = due1 f i) := Lib.hid (due1_no (by rw [← HM.out]; exact h1))
                have fr := O.out.free i
                clear h0 h1
                go_wp2_with fail
                have O5 : Hid (Obj (wr.setCell ⟨lb, i, none⟩ (.int .i64 ((m : Int) - 1))) lb 3 (lcs (lfT f (i + 1)))) := Lib.hid (by
                  have Z := O.out.set i (.int .i64 ((m : Int) - 1))
                  rw [HE.out, lcs_set, HM.out, lfT_put, ← HM.out, ← HE.out] at Z
                  exact Z)
                have G5 : Hid (wo.grownBy (wr.setCell ⟨lb, i, none⟩ (.int .i64 ((m : Int) - 1))) (some lb)) := grown_set HG.out _ _
                have OW5 : Hid ((wr.setCell ⟨lb, i, none⟩ (.int .i64 ((m : Int) - 1))).ownsRow wo.heap.size 3 1 (.slice wa (due1 f i).length wc) (due1 f i).length (nats (due1 f i))) := Lib.hid (own_keep OW.out (grown_set (grown_refl wr (some lb)) i (.int .i64 ((m : Int) - 1))) (fun g e e' => by have := (OW.out.lt g e).1; simp at e'; omega))
                generalize wr.setCell ⟨lb, i, none⟩ (.int .i64 ((m : Int) - 1)) = w5 at *
                go_roundw
                case rel => exact ⟨i + 1, wa, wc, by omega, by rw [D2.out], by first | go_num | rfl | simp, G5.out, O5.out, by rw [D2.out]; exact OW5.out⟩
                case measure => simp [intOf]; omega
          · obtain rfl : i = 20 := by omega
            have hO20 : lcs (lfT f 20) = lcs (fun i => f i - 1) := lcs_congr fun j hj => if_pos hj
            have HO20 := Lib.hid hO20
            have d20 := due1_len f 20
            obtain ⟨wl, hwl⟩ : ∃ wl, wl = due1 f 20 := ⟨_, rfl⟩
            rw [← hwl] at OW d20 ⊢
            have HWL := Lib.hid hwl
            have HW20 : Hid (∀ x ∈ wl, x ≤ 20) := Lib.hid (fun x hx => by rw [hwl] at hx; have := (due1_mem.1 hx).1; omega)
            clear hwl hO20
            go_wp2_with fail
            refine (pwtick P.out hlb hC HG.out (by omega)).mono ?_
            rintro e w3 ⟨ra, rc, rs, rfl, hp3, hi3, hb3, hl3, hk3, hm, hn, hr⟩
            obtain rfl : rs = wl := (HL.out.due hm hn hr).trans HWL.out.symm
            have P3 := Lib.hid hp3
            have I3 := Lib.hid hi3
            have I4 : Hid (Ints w3 w3.heap.size wa rs.length (rs.map fun i : Nat => (i : Int))) := Lib.hid (nats_ints (own_kp OW.out (fun g e => hk3 g (OW.out.lt g e).1 (OW.out.lt g e).2)) (by omega) (fun x hx => by have := HW20.out x hx; omega))
            have O3 : Hid (Obj w3 lb 3 (lcs (fun i => f i - 1))) := Lib.hid (by rw [← HO20.out]; exact hl3.trans O.out)
            have B3 : Hid (Below w.heap.size w w3) := Lib.hid ((HB.out.grown HG.out hC (fun k e => by have : k = lb := (by simpa using e.symm); omega)).trans hb3)
            clear hp3 hi3 hb3 hl3 hk3 hm hn hr O OW HG P
            go_wp2_with fail
            refine (same_yes ra wa _ rc wc _ _ _ _ I3.out I4.out).mono ?_
            rintro e w4 ⟨rfl, n, rfl⟩
            have hs3 := B3.out.size
            have P4 := Lib.hid (P3.out.grown O3.out.lt hs3 (grown_drewN (grown_refl w3 none) n) (fun k e => by simp at e))
            have B4 := Lib.hid (below_drewN B3.out n)
            have O4 : Hid (Obj (w3.drewN n) lb 3 (lcs (fun i => f i - 1))) := O3.out
            generalize w3.drewN n = w4 at *
            clear P3 I3 I4 O3 B3
            go_wp2_with fail
            go_roundw
            case rel => exact ⟨k + 1, fun i => f i - 1, d, T + 1, nm, by omega, by omega, by first | go_num | rfl | simp, by omega, by omega, HL.out.tick, P4.out, O4.out, B4.out⟩
            case measure => simp [intOf]; omega
      · by_cases h1 : lk = 1
        · subst h1

          obtain ⟨ib, ioff, rfl, hib, hi0⟩ := hrow.cell 0 (by omega)
          have fz0 := hrow.fits 0
          have hc0 := (HB.out.cell (p := ⟨ib, ioff, none⟩) hib).trans hi0
          have HI0 := Lib.hid hi0; clear hi0
          clear hrow
          generalize zk.getD 0 0 = z0 at *
          by_cases hz : 0 ≤ z0 ∧ z0 ≤ 19
          · obtain ⟨i, rfl⟩ : ∃ i : Nat, z0 = (i : Int) := ⟨z0.toNat, by omega⟩
            have hi : i < 20 := by omega
            have hii : (i : Int) < 20 := by omega
            have hi00 : ¬ ((i : Int) < 0) := by omega
            have c := (O.out.cell i).trans (lcs_at f hi)
            have fr := O.out.free i
            have fi := HL.out.le i
            by_cases f0 : f i = 0
            · have HN := Lib.hid (HL.out.off f0)
              have c0 : wr.cell? ⟨lb, i, none⟩ = some (.int .i64 0) := by rw [c, f0]; rfl
              clear c f0
              have e2 : decide ((0 : Int) > 0) = false := by decide
              go_wp2_with fail
              refine (in_in _ _ _ _ (by omega) (by omega)).mono ?_
              rintro e w' ⟨rfl, rfl⟩
              go_wp2_with fail
              refine (pwstop_no P.out hlb hC (i : Int) (by omega) (.inr HN.out)).mono ?_
              rintro e w3 ⟨rfl, hp3, hb3, ho3⟩
              have P3 := Lib.hid hp3
              have O3 : Hid (Obj w3 lb 3 (lcs f)) := ho3.trans O.out
              have B3 := Lib.hid (HB.out.trans hb3)
              clear hp3 hb3 ho3 P O HB hcx hc0

              have hl3 := O3.out.lt
              have hs3 := B3.out.size
              have E := Lib.hid (err_same 5 w3 (HD.out.later B3.out))
              have e0 : errOr 5 = errV 5 := rfl
              rw [e0] at E
              clear e0
              go_wp2_with fail
              refine E.out.mono ?_
              clear E
              rintro e w4 ⟨rfl, hB⟩
              have P4 := Lib.hid (P3.out.grown hl3 hs3 (grown_of_below hB) (fun k e => by simp at e))
              have O4 : Hid (Obj w4 lb 3 (lcs (f))) := (hB.block lb hl3).trans O3.out
              have B4 : Hid (Below w.heap.size w w4) := B3.out.trans (hB.mono hs3)
              clear hB
              go_wp2_with fail
              go_roundw
              case rel => exact ⟨k + 1, f, d, T, nm, by omega, by omega, by first | go_num | rfl | simp, by omega, by omega, HL.out, P4.out, O4.out, B4.out⟩
              case measure => simp [intOf]; omega
            · go_wp2_with fail
              refine (in_in _ _ _ _ (by omega) (by omega)).mono ?_
              rintro e w' ⟨rfl, rfl⟩
              have HN := Lib.hid (HL.out.on (i := i) (by omega))
              obtain ⟨m, hm⟩ : ∃ m, m = f i := ⟨_, rfl⟩
              rw [← hm] at c f0 fi
              have e2 : decide ((m : Int) > 0) = true := by simp; omega
              have hm0 : (0 : Int) < (m : Int) := by omega
              clear hm
              have P2 := Lib.hid (P.out.grown hlb hC (grown_set (grown_refl wr (some lb)) i (.int .i64 0)) (fun k e => by simpa using e.symm))
              have O2 : Hid (Obj (wr.setCell ⟨lb, i, none⟩ (.int .i64 0)) lb 3 (lcs (Wl.upd f i 0))) := Lib.hid (by
                have Z := O.out.set i (.int .i64 ((0 : Nat) : Int))
                rw [lcs_set] at Z
                exact Z)
              have B2 : Hid (Below w.heap.size w (wr.setCell ⟨lb, i, none⟩ (.int .i64 0))) := HB.out.setCell hClb _
              have hc2 := (B2.out.cell (p := ⟨ib, ioff, none⟩) hib).trans HI0.out
              have hl2 := O2.out.lt
              have hs2 := B2.out.size
              go_wp2_with fail
              generalize wr.setCell ⟨lb, i, none⟩ (.int .i64 0) = w2 at *
              clear c fr hcx hc0
              go_wp2_with fail
              refine (pwstop_yes P2.out hl2 hs2 i (by rw [HN.out]; simp)).mono ?_
              rintro e w3 ⟨rfl, hp3, hb3, ho3⟩
              have P3 := Lib.hid hp3
              have O3 : Hid (Obj w3 lb 3 (lcs (Wl.upd f i 0))) := ho3.trans O2.out
              have B3 := Lib.hid (B2.out.trans hb3)
              clear hp3 hb3 ho3 P2 O2 B2 hc2 hl2 hs2

              have hl3 := O3.out.lt
              have hs3 := B3.out.size
              have E := Lib.hid (err_same 0 w3 (HD.out.later B3.out))
              have e0 : errOr 0 = .nilIface := rfl
              rw [e0] at E
              clear e0
              go_wp2_with fail
              refine E.out.mono ?_
              clear E
              rintro e w4 ⟨rfl, hB⟩
              have P4 := Lib.hid (P3.out.grown hl3 hs3 (grown_of_below hB) (fun k e => by simp at e))
              have O4 : Hid (Obj w4 lb 3 (lcs (Wl.upd f i 0))) := (hB.block lb hl3).trans O3.out
              have B4 : Hid (Below w.heap.size w w4) := B3.out.trans (hB.mono hs3)
              clear hB
              go_wp2_with fail
              go_roundw
              case rel => exact ⟨k + 1, Wl.upd f i 0, Wl.upd d i none, T, nm, by omega, by omega, by first | go_num | rfl | simp, by omega, by omega, HL.out.cut, P4.out, O4.out, B4.out⟩
              case measure => simp [intOf]; omega
          · have HZ : Hid (z0 < 0 ∨ 19 < z0) := Lib.hid (by omega)
            clear hz
            go_wp2_with fail
            refine (in_out _ _ _ _ HZ.out).mono ?_
            rintro e w' ⟨rfl, rfl⟩
            go_wp2_with fail
            refine (pwstop_no P.out hlb hC z0 fz0 (by rcases HZ.out with h | h; exact .inl h; exact .inr (HL.out.far (by omega)))).mono ?_
            rintro e w3 ⟨rfl, hp3, hb3, ho3⟩
            have P3 := Lib.hid hp3
            have O3 : Hid (Obj w3 lb 3 (lcs f)) := ho3.trans O.out
            have B3 := Lib.hid (HB.out.trans hb3)
            clear hp3 hb3 ho3 P O HB hcx hc0

            have hl3 := O3.out.lt
            have hs3 := B3.out.size
            have E := Lib.hid (err_same 5 w3 (HD.out.later B3.out))
            have e0 : errOr 5 = errV 5 := rfl
            rw [e0] at E
            clear e0
            go_wp2_with fail
            refine E.out.mono ?_
            clear E
            rintro e w4 ⟨rfl, hB⟩
            have P4 := Lib.hid (P3.out.grown hl3 hs3 (grown_of_below hB) (fun k e => by simp at e))
            have O4 : Hid (Obj w4 lb 3 (lcs (f))) := (hB.block lb hl3).trans O3.out
            have B4 : Hid (Below w.heap.size w w4) := B3.out.trans (hB.mono hs3)
            clear hB
            go_wp2_with fail
            go_roundw
            case rel => exact ⟨k + 1, f, d, T, nm, by omega, by omega, by first | go_num | rfl | simp, by omega, by omega, HL.out, P4.out, O4.out, B4.out⟩
            case measure => simp [intOf]; omega
        · by_cases h2 : lk = 2
          · subst h2
            obtain ⟨ib, ioff, rfl, hib, hi0⟩ := hrow.cell 0 (by omega)
            obtain ⟨ib', ioff', he, hib', hi1⟩ := hrow.cell 1 (by omega)
            simp only [Option.some.injEq, Addr.mk.injEq, and_true] at he
            obtain ⟨rfl, rfl⟩ := he
            have hc0 := (HB.out.cell (p := ⟨ib, ioff, none⟩) hib).trans hi0
            have hc1 := (HB.out.cell (p := ⟨ib, ioff + 1, none⟩) hib).trans hi1
            have HI0 := Lib.hid hi0; clear hi0
            have HI1 := Lib.hid hi1; clear hi1
            clear hrow hib'
            generalize zk.getD 0 0 = z0 at *
            generalize zk.getD 1 0 = z1 at *
            by_cases hz : 0 ≤ z0 ∧ z0 ≤ 19
            · by_cases hq : 1 ≤ z1 ∧ z1 ≤ 400
              · obtain ⟨i, rfl⟩ : ∃ i : Nat, z0 = (i : Int) := ⟨z0.toNat, by omega⟩
                obtain ⟨j, rfl⟩ : ∃ j : Nat, z1 = (j : Int) := ⟨z1.toNat, by omega⟩
                have hi : i < 20 := by omega
                have hii : (i : Int) < 20 := by omega
                have hi00 : ¬ ((i : Int) < 0) := by omega
                have c := (O.out.cell i).trans (lcs_at f hi)
                have fr := O.out.free i
                have fi := HL.out.le i
                go_wp2_with fail
                refine (in_in _ _ _ _ (by omega) (by omega)).mono ?_
                rintro e w' ⟨rfl, rfl⟩
                go_wp2_with fail
                refine (in_in _ _ _ _ (by omega) (by omega)).mono ?_
                rintro e w' ⟨rfl, rfl⟩
                by_cases f0 : f i = 0
                · have HN := Lib.hid (HL.out.off f0)
                  have c0 : wr.cell? ⟨lb, i, none⟩ = some (.int .i64 0) := by rw [c, f0]; rfl
                  have hz2' := hz.2
                  have hq1' := hq.1
                  have hq2' := hq.2
                  clear c f0
                  have e2 : decide ((0 : Int) > 0) = false := by decide
                  go_wp2_with fail
                  go_region
                  have P2 := Lib.hid (P.out.grown hlb hC (grown_drew (grown_set (grown_refl wr (some lb)) i (.int .i64 (j : Int)))) (fun k e => by simpa using e.symm))
                  have O2 : Hid (Obj (wr.setCell ⟨lb, i, none⟩ (.int .i64 (j : Int))).drew lb 3 (lcs (Wl.upd f i j))) := Lib.hid (by
                    have Z := O.out.set i (.int .i64 ((j : Nat) : Int))
                    rw [lcs_set] at Z
                    exact Z)
                  have B2 : Hid (Below w.heap.size w (wr.setCell ⟨lb, i, none⟩ (.int .i64 (j : Int))).drew) := Lib.hid (HB.out.setCell hClb _).drew
                  generalize (wr.setCell ⟨lb, i, none⟩ (.int .i64 (j : Int))).drew = w2 at *
                  clear c0 fr hcx hc0 hc1
                  have hc0 := (B2.out.cell (p := ⟨ib, ioff, none⟩) hib).trans HI0.out
                  have hc1 := (B2.out.cell (p := ⟨ib, ioff + 1, none⟩) hib).trans HI1.out
                  have hl2 := O2.out.lt
                  have hs2 := B2.out.size
                  have PD := Lib.hid (PW.grown P2.out hl2 hs2 (grown_drew (grown_refl w2 none)) (fun k e => by simp at e))
                  have OD : Hid (Obj w2.drew lb 3 (lcs (Wl.upd f i j))) := O2.out
                  have BD := Lib.hid (B2.out.drew)
                  go_wp2_with fail

                  go_region_held3 (fun w' => w'.cell? ⟨ib, ioff, none⟩ = some (.int .i64 (i : Int)) ∧ w'.cell? ⟨ib, ioff + 1, none⟩ = some (.int .i64 (j : Int))) (first | go_keep | exact ⟨hy0, hy1⟩) ((first
                    | (go_at_call 7; refine (pwstart_yes PD.out hl2 hs2 i j (by omega) (by omega) (by omega) HN.out (by omega) (by omega)).mono ?_; rintro e w3 ⟨rfl, hp3, hb3, ho3⟩; have P3 := Lib.hid hp3; have O3 : Hid (Obj w3 lb 3 (lcs (Wl.upd f i j))) := ho3.trans OD.out; have B3 := Lib.hid (BD.out.trans hb3); clear hp3 hb3 ho3; have hl3 := O3.out.lt; have hs3 := B3.out.size; have hy0 := (B3.out.cell (p := ⟨ib, ioff, none⟩) hib).trans HI0.out; have hy1 := (B3.out.cell (p := ⟨ib, ioff + 1, none⟩) hib).trans HI1.out)
                    | (go_at_call 11; refine (show Calls Tryd.prog 11 #[.nilIface, .int .i64 0] w3 _ from err_same 0 w3 (HD.out.later B3.out)).mono ?_; rintro e w4 ⟨rfl, hB⟩; have P4 := Lib.hid (P3.out.grown hl3 hs3 (grown_of_below hB) (fun k e => by simp at e)); have O4 : Hid (Obj w4 lb 3 (lcs (Wl.upd f i j))) := (hB.block lb hl3).trans O3.out; have B4 : Hid (Below w.heap.size w w4) := B3.out.trans (hB.mono hs3); clear hB; have hy0 := (B4.out.cell (p := ⟨ib, ioff, none⟩) hib).trans HI0.out; have hy1 := (B4.out.cell (p := ⟨ib, ioff + 1, none⟩) hib).trans HI1.out)))

                  go_wp2_with fail
                  go_roundw
                  case rel => exact ⟨k + 1, Wl.upd f i j, Wl.upd d i (some (T + j)), T, nm + 1, by omega, by omega, by first | go_num | rfl | simp, by omega, by omega, HL.out.put hi (by omega) (by omega), P4.out, O4.out, B4.out⟩
                  case measure => simp [intOf]; omega

                · have HN : Hid (Wl.after d T i ≠ none) := Lib.hid (by rw [HL.out.on (i := i) (by omega)]; simp)
                  obtain ⟨m, hm⟩ : ∃ m, m = f i := ⟨_, rfl⟩
                  rw [← hm] at c f0 fi
                  have e2 : decide ((m : Int) > 0) = true := by simp; omega
                  have hm0 : (0 : Int) < (m : Int) := by omega
                  clear hm
                  go_wp2_with fail

                  have PD := Lib.hid (PW.grown P.out hlb hC (grown_drew (grown_refl wr none)) (fun k e => by simp at e))
                  have OD : Hid (Obj wr.drew lb 3 (lcs f)) := O.out
                  have BD := Lib.hid (HB.out.drew)

                  go_region_held3 (fun w' => w'.cell? ⟨ib, ioff, none⟩ = some (.int .i64 (i : Int)) ∧ w'.cell? ⟨ib, ioff + 1, none⟩ = some (.int .i64 (j : Int))) (first | go_keep | exact ⟨hy0, hy1⟩) ((first
                    | (go_at_call 7; refine (pwstart_clash PD.out i j (by omega) (by omega) (by omega) HN.out).mono ?_; rintro e w3 ⟨rfl, hww⟩; have P3 : Hid (PW w.heap.size lb wb w.heap.size (w.heap.size + 2) w3 d T nm) := (by rw [← hww]; exact PD); have O3 : Hid (Obj w3 lb 3 (lcs f)) := (by rw [← hww]; exact OD); have B3 : Hid (Below w.heap.size w w3) := (by rw [← hww]; exact BD); clear hww; have hl3 := O3.out.lt; have hs3 := B3.out.size; have hy0 := (B3.out.cell (p := ⟨ib, ioff, none⟩) hib).trans HI0.out; have hy1 := (B3.out.cell (p := ⟨ib, ioff + 1, none⟩) hib).trans HI1.out)
                    | (go_at_call 11; refine (show Calls Tryd.prog 11 #[errV 6, .int .i64 6] w3 _ from err_same 6 w3 (HD.out.later B3.out)).mono ?_; rintro e w4 ⟨rfl, hB⟩; have P4 := Lib.hid (P3.out.grown hl3 hs3 (grown_of_below hB) (fun k e => by simp at e)); have O4 : Hid (Obj w4 lb 3 (lcs (f))) := (hB.block lb hl3).trans O3.out; have B4 : Hid (Below w.heap.size w w4) := B3.out.trans (hB.mono hs3); clear hB; have hy0 := (B4.out.cell (p := ⟨ib, ioff, none⟩) hib).trans HI0.out; have hy1 := (B4.out.cell (p := ⟨ib, ioff + 1, none⟩) hib).trans HI1.out)))

                  go_wp2_with fail
                  go_roundw
                  case rel => exact ⟨k + 1, f, d, T, nm, by omega, by omega, by first | go_num | rfl | simp, by omega, by omega, HL.out, P4.out, O4.out, B4.out⟩
                  case measure => simp [intOf]; omega
              · have HZ : Hid ((z0 < 0 ∨ 19 < z0) ∨ z1 < 1 ∨ 400 < z1) := Lib.hid (by omega)
                have HQ : Hid (z1 < 1 ∨ 400 < z1) := Lib.hid (by omega)
                clear hq
                go_wp2_with fail
                refine (in_in _ _ _ _ hz.1 hz.2).mono ?_
                rintro e w' ⟨rfl, rfl⟩
                go_wp2_with fail
                refine (in_out _ _ _ _ HQ.out).mono ?_
                rintro e w' ⟨rfl, rfl⟩
                go_wp2_with fail

                have PD := Lib.hid (PW.grown P.out hlb hC (grown_drew (grown_refl wr none)) (fun k e => by simp at e))
                have OD : Hid (Obj wr.drew lb 3 (lcs f)) := O.out
                have BD := Lib.hid (HB.out.drew)

                go_region_held3 (fun w' => w'.cell? ⟨ib, ioff, none⟩ = some (.int .i64 z0) ∧ w'.cell? ⟨ib, ioff + 1, none⟩ = some (.int .i64 z1)) (first | go_keep | exact ⟨hy0, hy1⟩) ((first
                  | (go_at_call 7; refine (pwstart_no _ _ _ PD.out HZ.out).mono ?_; rintro e w3 ⟨rfl, hww⟩; have P3 : Hid (PW w.heap.size lb wb w.heap.size (w.heap.size + 2) w3 d T nm) := (by rw [← hww]; exact PD); have O3 : Hid (Obj w3 lb 3 (lcs f)) := (by rw [← hww]; exact OD); have B3 : Hid (Below w.heap.size w w3) := (by rw [← hww]; exact BD); clear hww; have hl3 := O3.out.lt; have hs3 := B3.out.size; have hy0 := (B3.out.cell (p := ⟨ib, ioff, none⟩) hib).trans HI0.out; have hy1 := (B3.out.cell (p := ⟨ib, ioff + 1, none⟩) hib).trans HI1.out)
                  | (go_at_call 11; refine (show Calls Tryd.prog 11 #[errV 1, .int .i64 1] w3 _ from err_same 1 w3 (HD.out.later B3.out)).mono ?_; rintro e w4 ⟨rfl, hB⟩; have P4 := Lib.hid (P3.out.grown hl3 hs3 (grown_of_below hB) (fun k e => by simp at e)); have O4 : Hid (Obj w4 lb 3 (lcs (f))) := (hB.block lb hl3).trans O3.out; have B4 : Hid (Below w.heap.size w w4) := B3.out.trans (hB.mono hs3); clear hB; have hy0 := (B4.out.cell (p := ⟨ib, ioff, none⟩) hib).trans HI0.out; have hy1 := (B4.out.cell (p := ⟨ib, ioff + 1, none⟩) hib).trans HI1.out)))

                go_wp2_with fail
                go_roundw
                case rel => exact ⟨k + 1, f, d, T, nm, by omega, by omega, by first | go_num | rfl | simp, by omega, by omega, HL.out, P4.out, O4.out, B4.out⟩
                case measure => simp [intOf]; omega
            · have HZ : Hid ((z0 < 0 ∨ 19 < z0) ∨ z1 < 1 ∨ 400 < z1) := Lib.hid (by omega)
              have HQ : Hid (z0 < 0 ∨ 19 < z0) := Lib.hid (by omega)
              clear hz
              go_wp2_with fail
              refine (in_out _ _ _ _ HQ.out).mono ?_
              rintro e w' ⟨rfl, rfl⟩
              go_wp2_with fail

              have PD := Lib.hid (PW.grown P.out hlb hC (grown_drew (grown_refl wr none)) (fun k e => by simp at e))
              have OD : Hid (Obj wr.drew lb 3 (lcs f)) := O.out
              have BD := Lib.hid (HB.out.drew)

              go_region_held3 (fun w' => w'.cell? ⟨ib, ioff, none⟩ = some (.int .i64 z0) ∧ w'.cell? ⟨ib, ioff + 1, none⟩ = some (.int .i64 z1)) (first | go_keep | exact ⟨hy0, hy1⟩) ((first
                | (go_at_call 7; refine (pwstart_no _ _ _ PD.out HZ.out).mono ?_; rintro e w3 ⟨rfl, hww⟩; have P3 : Hid (PW w.heap.size lb wb w.heap.size (w.heap.size + 2) w3 d T nm) := (by rw [← hww]; exact PD); have O3 : Hid (Obj w3 lb 3 (lcs f)) := (by rw [← hww]; exact OD); have B3 : Hid (Below w.heap.size w w3) := (by rw [← hww]; exact BD); clear hww; have hl3 := O3.out.lt; have hs3 := B3.out.size; have hy0 := (B3.out.cell (p := ⟨ib, ioff, none⟩) hib).trans HI0.out; have hy1 := (B3.out.cell (p := ⟨ib, ioff + 1, none⟩) hib).trans HI1.out)
                | (go_at_call 11; refine (show Calls Tryd.prog 11 #[errV 1, .int .i64 1] w3 _ from err_same 1 w3 (HD.out.later B3.out)).mono ?_; rintro e w4 ⟨rfl, hB⟩; have P4 := Lib.hid (P3.out.grown hl3 hs3 (grown_of_below hB) (fun k e => by simp at e)); have O4 : Hid (Obj w4 lb 3 (lcs (f))) := (hB.block lb hl3).trans O3.out; have B4 : Hid (Below w.heap.size w w4) := B3.out.trans (hB.mono hs3); clear hB; have hy0 := (B4.out.cell (p := ⟨ib, ioff, none⟩) hib).trans HI0.out; have hy1 := (B4.out.cell (p := ⟨ib, ioff + 1, none⟩) hib).trans HI1.out)))

              go_wp2_with fail
              go_roundw
              case rel => exact ⟨k + 1, f, d, T, nm, by omega, by omega, by first | go_num | rfl | simp, by omega, by omega, HL.out, P4.out, O4.out, B4.out⟩
              case measure => simp [intOf]; omega
          · have q0 : ((lk : Int) == 0) = false := by rw [beq_eq_false_iff_ne]; omega
            have q1 : ((lk : Int) == 1) = false := by rw [beq_eq_false_iff_ne]; omega
            have q2 : ((lk : Int) == 2) = false := by rw [beq_eq_false_iff_ne]; omega
            clear hrow h0 h1 h2
            go_wp2_with fail
            go_roundw
            case rel => exact ⟨k + 1, f, d, T, nm, by omega, by omega, by first | go_num | rfl | simp, by omega, by omega, HL.out, P.out, O.out, HB.out⟩
            case measure => simp [intOf]; omega
    · by_cases g0 : k < len
      · have g1 : decide ((k : Int) < (len : Int)) = true := by simp; omega
        have g2 : decide ((k : Int) < 200) = false := by simp; omega
        clear hlt
        go_wp2_with fail
        clear g1 g2 g0
        go_loop [11] (fun v => ∃ i : Nat, i ≤ 20 ∧ v = .int .i64 (i : Int)) (fun v => 20 - (intOf v).toNat)
        case atStart => exact ⟨0, by omega, rfl⟩
        case round =>
          obtain ⟨i, hi20, rfl⟩ := hrel
          by_cases hi : i < 20
          · have c := (O.out.cell i).trans (lcs_at f hi)
            have fi := HL.out.le i
            by_cases h0 : f i = 0
            · have HN := Lib.hid (HL.out.off h0)
              have c0 : wr.cell? ⟨lb, i, none⟩ = some (.int .i64 0) := by rw [c, h0]; rfl
              clear c h0
              have e0 : ((0 : Int) == 0) = true := rfl
              go_wp2_with fail
              refine (pwleft_no P.out (i : Int) (by omega) (.inr HN.out)).mono ?_
              rintro e w' ⟨rfl, rfl⟩
              go_wp2_with fail
              go_round
              case rel => exact ⟨i + 1, by omega, by first | go_num | rfl | simp⟩
              case measure => simp [intOf]; omega
            · have HN := Lib.hid (HL.out.on (i := i) (by omega))
              obtain ⟨m, hm⟩ : ∃ m, m = f i := ⟨_, rfl⟩
              rw [← hm] at c HN h0 fi
              have e0 : ((m : Int) == 0) = false := by rw [beq_eq_false_iff_ne]; omega
              have e1 : ((T + m : Nat) : Int) - (T : Int) = (m : Int) := by omega
              clear hm h0
              go_wp2_with fail
              refine (pwleft_yes P.out i (T + m) HN.out (by omega)).mono ?_
              rintro e w' ⟨rfl, rfl⟩
              rw [e1]
              go_wp2_with fail
              go_round
              case rel => exact ⟨i + 1, by omega, by first | go_num | rfl | simp⟩
              case measure => simp [intOf]; omega
          · obtain rfl : i = 20 := by omega
            go_wp2_with fail
            refine (pwleft_no P.out (-1) (by omega) (.inl (by omega))).mono ?_
            rintro e w' ⟨rfl, rfl⟩
            go_wp2_with fail
            refine (pwleft_no P.out 20 (by omega) (.inr (HL.out.far (Nat.le_refl 20)))).mono ?_
            rintro e w' ⟨rfl, rfl⟩
            go_wp2_with fail
            go_ret
            exact ⟨rfl, HB.out⟩
      · have g1 : decide ((k : Int) < (len : Int)) = false := by simp; omega
        clear hlt
        go_wp2_with fail
        clear g1 g0
        go_loop [11] (fun v => ∃ i : Nat, i ≤ 20 ∧ v = .int .i64 (i : Int)) (fun v => 20 - (intOf v).toNat)
        case atStart => exact ⟨0, by omega, rfl⟩
        case round =>
          obtain ⟨i, hi20, rfl⟩ := hrel
          by_cases hi : i < 20
          · have c := (O.out.cell i).trans (lcs_at f hi)
            have fi := HL.out.le i
            by_cases h0 : f i = 0
            · have HN := Lib.hid (HL.out.off h0)
              have c0 : wr.cell? ⟨lb, i, none⟩ = some (.int .i64 0) := by rw [c, h0]; rfl
              clear c h0
              have e0 : ((0 : Int) == 0) = true := rfl
              go_wp2_with fail
              refine (pwleft_no P.out (i : Int) (by omega) (.inr HN.out)).mono ?_
              rintro e w' ⟨rfl, rfl⟩
              go_wp2_with fail
              go_round
              case rel => exact ⟨i + 1, by omega, by first | go_num | rfl | simp⟩
              case measure => simp [intOf]; omega
            · have HN := Lib.hid (HL.out.on (i := i) (by omega))
              obtain ⟨m, hm⟩ : ∃ m, m = f i := ⟨_, rfl⟩
              rw [← hm] at c HN h0 fi
              have e0 : ((m : Int) == 0) = false := by rw [beq_eq_false_iff_ne]; omega
              have e1 : ((T + m : Nat) : Int) - (T : Int) = (m : Int) := by omega
              clear hm h0
              go_wp2_with fail
              refine (pwleft_yes P.out i (T + m) HN.out (by omega)).mono ?_
              rintro e w' ⟨rfl, rfl⟩
              rw [e1]
              go_wp2_with fail
              go_round
              case rel => exact ⟨i + 1, by omega, by first | go_num | rfl | simp⟩
              case measure => simp [intOf]; omega
          · obtain rfl : i = 20 := by omega
            go_wp2_with fail
            refine (pwleft_no P.out (-1) (by omega) (.inl (by omega))).mono ?_
            rintro e w' ⟨rfl, rfl⟩
            go_wp2_with fail
            refine (pwleft_no P.out 20 (by omega) (.inr (HL.out.far (Nat.le_refl 20)))).mono ?_
            rintro e w' ⟨rfl, rfl⟩
            go_wp2_with fail
            go_ret
            exact ⟨rfl, HB.out⟩
end Go.Proofs.YtmmoolcnpbebhaaDoor.wheelPlays
