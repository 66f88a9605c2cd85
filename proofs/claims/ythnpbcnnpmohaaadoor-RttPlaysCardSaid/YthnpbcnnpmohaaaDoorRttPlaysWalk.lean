/- RttPlays returns true for every input: the walk. -/
import Derived.Test.YthnpbcnnpmohaaaDoorRttRef
import Derived.Test.YthnpbcnnpmohaaaDoorTold
namespace Go.Proofs.YthnpbcnnpmohaaaDoor.rttPlays
open Go.RowKit
set_option linter.unusedSimpArgs false
set_option linter.unusedVariables false

/-- The reference's timer, in a block of its own. -/
def Xr (w : World) (b : Nat) (s p t : Int) : Prop := Obj w b 31 [.int .i64 s, .int .i64 p, .int .i64 t]
theorem Xr.set2 {w : World} {b : Nat} {s p t u v : Int} (ho : Xr w b s p t) (h : u = v) : Xr (w.setCell ⟨b, 2, none⟩ (.int .i64 u)) b s p v := by
  subst h; exact Obj.set ho 2 _
theorem Xr.kept {w w' : World} {b c : Nat} {s p t : Int} (h : Xr w b s p t) (hg : w.grownBy w' (some c)) (hr : b ≠ c) : Xr w' b s p t := Obj.kept h hg (by simpa using hr)
theorem Xr.drewN {w : World} {b : Nat} {s p t : Int} (h : Xr w b s p t) (n : Nat) : Xr (w.drewN n) b s p t := h
theorem Xr.below {w w' : World} {b : Nat} {s p t : Int} (h : Xr w b s p t) (hb : Below w.heap.size w w') : Xr w' b s p t := (hb.block b h.lt).trans h
theorem Tim.other {w : World} {b c j : Nat} {s p t : Int} {u : Value} (h : Tim w b s p t) (hne : b ≠ c) : Tim (w.setCell ⟨c, j, none⟩ u) b s p t := (Below.heap_setCell _ _ _ _ hne).trans h
theorem Tim.bel {w w' : World} {b : Nat} {s p t : Int} (h : Tim w b s p t) (hb : Below w.heap.size w w') : Tim w' b s p t := (hb.block b h.lt).trans h
theorem late_ok {s p t t' : Int} (hk : TimOk s p t) (h1 : 1 ≤ t') (h2 : t' ≤ 100000) : TimOk s p t' := ⟨hk.1, h1, h2⟩

set_option maxHeartbeats 16000000 in
set_option maxRecDepth 100000 in
theorem walk (r₀ : Int) (a : Option Addr) (len cap : Nat) (A : Nat → Option Addr) (L C : Nat → Nat) (Z : Nat → List Int) (w : World) (hr : -9223372036854775808 ≤ r₀ ∧ r₀ ≤ 9223372036854775807) (hI : Grid w w.heap.size a len A L C Z) (hd : Hd w) :
    Calls Tryd.prog 3 #[.int .i64 r₀, .slice a len cap] w fun e w' => e = .returned (.bool true) ∧ Below w.heap.size w w' := by
  have hroom := hI.room
  have HI := Lib.hid hI; clear hI
  have HD := Lib.hid hd; clear hd
  by_cases hv : 1 ≤ r₀ ∧ r₀ ≤ 100000
  · obtain ⟨r0, r1⟩ := hv
    clear hr
    go_enter Tryd.func3, Tryd.ntmps3
    go_wp2_with fail
    refine (new_yes _ _ r0 r1).mono ?_
    rintro e w2 ⟨rfl, ho, hg⟩
    have H2 := Lib.hid ho; clear ho
    have B2 : Hid (Below w.heap.size w w2) := below_new hg
    clear hg
    have hbx : w.heap.size < w2.heap.size := H2.out.lt
    obtain ⟨b, hb⟩ : ∃ b, b = w.heap.size := ⟨_, rfl⟩
    have hwb : w.heap.size ≤ b := by omega
    rw [← hb] at H2 hbx ⊢
    have HEQ := Lib.hid hb; clear hb
    go_wp2_with fail
    refine (in_in _ _ _ _ r0 r1).mono ?_
    rintro e w' ⟨rfl, rfl⟩
    obtain ⟨xb, hxe⟩ : ∃ xb, xb = w2.heap.size := ⟨_, rfl⟩
    have X2 : Hid (Xr (w2.alloc (.cells #[.int .i64 (-1), .int .i64 0, .int .i64 r₀] 31 (0, 0))) xb (-1) 0 r₀) := by
      rw [hxe]; exact Obj.new _ _ _
    have P2 : Hid (Tim (w2.alloc (.cells #[.int .i64 (-1), .int .i64 0, .int .i64 r₀] 31 (0, 0))) b (-1) 0 r₀) := Obj.alloc H2.out _
    have B3 : Hid (Below w.heap.size w (w2.alloc (.cells #[.int .i64 (-1), .int .i64 0, .int .i64 r₀] 31 (0, 0)))) := B2.out.alloc B2.out.size _
    rw [← hxe] at hbx
    have hne : b ≠ xb := by omega
    have hwx : w.heap.size ≤ xb := by omega
    clear hbx
    go_wp2_with fail
    rw [← hxe]
    clear hxe
    go_loopw [8] (fun v8 wr => ∃ (k : Nat) (s p t : Int), k ≤ len ∧ k ≤ 60 ∧ v8 = .int .i64 k ∧ TimOk s p t ∧ Tim wr b s p t ∧ Xr wr xb s p t ∧ Below w.heap.size w wr)
      (fun v8 _ => len - (intOf v8).toNat)
    case atStart => exact ⟨0, -1, 0, r₀, by omega, by omega, rfl, ⟨.inl ⟨rfl, rfl⟩, r0, r1⟩, P2.out, X2.out, B3.out⟩
    case round =>
      clear H2 B2 X2 P2 B3 r0 r1
      obtain ⟨k, s, p, t, hk, hk60, rfl, hK, hP, hX, hB⟩ := hrel
      have HB := Lib.hid hB; clear hB
      have HP := Lib.hid hP; clear hP
      have HX := Lib.hid hX; clear hX
      have HK := Lib.hid hK
      have t1 := hK.2.1
      have t2 := hK.2.2
      clear hK
      by_cases hlt : k < len ∧ k < 60
      · obtain ⟨hl1, hl2⟩ := hlt
        obtain ⟨gb, goff, rfl, hgb, hgc⟩ := HI.out.cell k hl1
        have hrow := HI.out.row k hl1
        have hcx := (HB.out.cell (p := ⟨gb, goff + k, none⟩) hgb).trans hgc
        clear hgc
        generalize A k = ak at *
        generalize L k = lk at *
        generalize C k = ck at *
        generalize Z k = zk at *
        have x0 := HX.out.cell 0
        have x1 := HX.out.cell 1
        have x2 := HX.out.cell 2
        have f0 := HX.out.free 0
        have f1 := HX.out.free 1
        have f2 := HX.out.free 2
        simp only [List.getElem?_cons_zero, List.getElem?_cons_succ] at x0 x1 x2
        by_cases h2 : lk = 0
        · subst h2
          clear hrow
          by_cases hm : 2 * t ≤ 100000
          · have hmin : min (2 * t) 100000 = 2 * t := by omega
            have q1 : IntKind.i64.wrap (2 * t) = 2 * t := IntWalk.i64_in _ (by omega)
            go_wp2_with fail
            refine (late_any b s p t _ HP.out (by omega) t2).mono ?_
            rintro e w3 ⟨rfl, ho, hg⟩
            rw [hmin] at ho
            have T2 := Lib.hid ho; clear ho
            have X2 : Hid (Xr w3 xb s p t) := HX.out.kept hg (Ne.symm hne)
            have B2 : Hid (Below w.heap.size w w3) := HB.out.trans (below_grown hg hwb HP.out.lt)
            clear hg x0 x1 x2 f0 f1 f2 hmin
            have x2 := X2.out.cell 2
            have f2 := X2.out.free 2
            simp only [List.getElem?_cons_zero, List.getElem?_cons_succ] at x2
            have K3 : Hid (TimOk s p (2 * t)) := late_ok HK.out (by omega) (by omega)
            go_wp2_with fail
            have T3 : Hid (Tim (w3.setCell ⟨xb, 2, none⟩ (.int .i64 (2 * t))) b s p (2 * t)) := Tim.other T2.out hne
            have X3 : Hid (Xr (w3.setCell ⟨xb, 2, none⟩ (.int .i64 (2 * t))) xb s p (2 * t)) := Xr.set2 X2.out rfl
            have B3 : Hid (Below w.heap.size w (w3.setCell ⟨xb, 2, none⟩ (.int .i64 (2 * t)))) := B2.out.setCell hwx _
            clear x2 f2
            generalize w3.setCell ⟨xb, 2, none⟩ (.int .i64 (2 * t)) = w5 at *
            have y0 := X3.out.cell 0
            have y1 := X3.out.cell 1
            have y2 := X3.out.cell 2
            simp only [List.getElem?_cons_zero, List.getElem?_cons_succ] at y0 y1 y2
            go_wp2_with fail
            refine (guess_any b (s) (p) (2 * t) _ T3.out).mono ?_
            rintro e w4 ⟨rfl, m, rfl⟩
            have T4 := Lib.hid (T3.out.drewN m)
            have X4 := Lib.hid (X3.out.drewN m)
            have B4 := Lib.hid (below_drewN B3.out m)
            clear y0 y1 y2
            generalize w5.drewN m = w4 at *
            have y0 := X4.out.cell 0
            have y1 := X4.out.cell 1
            have y2 := X4.out.cell 2
            simp only [List.getElem?_cons_zero, List.getElem?_cons_succ] at y0 y1 y2
            go_wp2_with fail
            go_quiet ((go_at_call 12; exact Calls.quiet_of_same ((wait_any b (s) (p) (2 * t) _ (by exact T4.out)).mono fun _ _ h => ⟨h.1, h.2.symm⟩)))
            go_wp2_with fail
            go_roundw
            case rel => exact ⟨k + 1, s, p, 2 * t, by omega, by omega, by go_num, K3.out, T4.out.drewN _, X4.out.drewN _, below_drewN B4.out _⟩
            case measure => simp [intOf]; omega
          · have hmin : min (2 * t) 100000 = 100000 := by omega
            have q1 : IntKind.i64.wrap (2 * t) = 2 * t := IntWalk.i64_in _ (by omega)
            go_wp2_with fail
            refine (late_any b s p t _ HP.out (by omega) t2).mono ?_
            rintro e w3 ⟨rfl, ho, hg⟩
            rw [hmin] at ho
            have T2 := Lib.hid ho; clear ho
            have X2 : Hid (Xr w3 xb s p t) := HX.out.kept hg (Ne.symm hne)
            have B2 : Hid (Below w.heap.size w w3) := HB.out.trans (below_grown hg hwb HP.out.lt)
            clear hg x0 x1 x2 f0 f1 f2 hmin
            have x2 := X2.out.cell 2
            have f2 := X2.out.free 2
            simp only [List.getElem?_cons_zero, List.getElem?_cons_succ] at x2
            have K3 : Hid (TimOk s p (100000)) := late_ok HK.out (by omega) (by omega)
            go_wp2_with fail
            have T3 : Hid (Tim ((w3.setCell ⟨xb, 2, none⟩ (.int .i64 (2 * t))).setCell ⟨xb, 2, none⟩ (.int .i64 100000)) b s p 100000) := Tim.other (Tim.other T2.out hne) hne
            have X3 : Hid (Xr ((w3.setCell ⟨xb, 2, none⟩ (.int .i64 (2 * t))).setCell ⟨xb, 2, none⟩ (.int .i64 100000)) xb s p 100000) := Xr.set2 (Xr.set2 X2.out rfl) rfl
            have B3 : Hid (Below w.heap.size w ((w3.setCell ⟨xb, 2, none⟩ (.int .i64 (2 * t))).setCell ⟨xb, 2, none⟩ (.int .i64 100000))) := (B2.out.setCell hwx _).setCell hwx _
            clear x2 f2
            generalize (w3.setCell ⟨xb, 2, none⟩ (.int .i64 (2 * t))).setCell ⟨xb, 2, none⟩ (.int .i64 100000) = w5 at *
            have y0 := X3.out.cell 0
            have y1 := X3.out.cell 1
            have y2 := X3.out.cell 2
            simp only [List.getElem?_cons_zero, List.getElem?_cons_succ] at y0 y1 y2
            go_wp2_with fail
            refine (guess_any b (s) (p) (100000) _ T3.out).mono ?_
            rintro e w4 ⟨rfl, m, rfl⟩
            have T4 := Lib.hid (T3.out.drewN m)
            have X4 := Lib.hid (X3.out.drewN m)
            have B4 := Lib.hid (below_drewN B3.out m)
            clear y0 y1 y2
            generalize w5.drewN m = w4 at *
            have y0 := X4.out.cell 0
            have y1 := X4.out.cell 1
            have y2 := X4.out.cell 2
            simp only [List.getElem?_cons_zero, List.getElem?_cons_succ] at y0 y1 y2
            go_wp2_with fail
            go_quiet ((go_at_call 12; exact Calls.quiet_of_same ((wait_any b (s) (p) (100000) _ (by exact T4.out)).mono fun _ _ h => ⟨h.1, h.2.symm⟩)))
            go_wp2_with fail
            go_roundw
            case rel => exact ⟨k + 1, s, p, 100000, by omega, by omega, by go_num, K3.out, T4.out.drewN _, X4.out.drewN _, below_drewN B4.out _⟩
            case measure => simp [intOf]; omega
        · by_cases h1 : lk = 1
          · subst h1
            clear h2
            obtain ⟨ib, ioff, rfl, hib, hi0⟩ := hrow.cell 0 (by omega)
            have hc0 := (HB.out.cell (p := ⟨ib, ioff, none⟩) hib).trans hi0
            have HR := Lib.hid hi0
            clear hrow hi0
            generalize zk.getD 0 0 = n at *
            by_cases hn : 0 ≤ n ∧ n ≤ 100000
            · obtain ⟨n0, n1⟩ := hn
              have K3 := Lib.hid (tim_step HK.out n0 n1)
              have D := Lib.hid (fun w' => mtake_yes s p t n w' HK.out n0 n1)
              have T := Lib.hid (fun w' h => take_yes b s p t n w' h HK.out n0 n1)
              generalize rT s p n = t9 at *
              generalize rP s p n = p9 at *
              generalize rS s n = s9 at *
              go_wp2_with fail
              refine (in_in _ _ _ _ n0 n1).mono ?_
              rintro e w' ⟨rfl, rfl⟩
              go_wp2_with fail
              go_still_tail 4, (by kernel_rfl)
              go_wp2_with fail
              refine (D.out _).mono ?_
              rintro e w4 ⟨rfl, hB0⟩
              clear x0 x1 x2 f0 f1 f2
              have P4 : Hid (Tim w4 b s p t) := Tim.bel (w := wr) HP.out ⟨hB0.os, hB0.tape, hB0.output, hB0.size, hB0.block⟩
              have X4 : Hid (Xr w4 xb s p t) := Xr.below (w := wr) HX.out ⟨hB0.os, hB0.tape, hB0.output, hB0.size, hB0.block⟩
              have B4 : Hid (Below w.heap.size w w4) := HB.out.trans (Below.mono (w := wr) ⟨hB0.os, hB0.tape, hB0.output, hB0.size, hB0.block⟩ HB.out.size)
              clear hB0 hc0
              have hc0 := (B4.out.cell (p := ⟨ib, ioff, none⟩) hib).trans HR.out
              have x0 := X4.out.cell 0
              have x1 := X4.out.cell 1
              have x2 := X4.out.cell 2
              have f0 := X4.out.free 0
              have f1 := X4.out.free 1
              have f2 := X4.out.free 2
              simp only [List.getElem?_cons_zero, List.getElem?_cons_succ] at x0 x1 x2
              go_wp2_with fail
              have T5 : Hid (Tim (((w4.setCell ⟨xb, 0, none⟩ (.int .i64 s9)).setCell ⟨xb, 1, none⟩ (.int .i64 p9)).setCell ⟨xb, 2, none⟩ (.int .i64 t9)) b s p t) := Tim.other (Tim.other (Tim.other P4.out hne) hne) hne
              have X5 : Hid (Xr (((w4.setCell ⟨xb, 0, none⟩ (.int .i64 s9)).setCell ⟨xb, 1, none⟩ (.int .i64 p9)).setCell ⟨xb, 2, none⟩ (.int .i64 t9)) xb s9 p9 t9) := Obj.set (Obj.set (Obj.set X4.out 0 _) 1 _) 2 _
              have B5 : Hid (Below w.heap.size w (((w4.setCell ⟨xb, 0, none⟩ (.int .i64 s9)).setCell ⟨xb, 1, none⟩ (.int .i64 p9)).setCell ⟨xb, 2, none⟩ (.int .i64 t9))) := ((B4.out.setCell hwx _).setCell hwx _).setCell hwx _
              generalize (((w4.setCell ⟨xb, 0, none⟩ (.int .i64 s9)).setCell ⟨xb, 1, none⟩ (.int .i64 p9)).setCell ⟨xb, 2, none⟩ (.int .i64 t9)) = w5 at *
              refine (T.out _ T5.out).mono ?_
              rintro e w6 ⟨rfl, ho, hg⟩
              have T6 := Lib.hid ho; clear ho
              have X6 : Hid (Xr w6 xb s9 p9 t9) := X5.out.kept hg (Ne.symm hne)
              have B6 : Hid (Below w.heap.size w w6) := B5.out.trans (below_grown hg hwb T5.out.lt)
              clear hg x0 x1 x2 f0 f1 f2 hc0 hcx
              have E := Lib.hid (err_same 0 w6 (HD.out.later B6.out))
              have e0 : errOr 0 = .nilIface := rfl
              rw [e0] at E
              clear e0
              go_wp2_with fail
              refine E.out.mono ?_
              clear E
              rintro e w7 ⟨rfl, hB⟩
              have T3 := Lib.hid (Tim.bel T6.out hB)
              have X3 := Lib.hid (X6.out.below hB)
              have B3 : Hid (Below w.heap.size w w7) := B6.out.trans (hB.mono B6.out.size)
              clear hB
              have y0 := X3.out.cell 0
              have y1 := X3.out.cell 1
              have y2 := X3.out.cell 2
              simp only [List.getElem?_cons_zero, List.getElem?_cons_succ] at y0 y1 y2
              go_wp2_with fail
              refine (guess_any b (s9) (p9) (t9) _ T3.out).mono ?_
              rintro e w4 ⟨rfl, m, rfl⟩
              have T4 := Lib.hid (T3.out.drewN m)
              have X4 := Lib.hid (X3.out.drewN m)
              have B4 := Lib.hid (below_drewN B3.out m)
              clear y0 y1 y2
              generalize w7.drewN m = w4 at *
              have y0 := X4.out.cell 0
              have y1 := X4.out.cell 1
              have y2 := X4.out.cell 2
              simp only [List.getElem?_cons_zero, List.getElem?_cons_succ] at y0 y1 y2
              go_wp2_with fail
              go_quiet ((go_at_call 12; exact Calls.quiet_of_same ((wait_any b (s9) (p9) (t9) _ (by exact T4.out)).mono fun _ _ h => ⟨h.1, h.2.symm⟩)))
              go_wp2_with fail
              go_roundw
              case rel => exact ⟨k + 1, s9, p9, t9, by omega, by omega, by go_num, K3.out, T4.out.drewN _, X4.out.drewN _, below_drewN B4.out _⟩
              case measure => simp [intOf]; omega
            · have HN := Lib.hid (show n < 0 ∨ 100000 < n by omega)
              clear hn
              go_wp2_with fail
              refine (in_out _ _ _ _ HN.out).mono ?_
              rintro e w' ⟨rfl, rfl⟩
              go_wp2_with fail
              refine (take_no b s p t n _ HN.out).mono ?_
              rintro e w3 ⟨rfl, rfl⟩
              clear x0 x1 x2 f0 f1 f2 hc0 hcx
              have E := Lib.hid (err_same 1 wr (HD.out.later HB.out))
              have e0 : errOr 1 = errV 1 := rfl
              rw [e0] at E
              clear e0
              go_wp2_with fail
              refine E.out.mono ?_
              clear E
              rintro e w7 ⟨rfl, hB⟩
              have T3 := Lib.hid (Tim.bel HP.out hB)
              have X3 := Lib.hid (HX.out.below hB)
              have B3 : Hid (Below w.heap.size w w7) := HB.out.trans (hB.mono HB.out.size)
              have K3 := HK
              clear hB
              have y0 := X3.out.cell 0
              have y1 := X3.out.cell 1
              have y2 := X3.out.cell 2
              simp only [List.getElem?_cons_zero, List.getElem?_cons_succ] at y0 y1 y2
              go_wp2_with fail
              refine (guess_any b (s) (p) (t) _ T3.out).mono ?_
              rintro e w4 ⟨rfl, m, rfl⟩
              have T4 := Lib.hid (T3.out.drewN m)
              have X4 := Lib.hid (X3.out.drewN m)
              have B4 := Lib.hid (below_drewN B3.out m)
              clear y0 y1 y2
              generalize w7.drewN m = w4 at *
              have y0 := X4.out.cell 0
              have y1 := X4.out.cell 1
              have y2 := X4.out.cell 2
              simp only [List.getElem?_cons_zero, List.getElem?_cons_succ] at y0 y1 y2
              go_wp2_with fail
              go_quiet ((go_at_call 12; exact Calls.quiet_of_same ((wait_any b (s) (p) (t) _ (by exact T4.out)).mono fun _ _ h => ⟨h.1, h.2.symm⟩)))
              go_wp2_with fail
              go_roundw
              case rel => exact ⟨k + 1, s, p, t, by omega, by omega, by go_num, K3.out, T4.out.drewN _, X4.out.drewN _, below_drewN B4.out _⟩
              case measure => simp [intOf]; omega
          · have h0b : ((lk : Int) == 0) = false := by simp; omega
            have h1b : ((lk : Int) == 1) = false := by simp; omega
            clear h2 h1 hrow
            have T3 := HP
            have X3 := HX
            have B3 := HB
            have K3 := HK
            clear x0 x1 x2 f0 f1 f2
            have y0 := X3.out.cell 0
            have y1 := X3.out.cell 1
            have y2 := X3.out.cell 2
            simp only [List.getElem?_cons_zero, List.getElem?_cons_succ] at y0 y1 y2
            go_wp2_with fail
            refine (guess_any b (s) (p) (t) _ T3.out).mono ?_
            rintro e w4 ⟨rfl, m, rfl⟩
            have T4 := Lib.hid (T3.out.drewN m)
            have X4 := Lib.hid (X3.out.drewN m)
            have B4 := Lib.hid (below_drewN B3.out m)
            clear y0 y1 y2
            generalize wr.drewN m = w4 at *
            have y0 := X4.out.cell 0
            have y1 := X4.out.cell 1
            have y2 := X4.out.cell 2
            simp only [List.getElem?_cons_zero, List.getElem?_cons_succ] at y0 y1 y2
            go_wp2_with fail
            go_quiet ((go_at_call 12; exact Calls.quiet_of_same ((wait_any b (s) (p) (t) _ (by exact T4.out)).mono fun _ _ h => ⟨h.1, h.2.symm⟩)))
            go_wp2_with fail
            go_roundw
            case rel => exact ⟨k + 1, s, p, t, by omega, by omega, by go_num, K3.out, T4.out.drewN _, X4.out.drewN _, below_drewN B4.out _⟩
            case measure => simp [intOf]; omega
      · go_wp2_with fail
        all_goals
          go_ret
          exact ⟨rfl, HB.out⟩
  · have HV := Lib.hid (show r₀ < 1 ∨ 100000 < r₀ by omega)
    have E := Lib.hid (err_same 1 w HD.out)
    have e0 : errOr 1 = errV 1 := rfl
    rw [e0] at E
    clear hv e0
    go_enter Tryd.func3, Tryd.ntmps3
    go_wp2_with fail
    refine (new_no _ _ HV.out).mono ?_
    rintro e w' ⟨rfl, rfl⟩
    go_wp2_with fail
    refine (in_out _ _ _ _ HV.out).mono ?_
    rintro e w' ⟨rfl, rfl⟩
    go_wp2_with fail
    refine E.out.mono ?_
    rintro e w3 ⟨rfl, hB⟩
    have B3 := Lib.hid hB; clear hB
    go_wp2
    go_ret
    exact ⟨rfl, B3.out⟩
end Go.Proofs.YthnpbcnnpmohaaaDoor.rttPlays
