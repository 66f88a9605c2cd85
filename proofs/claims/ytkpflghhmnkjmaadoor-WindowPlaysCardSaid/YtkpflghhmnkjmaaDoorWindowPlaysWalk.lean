/- WindowPlays returns true for every input: the walk. -/
import Derived.Test.YtkpflghhmnkjmaaDoorWinF
namespace Go.Proofs.YtkpflghhmnkjmaaDoor.windowPlays
open Go.RowKit
set_option linter.unusedSimpArgs false
set_option linter.unusedVariables false

/-- The reference's pipe, in a block of its own. -/
def Xp (w : World) (b : Nat) (a m r : Int) : Prop := Obj w b 38 [.int .i64 a, .int .i64 m, .int .i64 r]
theorem Xp.set0 {w : World} {b : Nat} {a m r u v : Int} (ho : Xp w b a m r) (h : u = v) : Xp (w.setCell ⟨b, 0, none⟩ (.int .i64 u)) b v m r := by
  subst h; exact Obj.set ho 0 _
theorem Xp.set1 {w : World} {b : Nat} {a m r u v : Int} (ho : Xp w b a m r) (h : u = v) : Xp (w.setCell ⟨b, 1, none⟩ (.int .i64 u)) b a v r := by
  subst h; exact Obj.set ho 1 _
theorem Xp.set2 {w : World} {b : Nat} {a m r u v : Int} (ho : Xp w b a m r) (h : u = v) : Xp (w.setCell ⟨b, 2, none⟩ (.int .i64 u)) b a m v := by
  subst h; exact Obj.set ho 2 _
theorem Xp.kept {w w' : World} {b c : Nat} {a m r : Int} (h : Xp w b a m r) (hg : w.grownBy w' (some c)) (hr : b ≠ c) : Xp w' b a m r := Obj.kept h hg (by simpa using hr)
theorem Xp.drewN {w : World} {b : Nat} {a m r : Int} (h : Xp w b a m r) (n : Nat) : Xp (w.drewN n) b a m r := h
theorem Xp.below {w w' : World} {b : Nat} {a m r : Int} (h : Xp w b a m r) (hb : Below w.heap.size w w') : Xp w' b a m r := (hb.block b h.lt).trans h
theorem Pip.other {w : World} {b c j : Nat} {r s l e : Int} {u : Value} (h : Pip w b r s l e) (hne : b ≠ c) : Pip (w.setCell ⟨c, j, none⟩ u) b r s l e := (Below.heap_setCell _ _ _ _ hne).trans h
theorem Pip.bel {w w' : World} {b : Nat} {r s l e : Int} (h : Pip w b r s l e) (hb : Below w.heap.size w w') : Pip w' b r s l e := (hb.block b h.lt).trans h

set_option maxHeartbeats 16000000 in
set_option maxRecDepth 100000 in
theorem walk (r₀ : Int) (a : Option Addr) (len cap : Nat) (A : Nat → Option Addr) (L C : Nat → Nat) (Z : Nat → List Int) (w : World) (hr : -9223372036854775808 ≤ r₀ ∧ r₀ ≤ 9223372036854775807) (hI : Grid w w.heap.size a len A L C Z) (hd : Hd w) :
    Calls Tryd.prog 4 #[.int .i64 r₀, .slice a len cap] w fun e w' => e = .returned (.bool true) ∧ Below w.heap.size w w' := by
  have hroom := hI.room
  have HI := Lib.hid hI; clear hI
  have HD := Lib.hid hd; clear hd
  by_cases hv : 0 ≤ r₀ ∧ r₀ ≤ 100
  · obtain ⟨r0, r1⟩ := hv
    clear hr
    go_enter Tryd.func4, Tryd.ntmps4
    go_wp2_with fail
    refine (wnew_yes _ _ r0 r1).mono ?_
    rintro e w2 ⟨rfl, ho, hg⟩
    have H2 := Lib.hid ho; clear ho
    have B2 : Hid (Below w.heap.size w w2) := below_new hg
    clear hg
    have hbx : w.heap.size < w2.heap.size := H2.out.lt
    have hsz : w.heap.size ≤ w.heap.size := Nat.le_refl _
    obtain ⟨b, hb⟩ : ∃ b, b = w.heap.size := ⟨_, rfl⟩
    have hwb : w.heap.size ≤ b := by omega
    rw [← hb] at H2 hbx ⊢
    have HEQ := Lib.hid hb; clear hb
    go_wp2_with fail
    refine (in_in _ _ _ _ r0 r1).mono ?_
    rintro e w' ⟨rfl, rfl⟩
    obtain ⟨xb, hxe⟩ : ∃ xb, xb = w2.heap.size := ⟨_, rfl⟩
    have X2 : Hid (Xp (w2.alloc (.cells #[.int .i64 0, .int .i64 r₀, .int .i64 r₀] 38 (0, 0))) xb 0 r₀ r₀) := by
      rw [hxe]; exact Obj.new _ _ _
    have P2 : Hid (Pip (w2.alloc (.cells #[.int .i64 0, .int .i64 r₀, .int .i64 r₀] 38 (0, 0))) b r₀ 0 r₀ 0) := Obj.alloc H2.out _
    have B3 : Hid (Below w.heap.size w (w2.alloc (.cells #[.int .i64 0, .int .i64 r₀, .int .i64 r₀] 38 (0, 0)))) := B2.out.alloc B2.out.size _
    rw [← hxe] at hbx
    have hne : b ≠ xb := by omega
    have hwx : w.heap.size ≤ xb := by omega
    clear hbx
    go_wp2_with fail
    rw [← hxe]
    clear hxe
    go_loopw [8] (fun v8 wr => ∃ (k : Nat) (r s l d : Int), k ≤ len ∧ k ≤ 60 ∧ v8 = .int .i64 k ∧ 0 ≤ r ∧ r ≤ 100 ∧ 0 ≤ d ∧ d ≤ s ∧ s ≤ l ∧ l ≤ d + r ∧ s ≤ 100 * k ∧ Pip wr b r s l d ∧ Xp wr xb (s - d) (l - s) r ∧ Below w.heap.size w wr)
      (fun v8 _ => len - (intOf v8).toNat)
    case atStart => exact ⟨0, r₀, 0, r₀, 0, by omega, by omega, rfl, r0, r1, by omega, by omega, by omega, by omega, by omega, P2.out, by rw [show r₀ - 0 = r₀ from by omega]; exact X2.out, B3.out⟩
    case round =>
      clear H2 B2 X2 P2 B3 r0 r1
      obtain ⟨k, r, s, l, d, hk, hk60, rfl, r0, r1, i1, i2, i3, i4, i5, hP, hX, hB⟩ := hrel
      have HB := Lib.hid hB; clear hB
      have HP := Lib.hid hP; clear hP
      have HX := Lib.hid hX; clear hX
      have HK := Lib.hid (show PipOk r s l d from ⟨r0, r1, i1, i2, i3, by omega, by omega⟩)
      by_cases hlt : k < len ∧ k < 60
      · obtain ⟨hl1, hl2⟩ := hlt
        obtain ⟨gb, goff, rfl, hgb, hgc⟩ := HI.out.cell k hl1
        have hrow := HI.out.row k hl1
        have hcx := (HB.out.cell (p := ⟨gb, goff + k, none⟩) hgb).trans hgc
        clear hgc
        generalize A k = ak at *
        generalize L k = lk at *
        generalize C k = ck at *
        generalize Z k = zk at *
        by_cases h2 : lk = 2
        · subst h2
          obtain ⟨ib, ioff, rfl, hib, hi0⟩ := hrow.cell 0 (by omega)
          obtain ⟨ib', ioff', he, hib', hi1⟩ := hrow.cell 1 (by omega)
          simp only [Option.some.injEq, Addr.mk.injEq, and_true] at he
          obtain ⟨rfl, rfl⟩ := he
          have hc0 := (HB.out.cell (p := ⟨ib, ioff, none⟩) hib).trans hi0
          have hc1 := (HB.out.cell (p := ⟨ib, ioff + 1, none⟩) hib).trans hi1
          clear hrow hi0 hi1 hib'
          generalize zk.getD 0 0 = x at *
          generalize zk.getD 1 0 = n at *
          have x0 := HX.out.cell 0
          have x1 := HX.out.cell 1
          have x2 := HX.out.cell 2
          have f0 := HX.out.free 0
          have f1 := HX.out.free 1
          have f2 := HX.out.free 2
          simp only [List.getElem?_cons_zero, List.getElem?_cons_succ] at x0 x1 x2
          by_cases hx0 : x = 0
          · have hxb : (x == 0) = true := by simpa using hx0
            clear hx0
            by_cases hn : 0 ≤ n ∧ n ≤ 100
            · obtain ⟨n0, n1⟩ := hn
              by_cases hc : l < s + n
              · go_wp2_with fail
                refine (in_in _ _ _ _ n0 n1).mono ?_
                rintro e w' ⟨rfl, rfl⟩
                go_wp2_with fail
                refine (wsend_full b r s l d n _ HP.out HK.out n0 n1 hc).mono ?_
                rintro e w3 ⟨rfl, m, rfl⟩
                have P3 := Lib.hid (HP.out.drewN m)
                have X3 := Lib.hid (HX.out.drewN m)
                have B3 := Lib.hid (below_drewN HB.out m)
                generalize wr.drewN m = w3 at *

                have K3 := Lib.hid (show PipOk (r) (s) (l) (d) from ⟨by omega, by omega, by omega, by omega, by omega, by omega, by omega⟩)
                clear hcx hc0 hc1 x0 x1 x2 f0 f1 f2
                go_wp2_with fail
                refine (wwaits b (r) (s) (l) (d) _ P3.out K3.out).mono ?_
                rintro e w4 ⟨rfl, m, rfl⟩
                have P4 := Lib.hid (P3.out.drewN m)
                have X4 := Lib.hid (X3.out.drewN m)
                have B4 := Lib.hid (below_drewN B3.out m)
                generalize w3.drewN m = w4 at *
                have E := Lib.hid (err_same 4 w4 (HD.out.later B4.out))
                have e0 : errOr 4 = errV 4 := rfl
                rw [e0] at E
                clear e0
                go_wp2_with fail
                refine E.out.mono ?_
                clear E
                rintro e w5 ⟨rfl, hB⟩
                have P5 := Lib.hid (Pip.bel P4.out hB)
                have X5 := Lib.hid (X4.out.below hB)
                have B5 : Hid (Below w.heap.size w w5) := B4.out.trans (hB.mono B4.out.size)
                clear hB
                have y0 := X5.out.cell 0
                have y1 := X5.out.cell 1
                simp only [List.getElem?_cons_zero, List.getElem?_cons_succ] at y0 y1
                go_wp2_with fail
                go_roundw
                case rel => exact ⟨k + 1, r, s, l, d, by omega, by omega, by go_num, by omega, by omega, by omega, by omega, by omega, by omega, by omega, P5.out, X5.out, B5.out⟩
                case measure => simp [intOf]; omega
              · have hc2 : s + n ≤ l := by omega
                clear hc

                go_wp2_with fail
                refine (in_in _ _ _ _ n0 n1).mono ?_
                rintro e w' ⟨rfl, rfl⟩
                go_wp2_with fail
                refine (wsend_yes b r s l d n _ (Pip.other (Pip.other HP.out hne) hne) HK.out n0 n1 hc2).mono ?_
                rintro e w3 ⟨rfl, ho, hg⟩
                have P3 := Lib.hid ho
                have X3 : Hid (Xp w3 xb (s + n - (d)) (l - (s + n)) (r)) := Xp.kept (Xp.set0 (Xp.set1 HX.out (by omega)) (by omega)) hg (Ne.symm hne)
                have B3 : Hid (Below w.heap.size w w3) := Below.trans ((HB.out.setCell hwx _).setCell hwx _) (below_grown hg hwb (Obj.lt (Pip.other (Pip.other HP.out hne) hne)))
                clear ho hg

                have K3 := Lib.hid (show PipOk (r) (s + n) (l) (d) from ⟨by omega, by omega, by omega, by omega, by omega, by omega, by omega⟩)
                clear hcx hc0 hc1 x0 x1 x2 f0 f1 f2
                go_wp2_with fail
                refine (wwaits b (r) (s + n) (l) (d) _ P3.out K3.out).mono ?_
                rintro e w4 ⟨rfl, m, rfl⟩
                have P4 := Lib.hid (P3.out.drewN m)
                have X4 := Lib.hid (X3.out.drewN m)
                have B4 := Lib.hid (below_drewN B3.out m)
                generalize w3.drewN m = w4 at *
                have E := Lib.hid (err_same 0 w4 (HD.out.later B4.out))
                have e0 : errOr 0 = .nilIface := rfl
                rw [e0] at E
                clear e0
                go_wp2_with fail
                refine E.out.mono ?_
                clear E
                rintro e w5 ⟨rfl, hB⟩
                have P5 := Lib.hid (Pip.bel P4.out hB)
                have X5 := Lib.hid (X4.out.below hB)
                have B5 : Hid (Below w.heap.size w w5) := B4.out.trans (hB.mono B4.out.size)
                clear hB
                have y0 := X5.out.cell 0
                have y1 := X5.out.cell 1
                simp only [List.getElem?_cons_zero, List.getElem?_cons_succ] at y0 y1
                go_wp2_with fail
                go_roundw
                case rel => exact ⟨k + 1, r, s + n, l, d, by omega, by omega, by go_num, by omega, by omega, by omega, by omega, by omega, by omega, by omega, P5.out, X5.out, B5.out⟩
                case measure => simp [intOf]; omega
            · have HN := Lib.hid (show n < 0 ∨ 100 < n by omega)
              clear hn

              go_wp2_with fail
              refine (in_out _ _ _ _ HN.out).mono ?_
              rintro e w' ⟨rfl, rfl⟩
              go_wp2_with fail
              refine (wsend_no b n _ HN.out).mono ?_
              rintro e w3 ⟨rfl, rfl⟩
              have P3 := HP
              have X3 := HX
              have B3 := HB

              have K3 := Lib.hid (show PipOk (r) (s) (l) (d) from ⟨by omega, by omega, by omega, by omega, by omega, by omega, by omega⟩)
              clear hcx hc0 hc1 x0 x1 x2 f0 f1 f2
              go_wp2_with fail
              refine (wwaits b (r) (s) (l) (d) _ P3.out K3.out).mono ?_
              rintro e w4 ⟨rfl, m, rfl⟩
              have P4 := Lib.hid (P3.out.drewN m)
              have X4 := Lib.hid (X3.out.drewN m)
              have B4 := Lib.hid (below_drewN B3.out m)
              generalize wr.drewN m = w4 at *
              have E := Lib.hid (err_same 1 w4 (HD.out.later B4.out))
              have e0 : errOr 1 = errV 1 := rfl
              rw [e0] at E
              clear e0
              go_wp2_with fail
              refine E.out.mono ?_
              clear E
              rintro e w5 ⟨rfl, hB⟩
              have P5 := Lib.hid (Pip.bel P4.out hB)
              have X5 := Lib.hid (X4.out.below hB)
              have B5 : Hid (Below w.heap.size w w5) := B4.out.trans (hB.mono B4.out.size)
              clear hB
              have y0 := X5.out.cell 0
              have y1 := X5.out.cell 1
              simp only [List.getElem?_cons_zero, List.getElem?_cons_succ] at y0 y1
              go_wp2_with fail
              go_roundw
              case rel => exact ⟨k + 1, r, s, l, d, by omega, by omega, by go_num, by omega, by omega, by omega, by omega, by omega, by omega, by omega, P5.out, X5.out, B5.out⟩
              case measure => simp [intOf]; omega
          · have hxb : (x == 0) = false := by simpa using hx0
            clear hx0
            by_cases hx1 : x = 1
            · have hxb1 : (x == 1) = true := by simpa using hx1
              clear hx1
              by_cases hn : 0 ≤ n ∧ n ≤ 100
              · obtain ⟨n0, n1⟩ := hn
                by_cases hc : s < d + n
                · go_wp2_with fail
                  refine (in_in _ _ _ _ n0 n1).mono ?_
                  rintro e w' ⟨rfl, rfl⟩
                  go_wp2_with fail
                  refine (weat_none b r s l d n _ HP.out HK.out n0 n1 hc).mono ?_
                  rintro e w3 ⟨rfl, m, rfl⟩
                  have P3 := Lib.hid (HP.out.drewN m)
                  have X3 := Lib.hid (HX.out.drewN m)
                  have B3 := Lib.hid (below_drewN HB.out m)
                  generalize wr.drewN m = w3 at *

                  have K3 := Lib.hid (show PipOk (r) (s) (l) (d) from ⟨by omega, by omega, by omega, by omega, by omega, by omega, by omega⟩)
                  clear hcx hc0 hc1 x0 x1 x2 f0 f1 f2
                  go_wp2_with fail
                  refine (wwaits b (r) (s) (l) (d) _ P3.out K3.out).mono ?_
                  rintro e w4 ⟨rfl, m, rfl⟩
                  have P4 := Lib.hid (P3.out.drewN m)
                  have X4 := Lib.hid (X3.out.drewN m)
                  have B4 := Lib.hid (below_drewN B3.out m)
                  generalize w3.drewN m = w4 at *
                  have E := Lib.hid (err_same 5 w4 (HD.out.later B4.out))
                  have e0 : errOr 5 = errV 5 := rfl
                  rw [e0] at E
                  clear e0
                  go_wp2_with fail
                  refine E.out.mono ?_
                  clear E
                  rintro e w5 ⟨rfl, hB⟩
                  have P5 := Lib.hid (Pip.bel P4.out hB)
                  have X5 := Lib.hid (X4.out.below hB)
                  have B5 : Hid (Below w.heap.size w w5) := B4.out.trans (hB.mono B4.out.size)
                  clear hB
                  have y0 := X5.out.cell 0
                  have y1 := X5.out.cell 1
                  simp only [List.getElem?_cons_zero, List.getElem?_cons_succ] at y0 y1
                  go_wp2_with fail
                  go_roundw
                  case rel => exact ⟨k + 1, r, s, l, d, by omega, by omega, by go_num, by omega, by omega, by omega, by omega, by omega, by omega, by omega, P5.out, X5.out, B5.out⟩
                  case measure => simp [intOf]; omega
                · have hc2 : d + n ≤ s := by omega
                  clear hc

                  go_wp2_with fail
                  refine (in_in _ _ _ _ n0 n1).mono ?_
                  rintro e w' ⟨rfl, rfl⟩
                  go_wp2_with fail
                  refine (weat_yes b r s l d n _ (Pip.other HP.out hne) HK.out n0 n1 hc2).mono ?_
                  rintro e w3 ⟨rfl, ho, hg⟩
                  have P3 := Lib.hid ho
                  have X3 : Hid (Xp w3 xb (s - (d + n)) (l - (s)) (r)) := Xp.kept (Xp.set0 HX.out (by omega)) hg (Ne.symm hne)
                  have B3 : Hid (Below w.heap.size w w3) := Below.trans (HB.out.setCell hwx _) (below_grown hg hwb (Obj.lt (Pip.other HP.out hne)))
                  clear ho hg

                  have K3 := Lib.hid (show PipOk (r) (s) (l) (d + n) from ⟨by omega, by omega, by omega, by omega, by omega, by omega, by omega⟩)
                  clear hcx hc0 hc1 x0 x1 x2 f0 f1 f2
                  go_wp2_with fail
                  refine (wwaits b (r) (s) (l) (d + n) _ P3.out K3.out).mono ?_
                  rintro e w4 ⟨rfl, m, rfl⟩
                  have P4 := Lib.hid (P3.out.drewN m)
                  have X4 := Lib.hid (X3.out.drewN m)
                  have B4 := Lib.hid (below_drewN B3.out m)
                  generalize w3.drewN m = w4 at *
                  have E := Lib.hid (err_same 0 w4 (HD.out.later B4.out))
                  have e0 : errOr 0 = .nilIface := rfl
                  rw [e0] at E
                  clear e0
                  go_wp2_with fail
                  refine E.out.mono ?_
                  clear E
                  rintro e w5 ⟨rfl, hB⟩
                  have P5 := Lib.hid (Pip.bel P4.out hB)
                  have X5 := Lib.hid (X4.out.below hB)
                  have B5 : Hid (Below w.heap.size w w5) := B4.out.trans (hB.mono B4.out.size)
                  clear hB
                  have y0 := X5.out.cell 0
                  have y1 := X5.out.cell 1
                  simp only [List.getElem?_cons_zero, List.getElem?_cons_succ] at y0 y1
                  go_wp2_with fail
                  go_roundw
                  case rel => exact ⟨k + 1, r, s, l, d + n, by omega, by omega, by go_num, by omega, by omega, by omega, by omega, by omega, by omega, by omega, P5.out, X5.out, B5.out⟩
                  case measure => simp [intOf]; omega
              · have HN := Lib.hid (show n < 0 ∨ 100 < n by omega)
                clear hn

                go_wp2_with fail
                refine (in_out _ _ _ _ HN.out).mono ?_
                rintro e w' ⟨rfl, rfl⟩
                go_wp2_with fail
                refine (weat_no b n _ HN.out).mono ?_
                rintro e w3 ⟨rfl, rfl⟩
                have P3 := HP
                have X3 := HX
                have B3 := HB

                have K3 := Lib.hid (show PipOk (r) (s) (l) (d) from ⟨by omega, by omega, by omega, by omega, by omega, by omega, by omega⟩)
                clear hcx hc0 hc1 x0 x1 x2 f0 f1 f2
                go_wp2_with fail
                refine (wwaits b (r) (s) (l) (d) _ P3.out K3.out).mono ?_
                rintro e w4 ⟨rfl, m, rfl⟩
                have P4 := Lib.hid (P3.out.drewN m)
                have X4 := Lib.hid (X3.out.drewN m)
                have B4 := Lib.hid (below_drewN B3.out m)
                generalize wr.drewN m = w4 at *
                have E := Lib.hid (err_same 1 w4 (HD.out.later B4.out))
                have e0 : errOr 1 = errV 1 := rfl
                rw [e0] at E
                clear e0
                go_wp2_with fail
                refine E.out.mono ?_
                clear E
                rintro e w5 ⟨rfl, hB⟩
                have P5 := Lib.hid (Pip.bel P4.out hB)
                have X5 := Lib.hid (X4.out.below hB)
                have B5 : Hid (Below w.heap.size w w5) := B4.out.trans (hB.mono B4.out.size)
                clear hB
                have y0 := X5.out.cell 0
                have y1 := X5.out.cell 1
                simp only [List.getElem?_cons_zero, List.getElem?_cons_succ] at y0 y1
                go_wp2_with fail
                go_roundw
                case rel => exact ⟨k + 1, r, s, l, d, by omega, by omega, by go_num, by omega, by omega, by omega, by omega, by omega, by omega, by omega, P5.out, X5.out, B5.out⟩
                case measure => simp [intOf]; omega
            · have hxb1 : (x == 1) = false := by simpa using hx1
              clear hx1
              by_cases hx2 : x = 2
              · have hxb2 : (x == 2) = true := by simpa using hx2
                clear hx2
                by_cases hn : 0 ≤ n ∧ n ≤ 100
                · obtain ⟨n0, n1⟩ := hn

                  go_wp2_with fail
                  refine (in_in _ _ _ _ n0 n1).mono ?_
                  rintro e w' ⟨rfl, rfl⟩
                  go_wp2_with fail
                  refine (wgrant b r s l d _ (Pip.other HP.out hne) HK.out).mono ?_
                  rintro e w3 ⟨rfl, ho, hg⟩
                  have P3 := Lib.hid ho
                  have X3 : Hid (Xp w3 xb (s - d) (d + r - s) r) := Xp.kept (Xp.set1 HX.out (by omega)) hg (Ne.symm hne)
                  have B3 : Hid (Below w.heap.size w w3) := Below.trans (HB.out.setCell hwx _) (below_grown hg hwb (Obj.lt (Pip.other HP.out hne)))
                  clear ho hg

                  have K3 := Lib.hid (show PipOk (r) (s) (d + r) (d) from ⟨by omega, by omega, by omega, by omega, by omega, by omega, by omega⟩)
                  clear hcx hc0 hc1 x0 x1 x2 f0 f1 f2
                  go_wp2_with fail
                  refine (wwaits b (r) (s) (d + r) (d) _ P3.out K3.out).mono ?_
                  rintro e w4 ⟨rfl, m, rfl⟩
                  have P4 := Lib.hid (P3.out.drewN m)
                  have X4 := Lib.hid (X3.out.drewN m)
                  have B4 := Lib.hid (below_drewN B3.out m)
                  generalize w3.drewN m = w4 at *
                  have E := Lib.hid (err_same 0 w4 (HD.out.later B4.out))
                  have e0 : errOr 0 = .nilIface := rfl
                  rw [e0] at E
                  clear e0
                  go_wp2_with fail
                  refine E.out.mono ?_
                  clear E
                  rintro e w5 ⟨rfl, hB⟩
                  have P5 := Lib.hid (Pip.bel P4.out hB)
                  have X5 := Lib.hid (X4.out.below hB)
                  have B5 : Hid (Below w.heap.size w w5) := B4.out.trans (hB.mono B4.out.size)
                  clear hB
                  have y0 := X5.out.cell 0
                  have y1 := X5.out.cell 1
                  simp only [List.getElem?_cons_zero, List.getElem?_cons_succ] at y0 y1
                  go_wp2_with fail
                  go_roundw
                  case rel => exact ⟨k + 1, r, s, d + r, d, by omega, by omega, by go_num, by omega, by omega, by omega, by omega, by omega, by omega, by omega, P5.out, X5.out, B5.out⟩
                  case measure => simp [intOf]; omega
                · have HN := Lib.hid (show n < 0 ∨ 100 < n by omega)
                  clear hn

                  go_wp2_with fail
                  refine (in_out _ _ _ _ HN.out).mono ?_
                  rintro e w' ⟨rfl, rfl⟩
                  go_wp2_with fail
                  refine (wgrant b r s l d _ (Pip.other HP.out hne) HK.out).mono ?_
                  rintro e w3 ⟨rfl, ho, hg⟩
                  have P3 := Lib.hid ho
                  have X3 : Hid (Xp w3 xb (s - d) (d + r - s) r) := Xp.kept (Xp.set1 HX.out (by omega)) hg (Ne.symm hne)
                  have B3 : Hid (Below w.heap.size w w3) := Below.trans (HB.out.setCell hwx _) (below_grown hg hwb (Obj.lt (Pip.other HP.out hne)))
                  clear ho hg

                  have K3 := Lib.hid (show PipOk (r) (s) (d + r) (d) from ⟨by omega, by omega, by omega, by omega, by omega, by omega, by omega⟩)
                  clear hcx hc0 hc1 x0 x1 x2 f0 f1 f2
                  go_wp2_with fail
                  refine (wwaits b (r) (s) (d + r) (d) _ P3.out K3.out).mono ?_
                  rintro e w4 ⟨rfl, m, rfl⟩
                  have P4 := Lib.hid (P3.out.drewN m)
                  have X4 := Lib.hid (X3.out.drewN m)
                  have B4 := Lib.hid (below_drewN B3.out m)
                  generalize w3.drewN m = w4 at *
                  have E := Lib.hid (err_same 0 w4 (HD.out.later B4.out))
                  have e0 : errOr 0 = .nilIface := rfl
                  rw [e0] at E
                  clear e0
                  go_wp2_with fail
                  refine E.out.mono ?_
                  clear E
                  rintro e w5 ⟨rfl, hB⟩
                  have P5 := Lib.hid (Pip.bel P4.out hB)
                  have X5 := Lib.hid (X4.out.below hB)
                  have B5 : Hid (Below w.heap.size w w5) := B4.out.trans (hB.mono B4.out.size)
                  clear hB
                  have y0 := X5.out.cell 0
                  have y1 := X5.out.cell 1
                  simp only [List.getElem?_cons_zero, List.getElem?_cons_succ] at y0 y1
                  go_wp2_with fail
                  go_roundw
                  case rel => exact ⟨k + 1, r, s, d + r, d, by omega, by omega, by go_num, by omega, by omega, by omega, by omega, by omega, by omega, by omega, P5.out, X5.out, B5.out⟩
                  case measure => simp [intOf]; omega
              · have hxb2 : (x == 2) = false := by simpa using hx2
                clear hx2
                by_cases hn : 0 ≤ n ∧ n ≤ 100
                · obtain ⟨n0, n1⟩ := hn
                  by_cases hc : n < l - d
                  · go_wp2_with fail
                    refine (in_in _ _ _ _ n0 n1).mono ?_
                    rintro e w' ⟨rfl, rfl⟩
                    go_wp2_with fail
                    refine (wresize_state b r s l d n _ HP.out HK.out n0 n1 hc).mono ?_
                    rintro e w3 ⟨rfl, m, rfl⟩
                    have P3 := Lib.hid (HP.out.drewN m)
                    have X3 := Lib.hid (HX.out.drewN m)
                    have B3 := Lib.hid (below_drewN HB.out m)
                    generalize wr.drewN m = w3 at *

                    have K3 := Lib.hid (show PipOk (r) (s) (l) (d) from ⟨by omega, by omega, by omega, by omega, by omega, by omega, by omega⟩)
                    clear hcx hc0 hc1 x0 x1 x2 f0 f1 f2
                    go_wp2_with fail
                    refine (wwaits b (r) (s) (l) (d) _ P3.out K3.out).mono ?_
                    rintro e w4 ⟨rfl, m, rfl⟩
                    have P4 := Lib.hid (P3.out.drewN m)
                    have X4 := Lib.hid (X3.out.drewN m)
                    have B4 := Lib.hid (below_drewN B3.out m)
                    generalize w3.drewN m = w4 at *
                    have E := Lib.hid (err_same 7 w4 (HD.out.later B4.out))
                    have e0 : errOr 7 = errV 7 := rfl
                    rw [e0] at E
                    clear e0
                    go_wp2_with fail
                    refine E.out.mono ?_
                    clear E
                    rintro e w5 ⟨rfl, hB⟩
                    have P5 := Lib.hid (Pip.bel P4.out hB)
                    have X5 := Lib.hid (X4.out.below hB)
                    have B5 : Hid (Below w.heap.size w w5) := B4.out.trans (hB.mono B4.out.size)
                    clear hB
                    have y0 := X5.out.cell 0
                    have y1 := X5.out.cell 1
                    simp only [List.getElem?_cons_zero, List.getElem?_cons_succ] at y0 y1
                    go_wp2_with fail
                    go_roundw
                    case rel => exact ⟨k + 1, r, s, l, d, by omega, by omega, by go_num, by omega, by omega, by omega, by omega, by omega, by omega, by omega, P5.out, X5.out, B5.out⟩
                    case measure => simp [intOf]; omega
                  · have hc2 : l - d ≤ n := by omega
                    clear hc

                    go_wp2_with fail
                    refine (in_in _ _ _ _ n0 n1).mono ?_
                    rintro e w' ⟨rfl, rfl⟩
                    go_wp2_with fail
                    refine (wresize_yes b r s l d n _ (Pip.other HP.out hne) HK.out n0 n1 hc2).mono ?_
                    rintro e w3 ⟨rfl, ho, hg⟩
                    have P3 := Lib.hid ho
                    have X3 : Hid (Xp w3 xb (s - (d)) (l - (s)) (n)) := Xp.kept (Xp.set2 HX.out (by omega)) hg (Ne.symm hne)
                    have B3 : Hid (Below w.heap.size w w3) := Below.trans (HB.out.setCell hwx _) (below_grown hg hwb (Obj.lt (Pip.other HP.out hne)))
                    clear ho hg

                    have K3 := Lib.hid (show PipOk (n) (s) (l) (d) from ⟨by omega, by omega, by omega, by omega, by omega, by omega, by omega⟩)
                    clear hcx hc0 hc1 x0 x1 x2 f0 f1 f2
                    go_wp2_with fail
                    refine (wwaits b (n) (s) (l) (d) _ P3.out K3.out).mono ?_
                    rintro e w4 ⟨rfl, m, rfl⟩
                    have P4 := Lib.hid (P3.out.drewN m)
                    have X4 := Lib.hid (X3.out.drewN m)
                    have B4 := Lib.hid (below_drewN B3.out m)
                    generalize w3.drewN m = w4 at *
                    have E := Lib.hid (err_same 0 w4 (HD.out.later B4.out))
                    have e0 : errOr 0 = .nilIface := rfl
                    rw [e0] at E
                    clear e0
                    go_wp2_with fail
                    refine E.out.mono ?_
                    clear E
                    rintro e w5 ⟨rfl, hB⟩
                    have P5 := Lib.hid (Pip.bel P4.out hB)
                    have X5 := Lib.hid (X4.out.below hB)
                    have B5 : Hid (Below w.heap.size w w5) := B4.out.trans (hB.mono B4.out.size)
                    clear hB
                    have y0 := X5.out.cell 0
                    have y1 := X5.out.cell 1
                    simp only [List.getElem?_cons_zero, List.getElem?_cons_succ] at y0 y1
                    go_wp2_with fail
                    go_roundw
                    case rel => exact ⟨k + 1, n, s, l, d, by omega, by omega, by go_num, by omega, by omega, by omega, by omega, by omega, by omega, by omega, P5.out, X5.out, B5.out⟩
                    case measure => simp [intOf]; omega
                · have HN := Lib.hid (show n < 0 ∨ 100 < n by omega)
                  clear hn

                  go_wp2_with fail
                  refine (in_out _ _ _ _ HN.out).mono ?_
                  rintro e w' ⟨rfl, rfl⟩
                  go_wp2_with fail
                  refine (wresize_no b n _ HN.out).mono ?_
                  rintro e w3 ⟨rfl, rfl⟩
                  have P3 := HP
                  have X3 := HX
                  have B3 := HB

                  have K3 := Lib.hid (show PipOk (r) (s) (l) (d) from ⟨by omega, by omega, by omega, by omega, by omega, by omega, by omega⟩)
                  clear hcx hc0 hc1 x0 x1 x2 f0 f1 f2
                  go_wp2_with fail
                  refine (wwaits b (r) (s) (l) (d) _ P3.out K3.out).mono ?_
                  rintro e w4 ⟨rfl, m, rfl⟩
                  have P4 := Lib.hid (P3.out.drewN m)
                  have X4 := Lib.hid (X3.out.drewN m)
                  have B4 := Lib.hid (below_drewN B3.out m)
                  generalize wr.drewN m = w4 at *
                  have E := Lib.hid (err_same 1 w4 (HD.out.later B4.out))
                  have e0 : errOr 1 = errV 1 := rfl
                  rw [e0] at E
                  clear e0
                  go_wp2_with fail
                  refine E.out.mono ?_
                  clear E
                  rintro e w5 ⟨rfl, hB⟩
                  have P5 := Lib.hid (Pip.bel P4.out hB)
                  have X5 := Lib.hid (X4.out.below hB)
                  have B5 : Hid (Below w.heap.size w w5) := B4.out.trans (hB.mono B4.out.size)
                  clear hB
                  have y0 := X5.out.cell 0
                  have y1 := X5.out.cell 1
                  simp only [List.getElem?_cons_zero, List.getElem?_cons_succ] at y0 y1
                  go_wp2_with fail
                  go_roundw
                  case rel => exact ⟨k + 1, r, s, l, d, by omega, by omega, by go_num, by omega, by omega, by omega, by omega, by omega, by omega, by omega, P5.out, X5.out, B5.out⟩
                  case measure => simp [intOf]; omega
        · have h2b : ((lk : Int) != 2) = true := by simp; omega
          clear h2 hrow
          go_wp2_with fail
          go_roundw
          case rel => exact ⟨k + 1, r, s, l, d, by omega, by omega, by go_num, by omega, by omega, by omega, by omega, by omega, by omega, by omega, HP.out, HX.out, HB.out⟩
          case measure => simp [intOf]; omega
      · go_wp2_with fail
        all_goals
          go_ret
          exact ⟨rfl, HB.out⟩
  · have HV := Lib.hid (show r₀ < 0 ∨ 100 < r₀ by omega)
    have E := Lib.hid (err_same 1 w HD.out)
    have e0 : errOr 1 = errV 1 := rfl
    rw [e0] at E
    clear hv e0
    go_enter Tryd.func4, Tryd.ntmps4
    go_wp2_with fail
    refine (wnew_no _ _ HV.out).mono ?_
    rintro e w' ⟨rfl, rfl⟩
    go_wp2_with fail
    refine (in_out _ _ _ _ HV.out).mono ?_
    rintro e w' ⟨rfl, rfl⟩
    go_wp2_with fail
    refine E.out.mono ?_
    rintro e w3 ⟨rfl, hB⟩
    have B3 := Lib.hid hB; clear hB
    go_wp2
    go_ret
    exact ⟨rfl, B3.out⟩
end Go.Proofs.YtkpflghhmnkjmaaDoor.windowPlays
