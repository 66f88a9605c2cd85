/- GcraPlays returns true for every input: the walk. -/
import Derived.Test.YtikclgfldfpbdaaDoorGcraRef
import Derived.Test.YtikclgfldfpbdaaDoorTold
namespace Go.Proofs.YtikclgfldfpbdaaDoor.gcraPlays
open Go.RowKit
set_option linter.unusedSimpArgs false
set_option linter.unusedVariables false

theorem leak_all (st sl : Int) (a : Option Addr) (len cap : Nat) (ts : List Int) (w : World) (hI : Ints w w.heap.size a len ts) :
    Calls Tryd.prog 6 #[.int .i64 st, .int .i64 sl, .slice a len cap] w fun e w' => ∃ a c, e = .returned (.tuple #[.slice a (outM st sl ts).length c, errOr (leakE st sl ts)]) ∧ Bools w' w'.heap.size a (outM st sl ts).length (outM st sl ts) ∧ Below w.heap.size w w' := by
  refine (leak_any st sl a len cap ts w hI).mono fun e w' h => ?_
  by_cases hE : leakE st sl ts = 0
  · obtain ⟨a, c, h1, h2, _, h3⟩ := h.1 hE
    have ho : outM st sl ts = (lkRun st sl ts).out := if_pos hE
    rw [ho, hE]
    exact ⟨a, c, h1, h2, h3⟩
  · obtain ⟨h1, h2⟩ := h.2 hE
    have ho : outM st sl ts = [] := if_neg hE
    have he : errOr (leakE st sl ts) = errV (leakE st sl ts) := if_neg hE
    rw [ho, he]
    exact ⟨none, 0, h1, ⟨rfl, by simp, by intro k hk; simp at hk⟩, h2⟩

/-- What the gate may hold, and the reference. -/
structure Gt (st sl nx la : Int) : Prop where
  s0 : 1 ≤ st
  s1 : st ≤ 20
  l0 : 0 ≤ sl
  l1 : sl ≤ 100
  n0 : 0 ≤ nx
  n1 : nx ≤ 1120
  a0 : 0 ≤ la
  a1 : la ≤ 1000

set_option maxHeartbeats 8000000 in
set_option maxRecDepth 100000 in
theorem walk (st sl : Int) (a : Option Addr) (len cap : Nat) (ts : List Int) (w : World) (hst : -9223372036854775808 ≤ st ∧ st ≤ 9223372036854775807) (hsl : -9223372036854775808 ≤ sl ∧ sl ≤ 9223372036854775807) (hI : Ints w w.heap.size a len ts) (hd : Hd w) :
    Calls Tryd.prog 3 #[.int .i64 st, .int .i64 sl, .slice a len cap] w fun e w' => e = .returned (.bool true) ∧ Below w.heap.size w w' := by
  have hroom := hI.room
  have HI := Lib.hid hI; clear hI
  have HD := Lib.hid hd; clear hd
  go_enter Tryd.func3, Tryd.ntmps3
  go_wp2_with fail
  refine (mleak_any st sl a len cap ts w HI.out).mono ?_
  rintro e w1 ⟨ga, gc, rfl, hg, hB⟩
  have G1 := Lib.hid hg; clear hg
  have B1 := Lib.hid hB; clear hB
  have I1 := Lib.hid (HI.out.later B1.out)
  have CL := Lib.hid (leak_all st sl a len cap ts w1 I1.out)
  generalize leakE st sl ts = n at *
  generalize outM st sl ts = bs at *
  obtain ⟨L, hL⟩ : ∃ L, L = bs.length := ⟨_, rfl⟩
  rw [← hL] at G1 CL ⊢
  clear hL
  go_wp2_with fail
  refine CL.out.mono ?_
  clear CL
  rintro e w2 ⟨gb, gd, rfl, hg, hB⟩
  have G2 := Lib.hid hg; clear hg
  have G12 := Lib.hid (G1.out.later hB)
  have B2 : Hid (Below w.heap.size w w2) := B1.out.trans (hB.mono B1.out.size)
  clear hB G1
  have HE := Lib.hid (err_same n w2 (HD.out.later B2.out))
  generalize errOr n = ev at *
  go_wp2_with fail
  refine HE.out.mono ?_
  rintro e w3 ⟨rfl, hB⟩
  have G3 := Lib.hid (G2.out.later hB)
  have G13 := Lib.hid (G12.out.later hB)
  have B3 : Hid (Below w.heap.size w w3) := B2.out.trans (hB.mono B2.out.size)
  clear hB G2 G12 HE
  go_wp2_with fail
  refine (bsame_yes _ _ L _ _ bs _ _ w3 G3.out G13.out).mono ?_
  rintro e w4 ⟨rfl, m, rfl⟩
  have B4 : Hid (Below w.heap.size w (w3.drewN m)) := below_drewN B3.out m
  clear G3 G13 B3
  generalize w3.drewN m = w4 at *
  by_cases hv : (1 ≤ st ∧ st ≤ 20) ∧ (0 ≤ sl ∧ sl ≤ 100)
  · obtain ⟨⟨s0, s1⟩, l0, l1⟩ := hv
    go_wp2_with fail
    refine (gnew_yes _ _ _ s0 s1 l0 l1).mono ?_
    rintro e w5 ⟨rfl, ho, hg⟩
    have H5 := Lib.hid ho; clear ho
    have B5 : Hid (Below w.heap.size w w5) := B4.out.trans ((below_new hg).mono B4.out.size)
    have hwb := B4.out.size
    clear hg
    generalize hb : w4.heap.size = b at *
    clear hb
    go_wp2_with fail
    refine (in_in _ _ _ _ s0 s1).mono ?_
    rintro e w' ⟨rfl, rfl⟩
    go_wp2_with fail
    refine (in_in _ _ _ _ l0 l1).mono ?_
    rintro e w' ⟨rfl, rfl⟩
    go_wp2_with fail
    go_loopw [12, 13, 14] (fun v12 v13 v14 wr => ∃ (k : Nat) (nx la : Int), k ≤ len ∧ k ≤ 200 ∧ v14 = .int .i64 k ∧ v12 = .int .i64 nx ∧ v13 = .int .i64 la ∧ Gt st sl nx la ∧ Gat wr b st sl nx la ∧ Below w.heap.size w wr) (fun _ _ v14 _ => 200 - (intOf v14).toNat)
    case atStart => exact ⟨0, 0, 0, by omega, by omega, rfl, rfl, rfl, ⟨s0, s1, l0, l1, by decide, by decide, by decide, by decide⟩, H5.out, B5.out⟩
    case round =>
      clear H5 B5
      obtain ⟨k, nx, la, hk, hk2, rfl, rfl, rfl, hgt, hgat, hB⟩ := hrel
      have HB := Lib.hid hB; clear hB
      have HT := Lib.hid hgat; clear hgat
      obtain ⟨_, _, _, _, n0, n1, a0, a1⟩ := hgt
      by_cases hlt : k < len ∧ k < 200
      · obtain ⟨hl1, hl2⟩ := hlt
        obtain ⟨tb, toff, rfl, htb, hti⟩ := HI.out.cell k hl1
        have hcx := (HB.out.cell (p := ⟨tb, toff + k, none⟩) htb).trans hti
        clear hti
        have hfit := HI.out.fits k
        generalize ts.getD k 0 = t at *
        by_cases hr : 0 ≤ t ∧ t ≤ 1000
        · obtain ⟨r0, r1⟩ := hr
          by_cases hla : la ≤ t
          · by_cases hm : nx ≤ t + sl
            · have hdt : decide (nx ≤ t + sl) = true := by simp; omega
              have C := Lib.hid (gcome_yes b st sl nx la t wr HT.out r0 r1 hla ⟨s0, s1⟩ ⟨l0, l1⟩ ⟨n0, by omega⟩ (by omega))
              by_cases hx : nx < t
              · rw [show max t nx = t from by omega] at C

                go_wp2_with fail
                refine (in_in _ _ _ _ r0 r1).mono ?_
                rintro e w' ⟨rfl, rfl⟩

                go_wp2_with fail
                refine C.out.mono ?_
                clear C
                rintro e w6 ⟨rfl, ho, hg⟩
                have HB6 : Hid (Below w.heap.size w w6) := HB.out.trans (below_grown hg hwb HT.out.lt)
                have H6 := Lib.hid ho; clear ho hg hcx

                have E := Lib.hid (err_same 0 w6 (HD.out.later HB6.out))
                have e0 : errOr 0 = .nilIface := rfl
                rw [e0] at E
                clear e0
                go_wp2_with fail
                refine E.out.mono ?_
                clear E
                rintro e w7 ⟨rfl, hB⟩
                have HB7 : Hid (Below w.heap.size w w7) := HB6.out.trans (hB.mono HB6.out.size)
                have H7 : Hid (Gat w7 b st sl (t + st) (t)) := (hB.block b H6.out.lt).trans H6.out
                clear hB H6
                go_wp2_with fail
                refine (gnext_any b st sl (t + st) (t) w7 H7.out).mono ?_
                rintro e w' ⟨rfl, rfl⟩
                go_wp2_with fail
                go_roundw
                case rel => exact ⟨k + 1, t + st, t, by omega, by omega, by go_num, by go_num, by go_num, ⟨s0, s1, l0, l1, by omega, by omega, by omega, by omega⟩, H7.out, HB7.out⟩
                case measure => simp [intOf]; omega
              · have hx2 : t ≤ nx := by omega
                clear hx
                rw [show max t nx = nx from by omega] at C

                go_wp2_with fail
                refine (in_in _ _ _ _ r0 r1).mono ?_
                rintro e w' ⟨rfl, rfl⟩

                go_wp2_with fail
                refine C.out.mono ?_
                clear C
                rintro e w6 ⟨rfl, ho, hg⟩
                have HB6 : Hid (Below w.heap.size w w6) := HB.out.trans (below_grown hg hwb HT.out.lt)
                have H6 := Lib.hid ho; clear ho hg hcx

                have E := Lib.hid (err_same 0 w6 (HD.out.later HB6.out))
                have e0 : errOr 0 = .nilIface := rfl
                rw [e0] at E
                clear e0
                go_wp2_with fail
                refine E.out.mono ?_
                clear E
                rintro e w7 ⟨rfl, hB⟩
                have HB7 : Hid (Below w.heap.size w w7) := HB6.out.trans (hB.mono HB6.out.size)
                have H7 : Hid (Gat w7 b st sl (nx + st) (t)) := (hB.block b H6.out.lt).trans H6.out
                clear hB H6
                go_wp2_with fail
                refine (gnext_any b st sl (nx + st) (t) w7 H7.out).mono ?_
                rintro e w' ⟨rfl, rfl⟩
                go_wp2_with fail
                go_roundw
                case rel => exact ⟨k + 1, nx + st, t, by omega, by omega, by go_num, by go_num, by go_num, ⟨s0, s1, l0, l1, by omega, by omega, by omega, by omega⟩, H7.out, HB7.out⟩
                case measure => simp [intOf]; omega
            · have hm2 : t + sl < nx := by omega
              clear hm
              have hdt : decide (nx ≤ t + sl) = false := by simp; omega
              have C := Lib.hid (gcome_wait b st sl nx la t wr HT.out r0 r1 hla ⟨l0, l1⟩ ⟨n0, by omega⟩ (by omega))

              go_wp2_with fail
              refine (in_in _ _ _ _ r0 r1).mono ?_
              rintro e w' ⟨rfl, rfl⟩

              go_wp2_with fail
              refine C.out.mono ?_
              clear C
              rintro e w6 ⟨rfl, ho, hg⟩
              have HB6 : Hid (Below w.heap.size w w6) := HB.out.trans (below_grown hg hwb HT.out.lt)
              have H6 := Lib.hid ho; clear ho hg hcx

              have E := Lib.hid (err_same 0 w6 (HD.out.later HB6.out))
              have e0 : errOr 0 = .nilIface := rfl
              rw [e0] at E
              clear e0
              go_wp2_with fail
              refine E.out.mono ?_
              clear E
              rintro e w7 ⟨rfl, hB⟩
              have HB7 : Hid (Below w.heap.size w w7) := HB6.out.trans (hB.mono HB6.out.size)
              have H7 : Hid (Gat w7 b st sl (nx) (t)) := (hB.block b H6.out.lt).trans H6.out
              clear hB H6
              go_wp2_with fail
              refine (gnext_any b st sl (nx) (t) w7 H7.out).mono ?_
              rintro e w' ⟨rfl, rfl⟩
              go_wp2_with fail
              go_roundw
              case rel => exact ⟨k + 1, nx, t, by omega, by omega, by go_num, by go_num, by go_num, ⟨s0, s1, l0, l1, by omega, by omega, by omega, by omega⟩, H7.out, HB7.out⟩
              case measure => simp [intOf]; omega
          · have hla2 : t < la := by omega
            clear hla
            have C := Lib.hid (gcome_state b st sl nx la t wr HT.out r0 r1 hla2)

            go_wp2_with fail
            refine (in_in _ _ _ _ r0 r1).mono ?_
            rintro e w' ⟨rfl, rfl⟩

            go_wp2_with fail
            refine C.out.mono ?_
            clear C
            rintro e w6 ⟨rfl, rfl⟩
            have HB6 := HB
            have H6 := HT
            clear hcx

            have E := Lib.hid (err_same 7 wr (HD.out.later HB6.out))
            have e0 : errOr 7 = errV 7 := rfl
            rw [e0] at E
            clear e0
            go_wp2_with fail
            refine E.out.mono ?_
            clear E
            rintro e w7 ⟨rfl, hB⟩
            have HB7 : Hid (Below w.heap.size w w7) := HB6.out.trans (hB.mono HB6.out.size)
            have H7 : Hid (Gat w7 b st sl (nx) (la)) := (hB.block b H6.out.lt).trans H6.out
            clear hB H6
            go_wp2_with fail
            refine (gnext_any b st sl (nx) (la) w7 H7.out).mono ?_
            rintro e w' ⟨rfl, rfl⟩
            go_wp2_with fail
            go_roundw
            case rel => exact ⟨k + 1, nx, la, by omega, by omega, by go_num, by go_num, by go_num, ⟨s0, s1, l0, l1, by omega, by omega, by omega, by omega⟩, H7.out, HB7.out⟩
            case measure => simp [intOf]; omega
        · have HR := Lib.hid (show t < 0 ∨ 1000 < t by omega)
          clear hr
          have C := Lib.hid (gcome_no b t wr HR.out)
          go_wp2_with fail
          refine (in_out _ _ _ _ HR.out).mono ?_
          rintro e w' ⟨rfl, rfl⟩

          go_wp2_with fail
          refine C.out.mono ?_
          clear C
          rintro e w6 ⟨rfl, rfl⟩
          have HB6 := HB
          have H6 := HT
          clear hcx

          have E := Lib.hid (err_same 1 wr (HD.out.later HB6.out))
          have e0 : errOr 1 = errV 1 := rfl
          rw [e0] at E
          clear e0
          go_wp2_with fail
          refine E.out.mono ?_
          clear E
          rintro e w7 ⟨rfl, hB⟩
          have HB7 : Hid (Below w.heap.size w w7) := HB6.out.trans (hB.mono HB6.out.size)
          have H7 : Hid (Gat w7 b st sl (nx) (la)) := (hB.block b H6.out.lt).trans H6.out
          clear hB H6
          go_wp2_with fail
          refine (gnext_any b st sl (nx) (la) w7 H7.out).mono ?_
          rintro e w' ⟨rfl, rfl⟩
          go_wp2_with fail
          go_roundw
          case rel => exact ⟨k + 1, nx, la, by omega, by omega, by go_num, by go_num, by go_num, ⟨s0, s1, l0, l1, by omega, by omega, by omega, by omega⟩, H7.out, HB7.out⟩
          case measure => simp [intOf]; omega
      · go_wp2_with fail
        all_goals
          go_ret
          exact ⟨rfl, HB.out⟩
  · have HV := Lib.hid (show (st < 1 ∨ 20 < st) ∨ (sl < 0 ∨ 100 < sl) by omega)
    have E := Lib.hid (err_same 1 w4 (HD.out.later B4.out))
    have e0 : errOr 1 = errV 1 := rfl
    rw [e0] at E
    clear e0
    by_cases hs : 1 ≤ st ∧ st ≤ 20
    · obtain ⟨s0, s1⟩ := hs
      have HV2 := Lib.hid (show sl < 0 ∨ 100 < sl by omega)
      clear hv
      go_wp2_with fail
      refine (gnew_no _ _ _ HV.out).mono ?_
      rintro e w' ⟨rfl, rfl⟩
      go_wp2_with fail
      refine (in_in _ _ _ _ s0 s1).mono ?_
      rintro e w' ⟨rfl, rfl⟩
      go_wp2_with fail
      refine (in_out _ _ _ _ HV2.out).mono ?_
      rintro e w' ⟨rfl, rfl⟩
      go_wp2_with fail
      refine E.out.mono ?_
      rintro e w7 ⟨rfl, hB⟩
      have HB7 : Hid (Below w.heap.size w w7) := B4.out.trans (hB.mono B4.out.size)
      clear hB
      go_wp2
      go_ret
      exact ⟨rfl, HB7.out⟩
    · have HV2 := Lib.hid (show st < 1 ∨ 20 < st by omega)
      clear hv hs
      go_wp2_with fail
      refine (gnew_no _ _ _ HV.out).mono ?_
      rintro e w' ⟨rfl, rfl⟩
      go_wp2_with fail
      refine (in_out _ _ _ _ HV2.out).mono ?_
      rintro e w' ⟨rfl, rfl⟩
      go_wp2_with fail
      refine E.out.mono ?_
      rintro e w7 ⟨rfl, hB⟩
      have HB7 : Hid (Below w.heap.size w w7) := B4.out.trans (hB.mono B4.out.size)
      clear hB
      go_wp2
      go_ret
      exact ⟨rfl, HB7.out⟩
end Go.Proofs.YtikclgfldfpbdaaDoor.gcraPlays
