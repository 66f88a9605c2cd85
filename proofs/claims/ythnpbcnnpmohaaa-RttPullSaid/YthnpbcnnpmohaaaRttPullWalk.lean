/- RttPull returns true for every input: the walk. -/
import Derived.Test.YthnpbcnnpmohaaaRttF
namespace Go.Proofs.Ythnpbcnnpmohaaa.rttPull
open Go.RowKit
set_option linter.unusedSimpArgs false
set_option linter.unusedVariables false


set_option maxHeartbeats 4000000 in
set_option maxRecDepth 100000 in
theorem walk (a : Option Addr) (len cap : Nat) (zs : List Int) (nx : Int) (w : World) (hI : Ints w w.heap.size a len zs) (hnx : -9223372036854775808 ≤ nx ∧ nx ≤ 9223372036854775807) :
    Calls Try.prog 4 #[.slice a len cap, .int .i64 nx] w fun e w' => e = .returned (.bool true) ∧ Below w.heap.size w w' := by
  have hroom := hI.room
  have HI := Lib.hid hI; clear hI
  go_enter Try.func4, Try.ntmps4
  go_wp2_with fail
  refine (fact_any _).mono ?_
  rintro e w1 ⟨rfl, hb1⟩
  have B1 := Lib.hid hb1; clear hb1
  go_wp2_with fail
  refine (new_yes _ _ (by omega) (by omega)).mono ?_
  rintro e w2 ⟨rfl, ho, hg⟩
  have H2 := Lib.hid ho; clear ho
  have B2 : Hid (Below w.heap.size w w2) := B1.out.trans ((below_new hg).mono B1.out.size)
  clear hg
  have hsz := B1.out.size
  generalize hb : w1.heap.size = b at *
  clear hb B1
  go_wp2_with fail
  go_loopw [8] (fun v6 wr => ∃ (k : Nat) (s p t : Int), k ≤ len ∧ k ≤ 60 ∧ v6 = .int .i64 k ∧ TimOk s p t ∧ Tim wr b s p t ∧ Below w.heap.size w wr)
    (fun v6 _ => len - (intOf v6).toNat)
  case atStart => exact ⟨0, -1, 0, 1, Nat.zero_le _, Nat.zero_le _, rfl, tim_new, H2.out, B2.out⟩
  case round =>
    clear H2 B2
    obtain ⟨k, s, p, t, hk, hk60, rfl, hok, hT, hB⟩ := hrel
    have HB := Lib.hid hB; clear hB
    have HT := Lib.hid hT; clear hT
    have HO := Lib.hid hok; clear hok
    by_cases hlt : k < len ∧ k < 60
    · obtain ⟨hl1, hl2⟩ := hlt
      obtain ⟨ab, off, rfl, hab, hcell⟩ := HI.out.cell k hl1
      have hcx := (HB.out.cell (p := ⟨ab, off + k, none⟩) hab).trans hcell
      clear hcell
      have hfit := HI.out.fits k
      generalize zs.getD k 0 = n at *
      by_cases hv : 0 ≤ n ∧ n ≤ 100000
      · obtain ⟨hv1, hv2⟩ := hv
        go_wp2_with fail
        refine (take_yes b s p t n _ HT.out HO.out hv1 hv2).mono ?_
        rintro e w3 ⟨rfl, ho, hg⟩
        have HT' := Lib.hid ho; clear ho
        have HB' : Hid (Below w.heap.size w w3) := HB.out.trans (below_grown hg hsz HT.out.lt)
        clear hg HT
        have HO' := Lib.hid (tim_step HO.out hv1 hv2)
        generalize rS s n = s' at *
        generalize rP s p n = p' at *
        generalize rT s p n = t' at *
        go_wp2
        go_roundw
        case rel => exact ⟨k + 1, s', p', t', by omega, by omega, by go_num, HO'.out, HT'.out, HB'.out⟩
        case measure => simp [intOf]; omega
      · have HV := Lib.hid (show n < 0 ∨ 100000 < n by omega)
        clear hv
        go_wp2_with fail
        refine (take_no b s p t n _ HV.out).mono ?_
        rintro e w' ⟨rfl, rfl⟩
        go_wp2
        go_roundw
        case rel => exact ⟨k + 1, s, p, t, by omega, by omega, by go_num, HO.out, HT.out, HB.out⟩
        case measure => simp [intOf]; omega
    · have hex : len ≤ k ∨ (k < len ∧ 60 ≤ k) := by omega
      clear hlt
      have hk2 := HO.out
      unfold TimOk at hk2
      have HK := Lib.hid hk2; clear hk2
      by_cases hv : 0 ≤ nx ∧ nx ≤ 100000
      · obtain ⟨hv1, hv2⟩ := hv
        have C : Hid (∀ w', Tim w' b s p t → Calls Try.prog 14 #[.pointer (some ⟨b, 0, none⟩), .int .i64 nx] w' fun e w'' => e = .returned .nilIface ∧ Tim w'' b (rS s nx) (rP s p nx) (rT s p nx) ∧ w'.grownBy w'' (some b)) :=
          fun w' ho => take_yes b s p t nx w' ho HO.out hv1 hv2
        have hs : (s < 0 ∧ rS s nx = nx) ∨ (0 ≤ s ∧ s ≤ 100000 ∧ rS s nx = (7 * s + nx) / 8) := by
          rcases HK.out with ⟨h | h, _⟩
          · left; unfold rS; rw [if_pos (by omega)]; omega
          · right; unfold rS; rw [if_neg (by omega)]; omega
        generalize rS s nx = s' at *
        generalize rP s p nx = p' at *
        generalize rT s p nx = t' at *
        rcases hs with ⟨hs, rfl⟩ | ⟨hs, hs2, he⟩
        · rcases hex with hex | ⟨hex, hex2⟩
          all_goals
            go_wp2_with fail
            refine (guess_any _ _ _ _ _ HT.out).mono ?_
            rintro e w4 ⟨rfl, nd, rfl⟩
            go_wp2_with fail
            refine (C.out _ (Tim.drewN HT.out _)).mono ?_
            rintro e w5 ⟨rfl, ho, hg⟩
            have HT' := Lib.hid ho; clear ho
            have HB' : Hid (Below w.heap.size w w5) := (below_drewN HB.out nd).trans (below_grown hg hsz HT.out.lt)
            clear hg
            go_wp2_with fail
            refine (guess_any _ _ _ _ _ HT'.out).mono ?_
            rintro e w6 ⟨rfl, nd2, rfl⟩
            go_wp2
            go_ret
            exact ⟨by simp, below_drewN HB'.out _⟩
        · have hq : (s ≤ nx ∧ s ≤ s' ∧ s' ≤ nx ∧ 8 * (s' - s) ≤ nx - s ∧ nx - s - 8 < 8 * (s' - s)) ∨ (nx < s ∧ s' ≤ s ∧ nx ≤ s' ∧ s - nx ≤ 8 * (s - s') ∧ 8 * (s - s') < s - nx + 8) := by omega
          have hs'0 : 0 ≤ s' ∧ s' ≤ 100000 := by omega
          clear he
          rcases hex with hex | ⟨hex, hex2⟩
          all_goals
            rcases hq with ⟨q1, q2, q3, q4, q5⟩ | ⟨q1, q2, q3, q4, q5⟩
            all_goals
              go_wp2_with fail
              refine (guess_any _ _ _ _ _ HT.out).mono ?_
              rintro e w4 ⟨rfl, nd, rfl⟩
              go_wp2_with fail
              refine (C.out _ (Tim.drewN HT.out _)).mono ?_
              rintro e w5 ⟨rfl, ho, hg⟩
              have HT' := Lib.hid ho; clear ho
              have HB' : Hid (Below w.heap.size w w5) := (below_drewN HB.out nd).trans (below_grown hg hsz HT.out.lt)
              clear hg
              go_wp2_with fail
              refine (guess_any _ _ _ _ _ HT'.out).mono ?_
              rintro e w6 ⟨rfl, nd2, rfl⟩
              go_wp2
              go_ret
              exact ⟨by simp, below_drewN HB'.out _⟩
      · have HV := Lib.hid (show nx < 0 ∨ 100000 < nx by omega)
        clear hv
        rcases hex with hex | ⟨hex, hex2⟩
        all_goals
          go_wp2_with fail
          refine (guess_any _ _ _ _ _ HT.out).mono ?_
          rintro e w4 ⟨rfl, nd, rfl⟩
          go_wp2_with fail
          refine (take_no b s p t nx _ HV.out).mono ?_
          rintro e w' ⟨rfl, rfl⟩
          go_wp2_with fail
          refine (guess_any _ _ _ _ _ (Tim.drewN HT.out _)).mono ?_
          rintro e w6 ⟨rfl, nd2, rfl⟩
          go_wp2_with fail
          refine (in_out _ _ _ _ HV.out).mono ?_
          rintro e w' ⟨rfl, rfl⟩
          go_wp2
          go_ret
          exact ⟨by simp, below_drewN HB.out _⟩
end Go.Proofs.Ythnpbcnnpmohaaa.rttPull
