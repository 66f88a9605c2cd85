/- RttBetween returns true for every list of integers: the walk. -/
import Derived.Test.YthnpbcnnpmohaaaRttF
namespace Go.Proofs.Ythnpbcnnpmohaaa.rttBetween
open Go.RowKit
set_option linter.unusedSimpArgs false
set_option linter.unusedVariables false


/-- What holds at every round: nothing was taken; or the guess lies between the least and the most. -/
def Btw (some : Bool) (s p t low high : Int) : Prop :=
  (some = false ∧ s = -1 ∧ p = 0 ∧ t = 1 ∧ low = 100000 ∧ high = 0) ∨
  (some = true ∧ 0 ≤ low ∧ low ≤ s ∧ s ≤ high ∧ high ≤ 100000 ∧ 0 ≤ p ∧ p ≤ high ∧ 1 ≤ t ∧ t ≤ 100000)
theorem Btw.ok {some : Bool} {s p t low high : Int} (h : Btw some s p t low high) : TimOk s p t := by
  unfold Btw at h; unfold TimOk
  rcases h with h | h <;> omega
theorem btw_step {some : Bool} {s p t low high n : Int} (h : Btw some s p t low high) (h1 : 0 ≤ n) (h2 : n ≤ 100000) :
    Btw true (rS s n) (rP s p n) (rT s p n) (min low n) (max high n) ∧ (rS s n < rT s p n ∨ rT s p n = 100000) := by
  unfold Btw at h ⊢
  unfold rT rS rP
  rcases h with ⟨_, rfl, rfl, rfl, rfl, rfl⟩ | ⟨_, h⟩
  · simp only [show (-1 : Int) < 0 from by omega, if_true]; simp only [true_and]; omega
  · simp only [if_neg (show ¬ s < 0 by omega)]
    have hm : 0 ≤ max (s - n) (n - s) ∧ max (s - n) (n - s) ≤ max high n := by omega
    generalize max (s - n) (n - s) = m at *
    simp only [true_and]; omega

set_option maxHeartbeats 4000000 in
set_option maxRecDepth 100000 in
theorem walk (a : Option Addr) (len cap : Nat) (zs : List Int) (w : World) (hI : Ints w w.heap.size a len zs) :
    Calls Try.prog 3 #[.slice a len cap] w fun e w' => e = .returned (.bool true) ∧ Below w.heap.size w w' := by
  have hroom := hI.room
  have HI := Lib.hid hI; clear hI
  go_enter Try.func3, Try.ntmps3
  go_wp2_with fail
  refine (fact_any _).mono ?_
  rintro e w1 ⟨rfl, hb1⟩
  have B1 := Lib.hid hb1; clear hb1
  go_wp2_with fail
  refine (new_yes _ _ (by omega) (by omega)).mono ?_
  rintro e w2 ⟨rfl, ho, hg⟩
  have H2 := Lib.hid ho; clear ho
  have B2 : Hid (Below w.heap.size w w2) := B1.out.trans ((below_new hg).mono B1.out.size)
  clear hg
  have hsz := B1.out.size
  generalize hb : w1.heap.size = b at *
  clear hb B1
  go_wp2_with fail
  go_loopw [6, 7, 8, 9] (fun v6 v7 v8 v9 wr => ∃ (k : Nat) (low high s p t : Int) (sm : Bool), k ≤ len ∧ k ≤ 60 ∧ v9 = .int .i64 k ∧ v6 = .int .i64 low ∧ v7 = .int .i64 high ∧ v8 = .bool sm ∧ Btw sm s p t low high ∧ Tim wr b s p t ∧ Below w.heap.size w wr)
    (fun _ _ _ v9 _ => len - (intOf v9).toNat)
  case atStart => exact ⟨0, 100000, 0, -1, 0, 1, false, Nat.zero_le _, Nat.zero_le _, rfl, rfl, rfl, rfl, .inl ⟨rfl, rfl, rfl, rfl, rfl, rfl⟩, H2.out, B2.out⟩
  case round =>
    clear H2 B2
    obtain ⟨k, low, high, s, p, t, sm, hk, hk60, rfl, rfl, rfl, rfl, hbt, hT, hB⟩ := hrel
    have HB := Lib.hid hB; clear hB
    have HT := Lib.hid hT; clear hT
    have HBt := Lib.hid hbt; clear hbt
    by_cases hlt : k < len ∧ k < 60
    · obtain ⟨hl1, hl2⟩ := hlt
      obtain ⟨ab, off, rfl, hab, hcell⟩ := HI.out.cell k hl1
      have hcx := (HB.out.cell (p := ⟨ab, off + k, none⟩) hab).trans hcell
      have HC := Lib.hid hcell; clear hcell
      have hfit := HI.out.fits k
      generalize zs.getD k 0 = n at *
      by_cases hv : 0 ≤ n ∧ n ≤ 100000
      · obtain ⟨hv1, hv2⟩ := hv
        have hst := btw_step HBt.out hv1 hv2
        have C : Hid (∀ w', Tim w' b s p t → Calls Try.prog 14 #[.pointer (some ⟨b, 0, none⟩), .int .i64 n] w' fun e w'' => e = .returned .nilIface ∧ Tim w'' b (rS s n) (rP s p n) (rT s p n) ∧ w'.grownBy w'' (some b)) :=
          fun w' ho => take_yes b s p t n w' ho HBt.out.ok hv1 hv2
        clear HBt
        generalize rS s n = s' at *
        generalize rP s p n = p' at *
        generalize rT s p n = t' at *
        obtain ⟨hst, hwt⟩ := hst
        have HBt := Lib.hid hst
        unfold Btw at hst
        have q1 : min low n ≤ s' := by rcases hst with h | h <;> omega
        have q2 : s' ≤ max high n := by rcases hst with h | h <;> omega
        have q3 : 0 ≤ p' := by rcases hst with h | h <;> omega
        have q4 : p' ≤ max high n := by rcases hst with h | h <;> omega
        clear hst hroom
        have hv3 := hwt
        clear hwt
        go_wp2_with fail
        refine (C.out _ HT.out).mono ?_
        rintro e w3 ⟨rfl, ho, hg⟩
        have HT' := Lib.hid ho; clear ho
        have HB' : Hid (Below w.heap.size w w3) := HB.out.trans (below_grown hg hsz HT.out.lt)
        have hcx3 := (HB'.out.cell (p := ⟨ab, off + k, none⟩) hab).trans HC.out
        clear hg HB HT hcx
        by_cases hw : t' ≤ s'
        all_goals
          go_wp2_with (first | (go_at_call 16; refine (guess_any _ _ _ _ _ HT'.out).mono ?_; rintro e w4 ⟨rfl, hx⟩; obtain ⟨nd, hx2⟩ := hx; subst hx2) | (go_at_call 17; refine (wait_any _ _ _ _ _ (Tim.drewN HT'.out _)).mono ?_; rintro e w4 ⟨rfl, rfl⟩))
        all_goals
          go_roundw
          case rel => exact ⟨k + 1, min low n, max high n, s', p', t', true, by omega, by omega, by go_num, by go_num, by go_num, rfl, HBt.out, HT'.out, below_drewN HB'.out _⟩
          case measure => simp [intOf]; omega
      · have hv' : n < 0 ∨ 100000 < n := by omega
        clear hv
        have HV := Lib.hid hv'; clear hv'
        go_wp2_with fail
        refine (take_no b s p t n _ HV.out).mono ?_
        rintro e w' ⟨rfl, rfl⟩
        go_wp2_with fail
        refine (in_out _ _ _ _ HV.out).mono ?_
        rintro e w' ⟨rfl, rfl⟩
        go_wp2
        go_roundw
        case rel => exact ⟨k + 1, low, high, s, p, t, sm, by omega, by omega, by go_num, rfl, rfl, rfl, HBt.out, HT.out, HB.out⟩
        case measure => simp [intOf]; omega
    · have hex : len ≤ k ∨ (k < len ∧ 60 ≤ k) := by omega
      clear hlt
      have HBt2 := HBt.out
      unfold Btw at HBt2
      rcases hex with hex | ⟨hex, hex2⟩
      all_goals
        rcases HBt2 with ⟨rfl, rfl, rfl, rfl, rfl, rfl⟩ | ⟨rfl, hr⟩
        all_goals
          go_wp2_with (first | (go_at_call 16; refine (guess_any _ _ _ _ _ HT.out).mono ?_; rintro e w4 ⟨rfl, hx⟩; obtain ⟨nd, hx2⟩ := hx; subst hx2) | (go_at_call 17; refine (wait_any _ _ _ _ _ (Tim.drewN HT.out _)).mono ?_; rintro e w4 ⟨rfl, rfl⟩))
          go_ret
          exact ⟨by simp, below_drewN HB.out _⟩
end Go.Proofs.Ythnpbcnnpmohaaa.rttBetween
