/- RttSteady returns true for every input: the walk. -/
import Derived.Test.YthnpbcnnpmohaaaRttF
namespace Go.Proofs.Ythnpbcnnpmohaaa.rttSteady
open Go.RowKit
set_option linter.unusedSimpArgs false
set_option linter.unusedVariables false


theorem least_any (x y : Int) (w : World) : Calls Try.prog 18 #[.int .i64 x, .int .i64 y] w fun e w' => e = .returned (.int .i64 (min x y)) ∧ w = w' := by
  by_cases h : x < y
  all_goals
    go_enter Try.func18, Try.ntmps18
    go_wp2
    go_ret
    exact ⟨ret_int (by omega), rfl⟩

/-- A bound on the spread behind k rounds. -/
def bnd : Nat → Int
  | 0 => 50000
  | k + 1 => 3 * bnd k / 4
theorem bnd_pos (k : Nat) : 0 ≤ bnd k := by
  induction k with
  | zero => decide
  | succ k ih => unfold bnd; omega
theorem bnd_dec (k : Nat) : bnd (k + 1) ≤ bnd k := by
  have := bnd_pos k
  show 3 * bnd k / 4 ≤ bnd k
  omega
theorem bnd_zero (k : Nat) : bnd (40 + k) = 0 := by
  induction k with
  | zero => decide +kernel
  | succ k ih => show 3 * bnd (40 + k) / 4 = 0; omega

/-- What holds at a round's head. -/
def Std (k : Nat) (tk s p t last : Int) : Prop :=
  (k = 0 ∧ s = -1 ∧ p = 0 ∧ t = 1 ∧ last = tk) ∨ (1 ≤ k ∧ s = tk ∧ last = p ∧ 0 ≤ p ∧ p ≤ bnd (k - 1) ∧ p ≤ 50000 ∧ t = min (tk + max 1 (4 * p)) 100000)
theorem Std.ok {k : Nat} {tk s p t last : Int} (h : Std k tk s p t last) (h1 : 0 ≤ tk) (h2 : tk ≤ 100000) : TimOk s p t := by
  unfold Std at h; unfold TimOk
  rcases h with h | h <;> omega
theorem std_step {k : Nat} {tk s p t last : Int} (h : Std k tk s p t last) (h1 : 0 ≤ tk) (h2 : tk ≤ 100000) :
    rS s tk = tk ∧ Std (k + 1) tk tk (rP s p tk) (rT s p tk) (rP s p tk) ∧ rP s p tk ≤ last ∧ (k = 0 ∨ rP s p tk < last ∨ last = 0) ∧ 0 ≤ last := by
  unfold Std at h ⊢
  rcases h with ⟨rfl, rfl, rfl, rfl, rfl⟩ | ⟨hk, rfl, rfl, hp, hpb, hp2, rfl⟩
  · have e : rP (-1) 0 last = last / 2 := rfl
    have e2 : rT (-1) 0 last = min (last + max 1 (4 * (last / 2))) 100000 := rfl
    have e3 : rS (-1) last = last := rfl
    have e4 : bnd (0 + 1 - 1) = 50000 := rfl
    rw [e, e2, e3, e4]
    refine ⟨rfl, .inr ⟨by omega, rfl, rfl, by omega, by omega, by omega, rfl⟩, by omega, .inl rfl, by omega⟩
  · have e : rP s last s = 3 * last / 4 := by
      unfold rP; rw [if_neg (by omega), show max (s - s) (s - s) = 0 from by omega, show 3 * last + 0 = 3 * last from by omega]
    have e3 : rS s s = s := by unfold rS; rw [if_neg (by omega)]; omega
    have e2 : rT s last s = min (s + max 1 (4 * (3 * last / 4))) 100000 := by unfold rT; rw [e, e3]
    have e4 : bnd (k + 1 - 1) = 3 * bnd (k - 1) / 4 := by
      obtain ⟨j, rfl⟩ : ∃ j, k = j + 1 := ⟨k - 1, by omega⟩
      rfl
    rw [e, e2, e3, e4]
    refine ⟨rfl, .inr ⟨by omega, rfl, rfl, by omega, by omega, by omega, rfl⟩, by omega, by omega, by omega⟩
theorem std_end {k : Nat} {tk s p t last : Int} (h : Std k tk s p t last) (hk : 60 ≤ k) : last = 0 ∧ t = min (tk + 1) 100000 := by
  unfold Std at h
  rcases h with h | ⟨_, rfl, rfl, h1, h2, h3, rfl⟩
  · omega
  · have := bnd_zero (k - 1 - 40)
    rw [show 40 + (k - 1 - 40) = k - 1 from by omega] at this
    have hl : last = 0 := by omega
    subst hl
    exact ⟨rfl, by omega⟩

set_option maxHeartbeats 4000000 in
set_option maxRecDepth 100000 in
theorem walk (tk many : Int) (w : World) (htk : -9223372036854775808 ≤ tk ∧ tk ≤ 9223372036854775807) (hmany : -9223372036854775808 ≤ many ∧ many ≤ 9223372036854775807) :
    Calls Try.prog 5 #[.int .i64 tk, .int .i64 many] w fun e w' => e = .returned (.bool true) ∧ Below w.heap.size w w' := by
  by_cases hv : 0 ≤ tk ∧ tk ≤ 100000
  · obtain ⟨hv1, hv2⟩ := hv
    by_cases hm : 1 ≤ many ∧ many ≤ 90
    · obtain ⟨hm1, hm2⟩ := hm
      go_enter Try.func5, Try.ntmps5
      go_wp2_with fail
      refine (fact_any _).mono ?_
      rintro e w1 ⟨rfl, hb1⟩
      have B1 := Lib.hid hb1; clear hb1
      go_wp2_with fail
      refine (in_in _ _ _ _ hv1 hv2).mono ?_
      rintro e w' ⟨rfl, rfl⟩
      go_wp2_with fail
      refine (in_in _ _ _ _ hm1 hm2).mono ?_
      rintro e w' ⟨rfl, rfl⟩
      go_wp2_with fail
      refine (new_yes _ _ (by omega) (by omega)).mono ?_
      rintro e w2 ⟨rfl, ho, hg⟩
      have H2 := Lib.hid ho; clear ho
      have B2 : Hid (Below w.heap.size w w2) := B1.out.trans ((below_new hg).mono B1.out.size)
      clear hg
      have hsz := B1.out.size
      generalize hb : w1.heap.size = b at *
      clear hb B1
      go_wp2_with fail
      go_loopw [8, 9] (fun v8 v9 wr => ∃ (k : Nat) (s p t last : Int), (k : Int) ≤ many ∧ v9 = .int .i64 k ∧ v8 = .int .i64 last ∧ Std k tk s p t last ∧ Tim wr b s p t ∧ Below w.heap.size w wr)
        (fun _ v9 _ => (many - intOf v9).toNat)
      case atStart => exact ⟨0, -1, 0, 1, tk, by omega, rfl, rfl, .inl ⟨rfl, rfl, rfl, rfl, rfl⟩, H2.out, B2.out⟩
      case round =>
        clear H2 B2
        obtain ⟨k, s, p, t, last, hk, rfl, rfl, hst, hT, hB⟩ := hrel
        have HB := Lib.hid hB; clear hB
        have HT := Lib.hid hT; clear hT
        have HS := Lib.hid hst; clear hst
        by_cases hlt : (k : Int) < many
        · have hstep := std_step HS.out hv1 hv2
          have C : Hid (∀ w', Tim w' b s p t → Calls Try.prog 14 #[.pointer (some ⟨b, 0, none⟩), .int .i64 tk] w' fun e w'' => e = .returned .nilIface ∧ Tim w'' b (rS s tk) (rP s p tk) (rT s p tk) ∧ w'.grownBy w'' (some b)) :=
            fun w' ho => take_yes b s p t tk w' ho (HS.out.ok hv1 hv2) hv1 hv2
          rw [hstep.1] at C
          obtain ⟨_, hst', hp', hor, hl0⟩ := hstep
          have HS' := Lib.hid hst'; clear hst'
          generalize rP s p tk = p' at *
          generalize rT s p tk = t' at *
          clear HS
          have hor' : (k = 0) ∨ (1 ≤ k ∧ p' < last) ∨ (1 ≤ k ∧ last = 0 ∧ last ≤ p') ∨ (1 ≤ k ∧ last = 0 ∧ p' < last) := by omega
          clear hor
          rcases hor' with h | ⟨h, h2⟩ | ⟨h, h2, h3⟩ | ⟨h, h2, h3⟩
          · subst h
            go_wp2_with fail
            refine (C.out _ HT.out).mono ?_
            rintro e w3 ⟨rfl, ho, hg⟩
            have HT' := Lib.hid ho; clear ho
            have HB' : Hid (Below w.heap.size w w3) := HB.out.trans (below_grown hg hsz HT.out.lt)
            clear hg
            go_wp2_with fail
            refine (guess_any _ _ _ _ _ HT'.out).mono ?_
            rintro e w4 ⟨rfl, nd, rfl⟩
            go_wp2
            go_roundw
            case rel => exact ⟨0 + 1, _, p', t', p', by omega, by go_num, rfl, HS'.out, HT'.out, below_drewN HB'.out _⟩
            case measure => simp [intOf]; omega
          · go_wp2_with fail
            refine (C.out _ HT.out).mono ?_
            rintro e w3 ⟨rfl, ho, hg⟩
            have HT' := Lib.hid ho; clear ho
            have HB' : Hid (Below w.heap.size w w3) := HB.out.trans (below_grown hg hsz HT.out.lt)
            clear hg
            go_wp2_with fail
            refine (guess_any _ _ _ _ _ HT'.out).mono ?_
            rintro e w4 ⟨rfl, nd, rfl⟩
            go_wp2
            go_roundw
            case rel => exact ⟨k + 1, _, p', t', p', by omega, by go_num, rfl, HS'.out, HT'.out, below_drewN HB'.out _⟩
            case measure => simp [intOf]; omega
          · subst h2
            go_wp2_with fail
            refine (C.out _ HT.out).mono ?_
            rintro e w3 ⟨rfl, ho, hg⟩
            have HT' := Lib.hid ho; clear ho
            have HB' : Hid (Below w.heap.size w w3) := HB.out.trans (below_grown hg hsz HT.out.lt)
            clear hg
            go_wp2_with fail
            refine (guess_any _ _ _ _ _ HT'.out).mono ?_
            rintro e w4 ⟨rfl, nd, rfl⟩
            go_wp2
            go_roundw
            case rel => exact ⟨k + 1, _, p', t', p', by omega, by go_num, rfl, HS'.out, HT'.out, below_drewN HB'.out _⟩
            case measure => simp [intOf]; omega
          · exfalso
            have := HS'.out
            unfold Std at this
            omega
        · by_cases h60 : many < 60
          · go_wp2_with fail
            go_ret
            exact ⟨by simp, HB.out⟩
          · have he := std_end HS.out (show 60 ≤ k by omega)
            obtain ⟨he1, he2⟩ := he
            subst he1
            subst he2
            go_wp2_with fail
            refine (wait_any _ _ _ _ _ HT.out).mono ?_
            rintro e w' ⟨rfl, rfl⟩
            go_wp2_with fail
            refine (least_any _ _ _).mono ?_
            rintro e w' ⟨rfl, rfl⟩
            go_wp2
            go_ret
            exact ⟨by simp, HB.out⟩
    · have HV := Lib.hid (show many < 1 ∨ 90 < many by omega)
      clear hm
      go_enter Try.func5, Try.ntmps5
      go_wp2_with fail
      refine (fact_any _).mono ?_
      rintro e w1 ⟨rfl, hb1⟩
      have B1 := Lib.hid hb1; clear hb1
      go_wp2_with fail
      refine (in_in _ _ _ _ hv1 hv2).mono ?_
      rintro e w' ⟨rfl, rfl⟩
      go_wp2_with fail
      refine (in_out _ _ _ _ HV.out).mono ?_
      rintro e w' ⟨rfl, rfl⟩
      go_wp2
      go_ret
      exact ⟨rfl, B1.out⟩
  · have HV := Lib.hid (show tk < 0 ∨ 100000 < tk by omega)
    clear hv
    go_enter Try.func5, Try.ntmps5
    go_wp2_with fail
    refine (fact_any _).mono ?_
    rintro e w1 ⟨rfl, hb1⟩
    have B1 := Lib.hid hb1; clear hb1
    go_wp2_with fail
    refine (in_out _ _ _ _ HV.out).mono ?_
    rintro e w' ⟨rfl, rfl⟩
    go_wp2
    go_ret
    exact ⟨rfl, B1.out⟩
end Go.Proofs.Ythnpbcnnpmohaaa.rttSteady
