/- TopThree returns true for every input: the walk. -/
import Derived.Test.YtnkcjkemhdigpaaSrepRun
import Derived.Test.YtnkcjkemhdigpaaGbnF
import Derived.Test.YtnkcjkemhdigpaaTopIn
namespace Go.Proofs.Ytnkcjkemhdigpaa.topThree
open Go.RowKit
set_option linter.unusedSimpArgs false
set_option linter.unusedVariables false

theorem abp_fine {zs : List Int} (fs : List (Bool × Bool)) : ∀ p : List Int × Nat, (fs.foldl (abpStep zs) p).2 ≤ p.2 + Sr.fine fs := by
  induction fs with
  | nil => intro p; simp [Sr.fine]
  | cons f fs ih =>
    intro p
    have h := ih (abpStep zs p f)
    have h2 : (abpStep zs p f).2 ≤ p.2 + (if f.1 = false ∧ f.2 = false then 1 else 0) := by
      obtain ⟨t, bk⟩ := f
      unfold abpStep
      cases t <;> cases bk <;> simp <;> split <;> simp
    simp only [List.foldl_cons, Sr.fine]
    omega

set_option maxHeartbeats 16000000 in
set_option maxRecDepth 100000 in
theorem walk (a : Option Addr) (len cap : Nat) (zs : List Int) (win : Int) (af : Option Addr) (lf cf : Nat) (fs : List (Bool × Bool)) (w : World) (hI : Ints w w.heap.size a len zs) (hcap : len ≤ cap) (hw : -9223372036854775808 ≤ win ∧ win ≤ 9223372036854775807) (hF : Pairs w w.heap.size af lf fs) :
    Calls Try.prog 10 #[.slice a len cap, .int .i64 win, .slice af lf cf] w fun e w' => e = .returned (.bool true) ∧ Below w.heap.size w w' := by
  have hroom := hI.room
  have hlz := Lib.hid hI.size
  have HI := Lib.hid hI; clear hI
  have HF := Lib.hid hF; clear hF
  have s1 : ∀ k, -9223372036854775808 ≤ ([4] : List Int).getD k 0 ∧ ([4] : List Int).getD k 0 ≤ 9223372036854775807 := fun k => by rcases k with _ | k <;> simp
  have S1 := Lib.hid s1; clear s1
  have hs0 : Hid (sentE [4] 1 = 0) := sent_ok (by decide) (by decide) (fun k hk => by rcases k with _ | k <;> simp at *)
  go_enter Try.func10, Try.ntmps10
  go_wp2_with fail
  have J1 := Lib.hid (ints_lit (zs := [4]) (Obj.alloc (Obj.new w [.int .i64 4] 3) (.cells (flat [(false, false)]).toArray 32 (0, 0))) (by decide) S1.out)
  have F0 := Lib.hid (pairs_lit (fs := [(false, false)]) (by have := Obj.new (w.alloc (.cells #[.int .i64 4] 3 (0, 0))) (flat [(false, false)]) 32; simpa using this) (by decide))
  refine (arun_yes _ 1 1 _ 1 1 [4] [(false, false)] _ J1.out F0.out hs0.out).mono ?_
  clear J1 F0
  rintro e w1 ⟨ga, gc, he, hgi, hB⟩
  have e1 : abpRun [4] [(false, false)] = ([4], 1) := by rfl
  rw [e1] at he hgi
  clear e1
  subst he
  have B1 : Hid (Below w.heap.size w w1) := (((Below.refl _ _).alloc (Nat.le_refl _) _).alloc (by simp) _).trans (hB.mono (by simp; omega))
  clear hB hgi
  have I1 := Lib.hid (HI.out.later B1.out)
  have F1 := Lib.hid ((HF.out.below B1.out).mono B1.out.size)
  by_cases hv : 1 ≤ win ∧ win ≤ 8
  · obtain ⟨v1, v2⟩ := hv
    obtain ⟨W, rfl⟩ := Int.eq_ofNat_of_zero_le (show 0 ≤ win by omega)
    have hW1 : 1 ≤ W := by omega
    have hW2 : W ≤ 8 := by omega
    go_wp2_with fail
    refine (tin_in _ _ _ _ v1 v2).mono ?_
    rintro e w' ⟨rfl, rfl⟩
    clear hw
    by_cases he : sentE zs lf = 0
    · have hl : len ≤ 20 ∧ lf ≤ 200 := by
        have := hlz.out
        rcases sent_cases zs lf with ⟨h, e⟩ | ⟨h1, h2, _, e⟩ | ⟨h1, h2, _, e⟩ <;> omega
      obtain ⟨hl20, hl200⟩ := hl
      have a1 : aheadE zs lf (W : Int) ((W + 1 : Nat) : Int) = 0 := ahead_mk he (by omega) (by omega) (by omega) (by omega)
      have a2 : aheadE zs lf (W : Int) ((2 * W : Nat) : Int) = 0 := ahead_mk he (by omega) (by omega) (by omega) (by omega)
      have C1 := Lib.hid (fun w' h1 h2 => arun_yes a len cap af lf cf zs fs w' h1 h2 he)
      have C2 := Lib.hid (fun w' h1 h2 => grun_yes a len cap W (W + 1) af lf cf zs fs w' h1 h2 a1 (by omega) (by omega) (by omega) (by omega) hl20 hl200)
      have C3 := Lib.hid (fun w' h1 h2 => srun_yes a len cap W (2 * W) af lf cf zs fs w' h1 h2 a2 (by omega) (by omega) (by omega) (by omega) hl20 hl200)
      rw [show (((W + 1 : Nat)) : Int) = (W : Int) + 1 from by omega] at C2
      rw [show (((2 * W : Nat)) : Int) = 2 * (W : Int) from by omega] at C3
      obtain ⟨x1, x2, x3⟩ := abp_inv zs fs
      have y := gbx_inv zs (show 1 ≤ W by omega) (show W < W + 1 by omega) fs
      obtain ⟨z1, z2, z3⟩ := Sr.exact_law zs hW1 (Nat.le_refl (2 * W)) fs
      have zz : len ≤ (abpRun zs fs).2 → (Sr.run zs W (2 * W) fs).got = zs := fun h => by
        have h1 := abp_fine (zs := zs) fs ([], 0)
        have h2 := (Sr.ends_law zs hW1 (Nat.le_refl (2 * W)) fs).2
        refine (h2 ?_).2
        rw [hlz.out]
        have h3 : (abpRun zs fs).2 ≤ 0 + Sr.fine fs := h1
        omega
      have hkx := abp_known_le (abp_inv zs fs)
      have ZZ := Lib.hid zz; clear zz
      clear he a1 a2
      generalize abpRun zs fs = p at *
      generalize gbnRun zs W (W + 1) fs = gs at *
      generalize Sr.run zs W (2 * W) fs = ss at *
      have y1 := y.beg
      have y2 := y.gl
      have y4 := y.kg
      clear y
      rw [hlz.out] at x2 y2 z2 hkx
      have x4 : p.2 ≤ p.1.length := by omega
      have X1 := Lib.hid x1
      have Y1 := Lib.hid y1
      have Z1 := Lib.hid z1
      clear x3 x1 y1 z1
      go_wp2_with fail
      refine (C1.out _ I1.out F1.out).mono ?_
      clear C1
      rintro e w2 ⟨ga1, gc1, rfl, hgi, hB⟩
      have G1 := Lib.hid hgi; clear hgi
      have B2 : Hid (Below w.heap.size w w2) := B1.out.trans (hB.mono B1.out.size)
      have I2 := Lib.hid (I1.out.later hB)
      have F2 := Lib.hid ((F1.out.below hB).mono hB.size)
      clear hB
      go_wp2_with fail
      refine (C2.out _ I2.out F2.out).mono ?_
      clear C2
      rintro e w3 ⟨ga2, gc2, rfl, hgi, hB⟩
      have G2 := Lib.hid hgi; clear hgi
      have B3 : Hid (Below w.heap.size w w3) := B2.out.trans (hB.mono B2.out.size)
      have I3 := Lib.hid (I2.out.later hB)
      have F3 := Lib.hid ((F2.out.below hB).mono hB.size)
      have G1 := Lib.hid (G1.out.later hB)
      clear hB
      go_wp2_with fail
      refine (C3.out _ I3.out F3.out).mono ?_
      clear C3
      rintro e w4 ⟨ga3, gc3, rfl, hgi, hB⟩
      have G3 := Lib.hid hgi; clear hgi
      have B4 : Hid (Below w.heap.size w w4) := B3.out.trans (hB.mono B3.out.size)
      have I4 := Lib.hid (I3.out.later hB)
      have G1 := Lib.hid (G1.out.later hB)
      have G2 := Lib.hid (G2.out.later hB)
      clear hB I1 I2 I3 F1 F2 F3 B1 B2 B3
      obtain ⟨n1, hn1⟩ : ∃ n, n = p.1.length := ⟨_, rfl⟩
      obtain ⟨n2, hn2⟩ : ∃ n, n = gs.got.length := ⟨_, rfl⟩
      obtain ⟨n3, hn3⟩ : ∃ n, n = ss.got.length := ⟨_, rfl⟩
      have x1 := X1.out
      have y1 := Y1.out
      have z1 := Z1.out
      clear X1 Y1 Z1
      rw [← hn1] at x1 x2 x4 G1 ⊢
      rw [← hn2] at y1 y2 y4 G2 ⊢
      rw [← hn3] at z1 z2 z3 G3 ⊢
      have G1 : Hid (Ints w4 w4.heap.size ga1 n1 (zs.take n1)) := by have := G1.out; rw [x1] at this; exact this
      have G2 : Hid (Ints w4 w4.heap.size ga2 n2 (zs.take n2)) := by have := G2.out; rw [y1] at this; exact this
      have G3 : Hid (Ints w4 w4.heap.size ga3 n3 (zs.take n3)) := by have := G3.out; rw [z1] at this; exact this
      have HN3 := Lib.hid hn3
      clear x1 y1 z1 hn1 hn2 hn3
      generalize p.2 = p2 at *
      generalize gs.known = g2 at *
      generalize ss.known = q2 at *
      by_cases hk : p2 < len
      · go_wp2_with fail
        refine (same_yes _ _ n1 _ _ (zs.take n1) _ _ _ G1.out (I4.out.take x2)).mono ?_
        rintro e w5 ⟨rfl, m, rfl⟩
        have D1 := Lib.hid (below_drewN (Below.refl w4.heap.size w4) m)
        have B5 := Lib.hid (below_drewN B4.out m)
        have I5 := Lib.hid (I4.out.later D1.out)
        have G2 := Lib.hid (G2.out.later D1.out)
        have G3 := Lib.hid (G3.out.later D1.out)
        clear D1 B4 I4 G1
        generalize w4.drewN m = w5 at *
        go_wp2_with fail
        refine (same_yes _ _ n2 _ _ (zs.take n2) _ _ _ G2.out (I5.out.take y2)).mono ?_
        rintro e w6 ⟨rfl, m, rfl⟩
        have D1 := Lib.hid (below_drewN (Below.refl w5.heap.size w5) m)
        have B6 := Lib.hid (below_drewN B5.out m)
        have I6 := Lib.hid (I5.out.later D1.out)
        have G3 := Lib.hid (G3.out.later D1.out)
        clear D1 B5 I5 G2
        generalize w5.drewN m = w6 at *
        go_wp2_with fail
        refine (same_yes _ _ n3 _ _ (zs.take n3) _ _ _ G3.out (I6.out.take z2)).mono ?_
        rintro e w7 ⟨rfl, m, rfl⟩
        go_wp2
        go_ret
        exact ⟨by first | (simp; done) | (simp; omega), below_drewN B6.out _⟩
      · have hq := ZZ.out (by omega)
        have hn : n3 = len := by have := HN3.out; rw [hq, hlz.out] at this; exact this
        subst hn
        have hk2 : n3 ≤ p2 := by omega
        clear ZZ HN3 hk hq z2
        have hz : Hid (zs.take n3 = zs) := List.take_of_length_le (by rw [hlz.out]; exact Nat.le_refl _)
        have G3 : Hid (Ints w4 w4.heap.size ga3 n3 zs) := by have := G3.out; rw [hz.out] at this; exact this
        go_wp2_with fail
        refine (same_yes _ _ n1 _ _ (zs.take n1) _ _ _ G1.out (I4.out.take x2)).mono ?_
        rintro e w5 ⟨rfl, m, rfl⟩
        have D1 := Lib.hid (below_drewN (Below.refl w4.heap.size w4) m)
        have B5 := Lib.hid (below_drewN B4.out m)
        have I5 := Lib.hid (I4.out.later D1.out)
        have G2 := Lib.hid (G2.out.later D1.out)
        have G3 := Lib.hid (G3.out.later D1.out)
        clear D1 B4 I4 G1
        generalize w4.drewN m = w5 at *
        go_wp2_with fail
        refine (same_yes _ _ n2 _ _ (zs.take n2) _ _ _ G2.out (I5.out.take y2)).mono ?_
        rintro e w6 ⟨rfl, m, rfl⟩
        have D1 := Lib.hid (below_drewN (Below.refl w5.heap.size w5) m)
        have B6 := Lib.hid (below_drewN B5.out m)
        have I6 := Lib.hid (I5.out.later D1.out)
        have G3 := Lib.hid (G3.out.later D1.out)
        clear D1 B5 I5 G2
        generalize w5.drewN m = w6 at *
        go_wp2_with fail
        refine (same_yes _ _ n3 _ _ zs _ _ _ G3.out I6.out).mono ?_
        rintro e w7 ⟨rfl, m, rfl⟩
        have D1 := Lib.hid (below_drewN (Below.refl w6.heap.size w6) m)
        have B7 := Lib.hid (below_drewN B6.out m)
        have I7 := Lib.hid (I6.out.later D1.out)
        have G3 := Lib.hid (G3.out.later D1.out)
        clear D1 B6 I6
        generalize w6.drewN m = w7 at *
        go_wp2_with fail
        refine (same_yes _ _ n3 _ _ zs _ _ _ G3.out I7.out).mono ?_
        rintro e w8 ⟨rfl, m, rfl⟩
        go_wp2
        go_ret
        exact ⟨by first | (simp; done) | (simp; omega), below_drewN B7.out _⟩
    · have h1 : ∀ r : Int, aheadE zs lf (W : Int) r ≠ 0 := fun r => by unfold aheadE; rw [if_pos he]; exact he
      have N1 := Lib.hid (fun w' h => arun_no a len cap af lf cf zs w1.heap.size w' h he)
      have N2 := Lib.hid (fun w' h => grun_no a len cap (W : Int) ((W : Int) + 1) af lf cf zs w1.heap.size w' h (h1 _))
      have N3 := Lib.hid (fun w' h => srun_no a len cap (W : Int) (2 * (W : Int)) af lf cf zs w1.heap.size w' h (h1 _))
      clear h1 he
      generalize sentE zs lf = m1 at *
      generalize aheadE zs lf (W : Int) ((W : Int) + 1) = m2 at *
      generalize aheadE zs lf (W : Int) (2 * (W : Int)) = m3 at *
      go_wp2_with fail
      refine (N1.out _ I1.out).mono ?_
      rintro e w' ⟨rfl, rfl⟩
      go_wp2_with fail
      refine (N2.out _ I1.out).mono ?_
      rintro e w' ⟨rfl, rfl⟩
      go_wp2_with fail
      refine (N3.out _ I1.out).mono ?_
      rintro e w' ⟨rfl, rfl⟩
      go_wp2
      go_ret
      exact ⟨rfl, B1.out⟩
  · have HV := Lib.hid (show win < 1 ∨ 8 < win by omega)
    clear hv
    go_wp2_with fail
    refine (tin_out _ _ _ _ HV.out).mono ?_
    rintro e w' ⟨rfl, rfl⟩
    go_wp2
    go_ret
    exact ⟨rfl, B1.out⟩
end Go.Proofs.Ytnkcjkemhdigpaa.topThree
