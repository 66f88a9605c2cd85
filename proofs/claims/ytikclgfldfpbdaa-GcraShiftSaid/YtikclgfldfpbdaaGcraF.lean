/- The gate's contracts; equal lists of bools; the closed fact. -/
import Derived.Test.YtikclgfldfpbdaaGcra
namespace Go.Proofs.Ytikclgfldfpbdaa
open Go.RowKit
set_option linter.unusedSimpArgs false
set_option linter.unusedVariables false

theorem bsame_yes (a1 a2 : Option Addr) (len c1 c2 : Nat) (bs : List Bool) (B1 B2 : Nat) (w : World) (h1 : Bools w B1 a1 len bs) (h2 : Bools w B2 a2 len bs) :
    Calls Try.prog 15 #[.slice a1 len c1, .slice a2 len c2] w fun e w' => e = .returned (.bool true) ∧ ∃ n, w' = w.drewN n := by
  have hroom := h1.room
  have H1 := Lib.hid h1; clear h1
  have H2 := Lib.hid h2; clear h2
  have hne : ((len : Int) != (len : Int)) = false := by simp
  go_enter Try.func15, Try.ntmps15
  go_wp2_with fail
  go_loopw [5] (fun v wr => ∃ k m : Nat, k ≤ len ∧ v = .int .i64 k ∧ wr = w.drewN m) (fun v _ => len - (intOf v).toNat)
  case atStart => exact ⟨0, 0, by omega, rfl, rfl⟩
  case round =>
    obtain ⟨k, m, hk, rfl, rfl⟩ := hrel
    by_cases hlt : k < len
    · obtain ⟨b, off, rfl, _, hc⟩ := H1.out.cell k hlt
      obtain ⟨b2, off2, rfl, _, hc2⟩ := H2.out.cell k hlt
      have hl0 : (0 : Int) ≤ (k : Int) := by omega
      have hl1 : (k : Int) < (len : Int) := by omega
      generalize bs.getD k false = n at *
      go_wp2_with fail
      go_quiet (fail)
      go_wp2
      go_roundw
      case rel => exact ⟨k + 1, _, by omega, by go_num, rfl⟩
      case measure => simp [intOf]; omega
    · go_wp2
      go_ret
      exact ⟨rfl, _, rfl⟩

theorem gcome_no (b : Nat) (t : Int) (w : World) (h : t < 0 ∨ 1000 < t) : Calls Try.prog 13 #[.pointer (some ⟨b, 0, none⟩), .int .i64 t] w fun e w' => e = .returned (.tuple #[.bool false, errV 1]) ∧ w = w' := by
  go_enter Try.func13, Try.ntmps13
  go_wp2_with fail
  refine (within_out _ _ _ _ h).mono ?_
  rintro e w' ⟨rfl, rfl⟩
  go_wp2
  go_ret2
  exact ⟨rfl, rfl⟩
theorem gcome_state (b : Nat) (st sl nx l t : Int) (w : World) (ho : Gat w b st sl nx l) (h1 : 0 ≤ t) (h2 : t ≤ 1000) (hl : t < l) : Calls Try.prog 13 #[.pointer (some ⟨b, 0, none⟩), .int .i64 t] w fun e w' => e = .returned (.tuple #[.bool false, errV 7]) ∧ w = w' := by
  have c3 := ho.cell 3
  clear ho
  simp only [List.getElem?_cons_zero, List.getElem?_cons_succ] at c3
  go_enter Try.func13, Try.ntmps13
  go_wp2_with fail
  refine (within_in _ _ _ _ h1 h2).mono ?_
  rintro e w' ⟨rfl, rfl⟩
  go_wp2
  go_ret2
  exact ⟨rfl, rfl⟩
set_option maxHeartbeats 2000000 in
theorem gcome_yes (b : Nat) (st sl nx l t : Int) (w : World) (ho : Gat w b st sl nx l) (h1 : 0 ≤ t) (h2 : t ≤ 1000) (hl : l ≤ t) (hs : 1 ≤ st ∧ st ≤ 20) (hsl : 0 ≤ sl ∧ sl ≤ 100) (hn : 0 ≤ nx ∧ nx ≤ 2000) (hok : nx - sl ≤ t) : Calls Try.prog 13 #[.pointer (some ⟨b, 0, none⟩), .int .i64 t] w fun e w' =>
    e = .returned (.tuple #[.bool true, .nilIface]) ∧ Gat w' b st sl (max t nx + st) t ∧ w.grownBy w' (some b) := by
  have c0 := ho.cell 0
  have c1 := ho.cell 1
  have c2 := ho.cell 2
  have c3 := ho.cell 3
  have f2 := ho.free 2
  have f3 := ho.free 3
  have H := Lib.hid ho; clear ho
  simp only [List.getElem?_cons_zero, List.getElem?_cons_succ] at c0 c1 c2 c3
  obtain ⟨s0, s1⟩ := hs
  obtain ⟨l0, l1⟩ := hsl
  obtain ⟨n0, n1⟩ := hn
  by_cases hm : t < nx
  · rw [show max t nx = nx from by omega]
    go_enter Try.func13, Try.ntmps13
    go_wp2_with fail
    refine (within_in _ _ _ _ h1 h2).mono ?_
    rintro e w' ⟨rfl, rfl⟩
    go_wp2_with fail
    go_region
    all_goals go_wp2
    all_goals go_region
    all_goals go_wp2
    all_goals (go_ret2; exact ⟨rfl, Gat.drew (Gat.set2 (Gat.drew (Gat.set3 H.out rfl)) rfl), grown_drew (grown_set (grown_drew (grown_set (grown_refl _ _) _ _)) _ _)⟩)
  · rw [show max t nx = t from by omega]
    go_enter Try.func13, Try.ntmps13
    go_wp2_with fail
    refine (within_in _ _ _ _ h1 h2).mono ?_
    rintro e w' ⟨rfl, rfl⟩
    go_wp2_with fail
    go_region
    all_goals go_wp2
    all_goals go_region
    all_goals go_wp2
    all_goals (go_ret2; exact ⟨rfl, Gat.drew (Gat.set2 (Gat.drew (Gat.set3 H.out rfl)) rfl), grown_drew (grown_set (grown_drew (grown_set (grown_refl _ _) _ _)) _ _)⟩)
set_option maxHeartbeats 2000000 in
theorem gcome_wait (b : Nat) (st sl nx l t : Int) (w : World) (ho : Gat w b st sl nx l) (h1 : 0 ≤ t) (h2 : t ≤ 1000) (hl : l ≤ t) (hsl : 0 ≤ sl ∧ sl ≤ 100) (hn : 0 ≤ nx ∧ nx ≤ 2000) (hok : t < nx - sl) : Calls Try.prog 13 #[.pointer (some ⟨b, 0, none⟩), .int .i64 t] w fun e w' =>
    e = .returned (.tuple #[.bool false, .nilIface]) ∧ Gat w' b st sl nx t ∧ w.grownBy w' (some b) := by
  have c0 := ho.cell 0
  have c1 := ho.cell 1
  have c2 := ho.cell 2
  have c3 := ho.cell 3
  have f3 := ho.free 3
  have H := Lib.hid ho; clear ho
  simp only [List.getElem?_cons_zero, List.getElem?_cons_succ] at c0 c1 c2 c3
  obtain ⟨l0, l1⟩ := hsl
  obtain ⟨n0, n1⟩ := hn
  go_enter Try.func13, Try.ntmps13
  go_wp2_with fail
  refine (within_in _ _ _ _ h1 h2).mono ?_
  rintro e w' ⟨rfl, rfl⟩
  go_wp2_with fail
  go_region
  all_goals go_wp2
  all_goals (go_ret2; exact ⟨rfl, Gat.drew (Gat.set3 H.out rfl), grown_drew (grown_set (grown_refl _ _) _ _)⟩)

theorem gnext_any (b : Nat) (st sl nx l : Int) (w : World) (ho : Gat w b st sl nx l) : Calls Try.prog 21 #[.pointer (some ⟨b, 0, none⟩)] w fun e w' => e = .returned (.int .i64 nx) ∧ w = w' := by
  have c2 := ho.cell 2
  clear ho
  simp only [List.getElem?_cons_zero, List.getElem?_cons_succ] at c2
  go_enter Try.func21, Try.ntmps21
  go_wp2
  go_ret
  exact ⟨rfl, rfl⟩
theorem ilit {w : World} {g : Nat} {zs : List Int} (h : Obj w g 3 (zs.map (Value.int .i64))) (hl : zs.length ≤ 100) (hf : ∀ k, -9223372036854775808 ≤ zs.getD k 0 ∧ zs.getD k 0 ≤ 9223372036854775807) : Ints w w.heap.size (some ⟨g, 0, none⟩) zs.length zs :=
  ⟨rfl, by omega, fun k hk => ⟨g, 0, rfl, h.lt, by rw [Nat.zero_add, h.cell]; simp only [List.getElem?_map, List.getD_eq_getElem?_getD]; rw [List.getElem?_eq_getElem hk]; rfl⟩, hf⟩

theorem gfact_any (w : World) : Calls Try.prog 10 #[] w fun e w' => e = .returned (.bool true) ∧ Below w.heap.size w w' := by
  have S4 := Lib.hid (fun k => show -9223372036854775808 ≤ ([0, 1, 2, 6] : List Int).getD k 0 ∧ ([0, 1, 2, 6] : List Int).getD k 0 ≤ 9223372036854775807 from by rcases k with _ | _ | _ | _ | k <;> simp)
  go_enter Try.func10, Try.ntmps10
  go_wp2_with fail
  refine (leak_any 3 2 _ 4 4 [0, 1, 2, 6] _ (ilit (zs := [0, 1, 2, 6]) (Obj.new w [.int .i64 0, .int .i64 1, .int .i64 2, .int .i64 6] _) (by decide) S4.out)).mono ?_
  rintro e w1 ⟨he, _⟩
  obtain ⟨ga, gc, he, hgi, _, hB⟩ := he (by decide)
  have e1 : (lkRun 3 2 [0, 1, 2, 6]).out = [true, true, false, true] := by decide
  rw [e1] at he hgi
  clear e1
  subst he
  have hB1 : Hid (Below w.heap.size w w1) := ((Below.refl _ _).alloc (Nat.le_refl _) _).trans (hB.mono (by simp))
  have G1 : Hid (Bools w1 w1.heap.size ga 4 [true, true, false, true]) := hgi
  clear hB hgi
  go_wp2_with fail
  refine (gnew_yes _ _ _ (by decide) (by decide) (by decide) (by decide)).mono ?_
  rintro e w2 ⟨rfl, ho, hg⟩
  have H2 := Lib.hid ho; clear ho
  have G2 := Lib.hid (G1.out.later (below_new hg))
  have B2 : Hid (Below w.heap.size w w2) := hB1.out.trans ((below_new hg).mono hB1.out.size)
  clear hg
  have hsz := hB1.out.size
  go_wp2_with fail
  refine (gcome_yes _ 3 2 0 0 0 _ H2.out (by decide) (by decide) (by decide) (by decide) (by decide) (by decide) (by decide)).mono ?_
  rintro e w3 ⟨rfl, ho, hg⟩
  have H3 : Hid (Gat w3 w1.heap.size 3 2 3 0) := ho
  have G3 : Hid (Bools w3 w2.heap.size ga 4 [true, true, false, true]) := ⟨G2.out.size, G2.out.room, fun k hk => by
    obtain ⟨b, off, h1, h2, h3⟩ := G1.out.cell k hk
    obtain ⟨b', off', h1', h2', h3'⟩ := G2.out.cell k hk
    rw [h1] at h1'; simp at h1'; obtain ⟨rfl, rfl⟩ := h1'
    exact ⟨b, off, h1, h2', hg.cell h3' (by simp; omega)⟩⟩
  have hg3 := hg.size
  have B3 : Hid (Below w.heap.size w w3) := B2.out.trans (below_grown hg hsz H2.out.lt)
  clear hg ho
  go_wp2_with fail
  refine (gcome_wait _ 3 2 3 0 0 _ H3.out (by decide) (by decide) (by decide) (by decide) (by decide) (by decide)).mono ?_
  rintro e w4 ⟨rfl, ho, hg⟩
  have H4 := Lib.hid ho
  have G4 : Hid (Bools w4 w2.heap.size ga 4 [true, true, false, true]) := ⟨G2.out.size, G2.out.room, fun k hk => by
    obtain ⟨b, off, h1, h2, h3⟩ := G1.out.cell k hk
    obtain ⟨b', off', h1', h2', h3'⟩ := G3.out.cell k hk
    rw [h1] at h1'; simp at h1'; obtain ⟨rfl, rfl⟩ := h1'
    exact ⟨b, off, h1, h2', hg.cell h3' (by simp; omega)⟩⟩
  have hs42 : w2.heap.size ≤ w4.heap.size := Nat.le_trans hg3 hg.size
  have B4 : Hid (Below w.heap.size w w4) := B3.out.trans (below_grown hg hsz H3.out.lt)
  clear hg ho
  go_wp2_with fail
  refine (bsame_yes _ _ 4 _ _ [true, true, false, true] _ _ _ (G4.out.below ((Below.refl _ _).alloc hs42 _)) (bools_lit (bs := [true, true, false, true]) (Obj.new w4 [.bool true, .bool true, .bool false, .bool true] _) (by decide))).mono ?_
  rintro e w5 ⟨rfl, n, rfl⟩
  go_wp2_with fail
  refine (gnext_any _ 3 2 3 0 _ (Gat.drewN (Obj.alloc H4.out _) n)).mono ?_
  rintro e w' ⟨rfl, rfl⟩
  go_wp2
  go_ret
  exact ⟨by simp, below_drewN (B4.out.alloc B4.out.size _) _⟩
end Go.Proofs.Ytikclgfldfpbdaa
