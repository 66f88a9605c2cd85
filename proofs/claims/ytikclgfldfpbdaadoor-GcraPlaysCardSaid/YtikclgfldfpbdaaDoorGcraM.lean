/- The gate's contracts; equal lists of bools; the closed fact. -/
import Derived.Test.YtikclgfldfpbdaaDoorGcra
namespace Go.Proofs.YtikclgfldfpbdaaDoor
open Go.RowKit
set_option linter.unusedSimpArgs false
set_option linter.unusedVariables false

theorem bsame_yes (a1 a2 : Option Addr) (len c1 c2 : Nat) (bs : List Bool) (B1 B2 : Nat) (w : World) (h1 : Bools w B1 a1 len bs) (h2 : Bools w B2 a2 len bs) :
    Calls Tryd.prog 8 #[.slice a1 len c1, .slice a2 len c2] w fun e w' => e = .returned (.bool true) ∧ ∃ n, w' = w.drewN n := by
  have hroom := h1.room
  have H1 := Lib.hid h1; clear h1
  have H2 := Lib.hid h2; clear h2
  have hne : ((len : Int) != (len : Int)) = false := by simp
  go_enter Tryd.func8, Tryd.ntmps8
  go_wp2_with fail
  go_loopw [5] (fun v wr => ∃ k m : Nat, k ≤ len ∧ v = .int .i64 k ∧ wr = w.drewN m) (fun v _ => len - (intOf v).toNat)
  case atStart => exact ⟨0, 0, by omega, rfl, rfl⟩
  case round =>
    obtain ⟨k, m, hk, rfl, rfl⟩ := hrel
    by_cases hlt : k < len
    · obtain ⟨b, off, rfl, _, hc⟩ := H1.out.cell k hlt
      obtain ⟨b2, off2, rfl, _, hc2⟩ := H2.out.cell k hlt
      have hl0 : (0 : Int) ≤ (k : Int) := by omega
      have hl1 : (k : Int) < (len : Int) := by omega
      generalize bs.getD k false = n at *
      go_wp2_with fail
      go_quiet (fail)
      go_wp2
      go_roundw
      case rel => exact ⟨k + 1, _, by omega, by go_num, rfl⟩
      case measure => simp [intOf]; omega
    · go_wp2
      go_ret
      exact ⟨rfl, _, rfl⟩

theorem gcome_no (b : Nat) (t : Int) (w : World) (h : t < 0 ∨ 1000 < t) : Calls Tryd.prog 11 #[.pointer (some ⟨b, 0, none⟩), .int .i64 t] w fun e w' => e = .returned (.tuple #[.bool false, errV 1]) ∧ w = w' := by
  go_enter Tryd.func11, Tryd.ntmps11
  go_wp2_with fail
  refine (within_out _ _ _ _ h).mono ?_
  rintro e w' ⟨rfl, rfl⟩
  go_wp2
  go_ret2
  exact ⟨rfl, rfl⟩
theorem gcome_state (b : Nat) (st sl nx l t : Int) (w : World) (ho : Gat w b st sl nx l) (h1 : 0 ≤ t) (h2 : t ≤ 1000) (hl : t < l) : Calls Tryd.prog 11 #[.pointer (some ⟨b, 0, none⟩), .int .i64 t] w fun e w' => e = .returned (.tuple #[.bool false, errV 7]) ∧ w = w' := by
  have c3 := ho.cell 3
  clear ho
  simp only [List.getElem?_cons_zero, List.getElem?_cons_succ] at c3
  go_enter Tryd.func11, Tryd.ntmps11
  go_wp2_with fail
  refine (within_in _ _ _ _ h1 h2).mono ?_
  rintro e w' ⟨rfl, rfl⟩
  go_wp2
  go_ret2
  exact ⟨rfl, rfl⟩
set_option maxHeartbeats 2000000 in
theorem gcome_yes (b : Nat) (st sl nx l t : Int) (w : World) (ho : Gat w b st sl nx l) (h1 : 0 ≤ t) (h2 : t ≤ 1000) (hl : l ≤ t) (hs : 1 ≤ st ∧ st ≤ 20) (hsl : 0 ≤ sl ∧ sl ≤ 100) (hn : 0 ≤ nx ∧ nx ≤ 2000) (hok : nx - sl ≤ t) : Calls Tryd.prog 11 #[.pointer (some ⟨b, 0, none⟩), .int .i64 t] w fun e w' =>
    e = .returned (.tuple #[.bool true, .nilIface]) ∧ Gat w' b st sl (max t nx + st) t ∧ w.grownBy w' (some b) := by
  have c0 := ho.cell 0
  have c1 := ho.cell 1
  have c2 := ho.cell 2
  have c3 := ho.cell 3
  have f2 := ho.free 2
  have f3 := ho.free 3
  have H := Lib.hid ho; clear ho
  simp only [List.getElem?_cons_zero, List.getElem?_cons_succ] at c0 c1 c2 c3
  obtain ⟨s0, s1⟩ := hs
  obtain ⟨l0, l1⟩ := hsl
  obtain ⟨n0, n1⟩ := hn
  by_cases hm : t < nx
  · rw [show max t nx = nx from by omega]
    go_enter Tryd.func11, Tryd.ntmps11
    go_wp2_with fail
    refine (within_in _ _ _ _ h1 h2).mono ?_
    rintro e w' ⟨rfl, rfl⟩
    go_wp2_with fail
    go_region
    all_goals go_wp2
    all_goals go_region
    all_goals go_wp2
    all_goals (go_ret2; exact ⟨rfl, Gat.drew (Gat.set2 (Gat.drew (Gat.set3 H.out rfl)) rfl), grown_drew (grown_set (grown_drew (grown_set (grown_refl _ _) _ _)) _ _)⟩)
  · rw [show max t nx = t from by omega]
    go_enter Tryd.func11, Tryd.ntmps11
    go_wp2_with fail
    refine (within_in _ _ _ _ h1 h2).mono ?_
    rintro e w' ⟨rfl, rfl⟩
    go_wp2_with fail
    go_region
    all_goals go_wp2
    all_goals go_region
    all_goals go_wp2
    all_goals (go_ret2; exact ⟨rfl, Gat.drew (Gat.set2 (Gat.drew (Gat.set3 H.out rfl)) rfl), grown_drew (grown_set (grown_drew (grown_set (grown_refl _ _) _ _)) _ _)⟩)
set_option maxHeartbeats 2000000 in
theorem gcome_wait (b : Nat) (st sl nx l t : Int) (w : World) (ho : Gat w b st sl nx l) (h1 : 0 ≤ t) (h2 : t ≤ 1000) (hl : l ≤ t) (hsl : 0 ≤ sl ∧ sl ≤ 100) (hn : 0 ≤ nx ∧ nx ≤ 2000) (hok : t < nx - sl) : Calls Tryd.prog 11 #[.pointer (some ⟨b, 0, none⟩), .int .i64 t] w fun e w' =>
    e = .returned (.tuple #[.bool false, .nilIface]) ∧ Gat w' b st sl nx t ∧ w.grownBy w' (some b) := by
  have c0 := ho.cell 0
  have c1 := ho.cell 1
  have c2 := ho.cell 2
  have c3 := ho.cell 3
  have f3 := ho.free 3
  have H := Lib.hid ho; clear ho
  simp only [List.getElem?_cons_zero, List.getElem?_cons_succ] at c0 c1 c2 c3
  obtain ⟨l0, l1⟩ := hsl
  obtain ⟨n0, n1⟩ := hn
  go_enter Tryd.func11, Tryd.ntmps11
  go_wp2_with fail
  refine (within_in _ _ _ _ h1 h2).mono ?_
  rintro e w' ⟨rfl, rfl⟩
  go_wp2_with fail
  go_region
  all_goals go_wp2
  all_goals (go_ret2; exact ⟨rfl, Gat.drew (Gat.set3 H.out rfl), grown_drew (grown_set (grown_refl _ _) _ _)⟩)

theorem gnext_any (b : Nat) (st sl nx l : Int) (w : World) (ho : Gat w b st sl nx l) : Calls Tryd.prog 12 #[.pointer (some ⟨b, 0, none⟩)] w fun e w' => e = .returned (.int .i64 nx) ∧ w = w' := by
  have c2 := ho.cell 2
  clear ho
  simp only [List.getElem?_cons_zero, List.getElem?_cons_succ] at c2
  go_enter Tryd.func12, Tryd.ntmps12
  go_wp2
  go_ret
  exact ⟨rfl, rfl⟩
end Go.Proofs.YtikclgfldfpbdaaDoor
