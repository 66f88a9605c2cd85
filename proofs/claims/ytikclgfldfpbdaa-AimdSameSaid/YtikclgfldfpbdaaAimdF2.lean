/- The statements' Sum; the closed fact on aimd. -/
import Derived.Test.YtikclgfldfpbdaaAimdF
import Derived.Test.YtikclgfldfpbdaaLit
namespace Go.Proofs.Ytikclgfldfpbdaa
open Go.RowKit
set_option linter.unusedSimpArgs false
set_option linter.unusedVariables false

theorem esum (a : Option Addr) (len cap : Nat) (zs : List Int) (B : Nat) (w : World) (hI : Ints w B a len zs) (hl : len ≤ 5) (h : ∀ k, k < len → 0 ≤ zs.getD k 0 ∧ zs.getD k 0 ≤ 1000000) :
    Calls Try.prog 18 #[.slice a len cap] w fun e w' => e = .returned (.int .i64 zs.sum) ∧ w = w' := by
  have hlz := Lib.hid hI.size
  have HI := Lib.hid hI; clear hI
  have HH := Lib.hid h; clear h
  go_enter Try.func18, Try.ntmps18
  go_wp2_with fail
  go_loop [3, 4] (fun v2 v3 => ∃ (k : Nat) (n : Int), k ≤ len ∧ v3 = .int .i64 k ∧ v2 = .int .i64 n ∧ 0 ≤ n ∧ n ≤ 1000000 * k ∧ Hid (n = (zs.take k).sum)) (fun _ v3 => len - (intOf v3).toNat)
  case atStart => exact ⟨0, 0, by omega, rfl, rfl, by omega, by omega, by rfl⟩
  case round =>
    obtain ⟨k, n, hk, rfl, rfl, n1, n2, HN⟩ := hrel
    by_cases hlt : k < len
    · obtain ⟨b, off, rfl, hb, hc⟩ := HI.out.cell k hlt
      obtain ⟨h1, h2⟩ := HH.out k hlt
      have hs : (zs.take (k + 1)).sum = n + zs.getD k 0 := by
        rw [List.take_succ_eq_append_getElem (by rw [hlz.out]; exact hlt), List.sum_append, ← HN.out]
        simp [List.getD_eq_getElem?_getD, hlz.out, hlt]
      have HS := Lib.hid hs; clear hs
      generalize zs.getD k 0 = x at *
      go_wp2_with fail
      go_round
      case rel => exact ⟨k + 1, n + x, by omega, by go_num, by go_num, by omega, by omega, HS.out.symm⟩
      case measure => simp [intOf]; omega
    · have e : n = zs.sum := by rw [HN.out, List.take_of_length_le (by rw [hlz.out]; omega)]
      go_wp2
      go_ret
      exact ⟨rfl, rfl⟩

theorem afact_any (w : World) : Calls Try.prog 16 #[] w fun e w' => e = .returned (.bool true) ∧ Below w.heap.size w w' := by
  have s2 : ∀ k, -9223372036854775808 ≤ ([8, 0] : List Int).getD k 0 ∧ ([8, 0] : List Int).getD k 0 ≤ 9223372036854775807 := fun k => by rcases k with _ | _ | k <;> simp
  have s2b : ∀ k, -9223372036854775808 ≤ ([5, 1] : List Int).getD k 0 ∧ ([5, 1] : List Int).getD k 0 ≤ 9223372036854775807 := fun k => by rcases k with _ | _ | k <;> simp
  have S2 := Lib.hid s2; clear s2
  have S2b := Lib.hid s2b; clear s2b
  have hs0 : Hid (aiE [8, 0] 7 = 0) := by
    show aiE [8, 0] 7 = 0
    rcases ai_cases [8, 0] 7 with ⟨h, e⟩ | ⟨h, e⟩ | ⟨_, _, ⟨k, hk, h⟩, e⟩ | ⟨_, _, _, h, e⟩ | ⟨h1, h2, h3, h4, e⟩
    · simp at h
    · simp at h
    · rcases k with _ | _ | k <;> simp at hk h
    · omega
    · exact e
  go_enter Try.func16, Try.ntmps16
  go_wp2_with fail
  have I1 := Lib.hid (intsLit (zs := [8, 0]) (Obj.new w [.int .i64 8, .int .i64 0] 3) (by decide) S2.out)
  refine (airun_yes _ _ 2 2 7 2 [8, 0] _ I1.out hs0.out (by decide) (by simp) (by decide)).mono ?_
  clear I1
  rintro e w1 ⟨ga, gc, he, hrow, hB⟩
  have e1 : aiRun 7 [8, 0] (2 : Int).toNat = ([5, 1], 1) := by rfl
  rw [e1] at he hrow
  clear e1
  subst he
  have G1 := Lib.hid (hrow.ints (by decide) (M := 1000) (by decide) (by simp))
  have hB1 : Hid (Below w.heap.size w w1) := ((Below.refl _ _).alloc (Nat.le_refl _) _).trans (hB.mono (by simp))
  clear hB hrow
  go_wp2_with fail
  refine (same_yes _ _ 2 _ _ [5, 1] _ _ _ (G1.out.alloc _) (intsLit (zs := [5, 1]) (Obj.new w1 [.int .i64 5, .int .i64 1] _) (by decide) S2b.out)).mono ?_
  rintro e w5 ⟨rfl, n2, rfl⟩
  go_wp2
  go_ret
  exact ⟨by simp, below_drewN (hB1.out.alloc hB1.out.size _) _⟩
end Go.Proofs.Ytikclgfldfpbdaa
