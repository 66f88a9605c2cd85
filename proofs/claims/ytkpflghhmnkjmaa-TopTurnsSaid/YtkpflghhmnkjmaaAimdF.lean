/- The greatest and the least of a list; aimd.Apart; the statements' Sum; the closed fact on aimd. -/
import Derived.Test.YtkpflghhmnkjmaaAimdNo
namespace Go.Proofs.Ytkpflghhmnkjmaa
open Go.RowKit
set_option linter.unusedSimpArgs false
set_option linter.unusedVariables false

/-- The greatest of the first k + 1, the least of them. -/
def mxN (zs : List Int) : Nat → Int
  | 0 => zs.getD 0 0
  | k + 1 => max (mxN zs k) (zs.getD (k + 1) 0)
def mnN (zs : List Int) : Nat → Int
  | 0 => zs.getD 0 0
  | k + 1 => min (mnN zs k) (zs.getD (k + 1) 0)
theorem mxN_ge (zs : List Int) (k : Nat) : ∀ j, j ≤ k → zs.getD j 0 ≤ mxN zs k := by
  induction k with
  | zero => intro j hj; obtain rfl : j = 0 := by omega
            exact Int.le_refl _
  | succ k ih =>
    intro j hj
    simp only [mxN]
    rcases Nat.lt_or_ge j (k + 1) with h | h
    · have := ih j (by omega); omega
    · obtain rfl : j = k + 1 := by omega
      omega
theorem mnN_le (zs : List Int) (k : Nat) : ∀ j, j ≤ k → mnN zs k ≤ zs.getD j 0 := by
  induction k with
  | zero => intro j hj; obtain rfl : j = 0 := by omega
            exact Int.le_refl _
  | succ k ih =>
    intro j hj
    simp only [mnN]
    rcases Nat.lt_or_ge j (k + 1) with h | h
    · have := ih j (by omega); omega
    · obtain rfl : j = k + 1 := by omega
      omega
theorem mxN_mem (zs : List Int) (k : Nat) : ∃ j, j ≤ k ∧ mxN zs k = zs.getD j 0 := by
  induction k with
  | zero => exact ⟨0, by omega, rfl⟩
  | succ k ih =>
    obtain ⟨j, hj, e⟩ := ih
    simp only [mxN]
    by_cases h : mxN zs k ≤ zs.getD (k + 1) 0
    · exact ⟨k + 1, by omega, by omega⟩
    · exact ⟨j, by omega, by omega⟩
theorem mnN_mem (zs : List Int) (k : Nat) : ∃ j, j ≤ k ∧ mnN zs k = zs.getD j 0 := by
  induction k with
  | zero => exact ⟨0, by omega, rfl⟩
  | succ k ih =>
    obtain ⟨j, hj, e⟩ := ih
    simp only [mnN]
    by_cases h : mnN zs k ≤ zs.getD (k + 1) 0
    · exact ⟨j, by omega, by omega⟩
    · exact ⟨k + 1, by omega, by omega⟩

theorem smax (a : Option Addr) (len cap : Nat) (zs : List Int) (B : Nat) (w : World) (hI : Ints w B a len zs) (h1 : 1 ≤ len) :
    Calls Try.prog 26 #[.slice a len cap] w fun e w' => e = .returned (.int .i64 (mxN zs (len - 1))) ∧ w = w' := by
  have hroom := hI.room
  obtain ⟨b0, off0, rfl, _, h0⟩ := hI.cell 0 (by omega)
  rw [Nat.add_zero] at h0
  have HI := Lib.hid hI; clear hI
  obtain ⟨m0, hm0⟩ : ∃ m0, m0 = zs.getD 0 0 := ⟨_, rfl⟩
  rw [← hm0] at h0
  have HM0 := Lib.hid hm0; clear hm0
  go_enter Try.func26, Try.ntmps26
  go_wp2_with fail
  go_loop [3, 4] (fun v2 v3 => ∃ (k : Nat) (m : Int), 1 ≤ k ∧ k ≤ len ∧ v3 = .int .i64 k ∧ v2 = .int .i64 m ∧ Hid (m = mxN zs (k - 1))) (fun _ v3 => len - (intOf v3).toNat)
  case atStart => exact ⟨1, m0, by omega, by omega, rfl, rfl, HM0.out⟩
  case round =>
    obtain ⟨k, m, hk1, hk, rfl, rfl, HM⟩ := hrel
    by_cases hlt : k < len
    · obtain ⟨b, off, he, _, hc⟩ := HI.out.cell k hlt
      simp only [Option.some.injEq, Addr.mk.injEq, and_true] at he
      obtain ⟨rfl, rfl⟩ := he
      have hs : mxN zs k = max m (zs.getD k 0) := by
        obtain ⟨k', rfl⟩ : ∃ k', k = k' + 1 := ⟨k - 1, by omega⟩
        have := HM.out; rw [this]; rfl
      generalize zs.getD k 0 = x at *
      by_cases hmx : m < x
      · have HS : Hid (x = mxN zs (k + 1 - 1)) := by show x = mxN zs k; omega
        clear hs
        go_wp2_with fail
        go_round
        case rel => exact ⟨k + 1, x, by omega, by omega, by go_num, by go_num, HS⟩
        case measure => simp [intOf]; omega
      · have HS : Hid (m = mxN zs (k + 1 - 1)) := by show m = mxN zs k; omega
        have hmx2 : x ≤ m := by omega
        clear hs hmx
        go_wp2_with fail
        go_round
        case rel => exact ⟨k + 1, m, by omega, by omega, by go_num, by go_num, HS⟩
        case measure => simp [intOf]; omega
    · have HE : Hid (m = mxN zs (len - 1)) := by have := HM.out; rw [show k = len from by omega] at this; exact this
      go_wp2
      go_ret
      exact ⟨ret_int HE.out, rfl⟩

theorem ai_ok {zs : List Int} {room : Int} (h : aiE zs room = 0) : 1 ≤ zs.length ∧ zs.length ≤ 5 ∧ (∀ k, k < zs.length → 0 ≤ zs.getD k 0 ∧ zs.getD k 0 ≤ 1000) ∧ 1 ≤ room ∧ room ≤ 1000 := by
  rcases ai_cases zs room with ⟨_, e⟩ | ⟨_, e⟩ | ⟨_, _, _, e⟩ | ⟨_, _, _, _, e⟩ | ⟨h1, h2, h3, h4, e⟩
  · rw [h] at e; omega
  · rw [h] at e; omega
  · rw [h] at e; omega
  · rw [h] at e; omega
  · exact ⟨h1, h2, h3, h4.1, h4.2⟩
theorem all_mem {zs : List Int} {M : Int} (h : ∀ k, k < zs.length → 0 ≤ zs.getD k 0 ∧ zs.getD k 0 ≤ M) : ∀ x ∈ zs, 0 ≤ x ∧ x ≤ M := by
  intro x hx
  obtain ⟨k, hk, rfl⟩ := List.getElem_of_mem hx
  have := h k hk
  simpa [List.getD_eq_getElem?_getD, hk] using this

end Go.Proofs.Ytkpflghhmnkjmaa
