/- What aimd.Run computes, in plain Lean, and what its laws ask. -/
import Derived.Test.YtkpflghhmnkjmaaCore
namespace Go.Proofs.Ytkpflghhmnkjmaa
open Go.RowKit
set_option linter.unusedSimpArgs false
set_option linter.unusedVariables false

/-- One step: what they have, and how often they halved it. -/
def aiStep (room : Int) (s : List Int × Nat) : List Int × Nat :=
  if room < s.1.sum then (s.1.map (· / 2), s.2 + 1) else (s.1.map (· + 1), s.2)
def aiRun (room : Int) (l : List Int) : Nat → List Int × Nat
  | 0 => (l, 0)
  | n + 1 => aiStep room (aiRun room l n)

theorem ai_len (room : Int) (l : List Int) (n : Nat) : (aiRun room l n).1.length = l.length := by
  induction n with
  | zero => rfl
  | succ n ih => simp only [aiRun, aiStep]; split <;> simpa using ih
theorem ai_halved (room : Int) (l : List Int) (n : Nat) : (aiRun room l n).2 ≤ n := by
  induction n with
  | zero => simp [aiRun]
  | succ n ih => simp only [aiRun, aiStep]; split <;> simp <;> omega
theorem ai_bounds (room : Int) (l : List Int) (n : Nat) {M : Int} (h : ∀ x ∈ l, 0 ≤ x ∧ x ≤ M) : ∀ x ∈ (aiRun room l n).1, 0 ≤ x ∧ x ≤ M + n := by
  induction n with
  | zero => simpa [aiRun] using h
  | succ n ih =>
    intro x hx
    simp only [aiRun, aiStep] at hx
    split at hx
    · simp only [List.mem_map] at hx
      obtain ⟨y, hy, rfl⟩ := hx
      have := ih y hy; omega
    · simp only [List.mem_map] at hx
      obtain ⟨y, hy, rfl⟩ := hx
      have := ih y hy; omega
theorem sum_up (l : List Int) : (l.map (· + 1)).sum = l.sum + l.length := by
  induction l with
  | nil => rfl
  | cons x l ih => simp only [List.map_cons, List.sum_cons, List.length_cons, ih]; omega
theorem sum_half (l : List Int) (h : ∀ x ∈ l, 0 ≤ x) : 0 ≤ (l.map (· / 2)).sum ∧ (l.map (· / 2)).sum ≤ l.sum := by
  induction l with
  | nil => simp
  | cons x l ih =>
    have h1 := h x (by simp)
    have h2 := ih (fun y hy => h y (by simp [hy]))
    simp only [List.map_cons, List.sum_cons]; omega
/-- Near the room. -/
theorem ai_room (room : Int) (l : List Int) (n : Nat) (h : ∀ x ∈ l, 0 ≤ x) : (aiRun room l n).1.sum ≤ max (room + l.length) l.sum := by
  have hb : ∀ n, ∀ x ∈ (aiRun room l n).1, 0 ≤ x := by
    intro n
    induction n with
    | zero => simpa [aiRun] using h
    | succ n ih =>
      intro x hx
      simp only [aiRun, aiStep] at hx
      split at hx <;> (simp only [List.mem_map] at hx; obtain ⟨y, hy, rfl⟩ := hx; have := ih y hy; omega)
  induction n with
  | zero => simp only [aiRun]; omega
  | succ n ih =>
    have hl := ai_len room l n
    simp only [aiRun, aiStep]
    split
    · have := sum_half _ (hb n); simp only; omega
    · simp only [sum_up, hl]; omega
/-- Who has no less never has less. -/
theorem ai_mono (room : Int) (l : List Int) (n : Nat) (i j : Nat) (hi : i < l.length) (hj : j < l.length) (h : l.getD i 0 ≤ l.getD j 0) : (aiRun room l n).1.getD i 0 ≤ (aiRun room l n).1.getD j 0 := by
  induction n with
  | zero => exact h
  | succ n ih =>
    have hl := ai_len room l n
    have e : ∀ (f : Int → Int) (k : Nat), k < l.length → ((aiRun room l n).1.map f).getD k 0 = f ((aiRun room l n).1.getD k 0) := by
      intro f k hk
      rw [List.getD_eq_getElem?_getD, List.getD_eq_getElem?_getD, List.getElem?_map, List.getElem?_eq_getElem (by rw [hl]; exact hk)]; rfl
    simp only [aiRun, aiStep]
    split
    · simp only [e _ i hi, e _ j hj]; omega
    · simp only [e _ i hi, e _ j hj]; omega
def aiW : Nat → Int → Int
  | 0, d => d
  | n + 1, d => (aiW n d + 1) / 2
theorem aiW_pos (n : Nat) {d : Int} (h : 0 ≤ d) : 0 ≤ aiW n d := by
  induction n with
  | zero => exact h
  | succ n ih => simp only [aiW]; omega
theorem aiW_le (n k : Nat) {d : Int} (h : 0 ≤ d) : aiW (n + k) d ≤ aiW n d := by
  induction k with
  | zero => exact Int.le_refl _
  | succ k ih => have := aiW_pos (n + k) h; show (aiW (n + k) d + 1) / 2 ≤ _; omega
theorem aiW_ten {d : Int} (h : 0 ≤ d) (h2 : d ≤ 1024) : aiW 10 d ≤ 1 := by
  simp only [aiW]; omega
/-- Never further apart; each time that they halve, half as far. -/
theorem ai_fair (room : Int) (l : List Int) (n : Nat) {d : Int} (h : ∀ i j, i < l.length → j < l.length → l.getD i 0 - l.getD j 0 ≤ d) (i j : Nat) (hi : i < l.length) (hj : j < l.length) :
    (aiRun room l n).1.getD i 0 - (aiRun room l n).1.getD j 0 ≤ aiW (aiRun room l n).2 d := by
  induction n with
  | zero => exact h i j hi hj
  | succ n ih =>
    have hl := ai_len room l n
    have e : ∀ (f : Int → Int) (k : Nat), k < l.length → ((aiRun room l n).1.map f).getD k 0 = f ((aiRun room l n).1.getD k 0) := by
      intro f k hk
      rw [List.getD_eq_getElem?_getD, List.getD_eq_getElem?_getD, List.getElem?_map, List.getElem?_eq_getElem (by rw [hl]; exact hk)]; rfl
    simp only [aiRun, aiStep]
    split
    · simp only [e _ i hi, e _ j hj, aiW]; omega
    · simp only [e _ i hi, e _ j hj]; omega
end Go.Proofs.Ytkpflghhmnkjmaa
