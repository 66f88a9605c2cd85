/- The reference's Rising: the same numbers, rising. -/
import Derived.Test.YtkpflghhmnkjmaaCore
import Derived.Deep.AppendLies
import Derived.Lib.BufferMore
namespace Go.Proofs.Ytkpflghhmnkjmaa
open Go.RowKit
set_option linter.unusedSimpArgs false
set_option linter.unusedVariables false

/-- What stands after some rounds: idx the places that were taken, in their order. -/
structure Ris (zs : List Int) (us : List Bool) (idx : List Nat) : Prop where
  len : us.length = zs.length
  nodup : idx.Nodup
  used : ∀ i, i < zs.length → (us.getD i false = true ↔ i ∈ idx)
  inn : ∀ i ∈ idx, i < zs.length
  low : ∀ i ∈ idx, ∀ j, j < zs.length → us.getD j false = false → zs.getD i 0 ≤ zs.getD j 0
  rise : (idx.map fun i => zs.getD i 0).Pairwise (· ≤ ·)

theorem Ris.start (zs : List Int) : Ris zs (List.replicate zs.length false) [] := by
  refine ⟨by simp, by simp, fun i hi => ?_, by simp, by simp, by simp⟩
  simp [List.getD_eq_getElem?_getD, List.getElem?_replicate, hi]
theorem Ris.step {zs : List Int} {us : List Bool} {idx : List Nat} (h : Ris zs us idx) (b : Nat) (hb : b < zs.length) (hu : us.getD b false = false) (hm : ∀ j, j < zs.length → us.getD j false = false → zs.getD b 0 ≤ zs.getD j 0) :
    Ris zs (us.set b true) (idx ++ [b]) := by
  have hbl : b < us.length := by rw [h.len]; exact hb
  have hset : ∀ j, (us.set b true).getD j false = if b = j then true else us.getD j false := fun j => by
    simp only [List.getD_eq_getElem?_getD, List.getElem?_set]
    by_cases e : b = j
    · subst e; simp [hbl]
    · simp [e]
  refine ⟨by simpa using h.len, ?_, fun i hi => ?_, fun i hi => ?_, fun i hi j hj hju => ?_, ?_⟩
  · rw [List.nodup_append]
    refine ⟨h.nodup, by simp, fun x hx y hy e => ?_⟩
    simp only [List.mem_singleton] at hy
    subst hy; subst e
    have := (h.used x hb).2 hx
    rw [hu] at this; exact absurd this (by simp)
  · rw [hset, List.mem_append, List.mem_singleton]
    by_cases e : b = i
    · simp [e]
    · rw [if_neg e, h.used i hi]
      exact ⟨fun h => Or.inl h, fun h => h.elim id (fun h => absurd h.symm e)⟩
  · rcases List.mem_append.1 hi with h1 | h1
    · exact h.inn i h1
    · simp only [List.mem_singleton] at h1; subst h1; exact hb
  · rw [hset] at hju
    by_cases e : b = j
    · simp [e] at hju
    · rw [if_neg e] at hju
      rcases List.mem_append.1 hi with h1 | h1
      · exact h.low i h1 j hj hju
      · simp only [List.mem_singleton] at h1; subst h1; exact hm j hj hju
  · rw [List.map_append, List.pairwise_append]
    refine ⟨h.rise, by simp, fun x hx y hy => ?_⟩
    simp only [List.map_cons, List.map_nil, List.mem_singleton] at hy
    subst hy
    obtain ⟨i, hi, rfl⟩ := List.mem_map.1 hx
    exact h.low i hi b hb hu
theorem nodup_full (n : Nat) (l : List Nat) (hn : l.Nodup) (hl : ∀ i ∈ l, i < n) (hc : n ≤ l.length) : l.Perm (List.range n) := by
  refine (List.perm_ext_iff_of_nodup hn List.nodup_range).2 fun a => ⟨fun h => List.mem_range.2 (hl a h), fun h => ?_⟩
  apply Classical.byContradiction
  intro hne
  have h1 : (a :: l).Nodup := List.nodup_cons.2 ⟨hne, hn⟩
  have h2 := List.Nodup.length_le_of_subset h1 (l₂ := List.range n) (fun i hi => by
    rcases List.mem_cons.1 hi with h3 | h3
    · subst h3; exact h
    · exact List.mem_range.2 (hl i h3))
  simp at h2; omega
theorem Ris.free {zs : List Int} {us : List Bool} {idx : List Nat} (h : Ris zs us idx) (hc : idx.length < zs.length) : ∃ j, j < zs.length ∧ us.getD j false = false := by
  apply Classical.byContradiction
  intro hne
  have hall : ∀ j, j < zs.length → j ∈ idx := fun j hj => (h.used j hj).1 (by
    cases hu : us.getD j false
    · exact absurd ⟨j, hj, hu⟩ hne
    · rfl)
  have h1 := List.Nodup.length_le_of_subset (List.nodup_range (n := zs.length)) (fun i hi => hall i (List.mem_range.1 hi))
  simp at h1; omega
theorem Ris.stop {zs : List Int} {us : List Bool} {idx : List Nat} (h : Ris zs us idx) (hc : idx.length = zs.length) : (idx.map fun i => zs.getD i 0).Perm zs := by
  have h1 := nodup_full zs.length idx h.nodup h.inn (by omega)
  have h2 := h1.map fun i => zs.getD i 0
  have h3 : (List.range zs.length).map (fun i => zs.getD i 0) = zs := by
    apply List.ext_getElem
    · simp
    · intro i h1 h2; simp [List.getD_eq_getElem?_getD, h2]
  rw [h3] at h2; exact h2
end Go.Proofs.Ytkpflghhmnkjmaa
