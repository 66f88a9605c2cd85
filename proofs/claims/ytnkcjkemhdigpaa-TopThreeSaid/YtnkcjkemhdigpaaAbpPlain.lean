/- The alternating bit, as a plain function; what it gives. -/
import Derived.Test.YtnkcjkemhdigpaaBase
namespace Go.Proofs.Ytnkcjkemhdigpaa
set_option linter.unusedSimpArgs false

/-- What is wrong with data and fates: 0, 4 or 1. -/
def sentOk (zs : List Int) (fs : List (Bool × Bool)) : Prop := zs.length ≤ 20 ∧ fs.length ≤ 200 ∧ ∀ k, k < zs.length → 0 ≤ zs.getD k 0 ∧ zs.getD k 0 ≤ 1000

/-- One thing is sent: what is got, how much is known. -/
def abpStep (zs : List Int) (p : List Int × Nat) (f : Bool × Bool) : List Int × Nat :=
  if p.2 = zs.length then p
  else if f.1 then p
  else (if p.1.length % 2 = p.2 % 2 then p.1 ++ [zs.getD p.2 0] else p.1, if f.2 then p.2 else p.2 + 1)
def abpRun (zs : List Int) (fs : List (Bool × Bool)) : List Int × Nat := fs.foldl (abpStep zs) ([], 0)

/-- What is got is a beginning of the data; all of it is known, or all but one. -/
def AbpInv (zs : List Int) (p : List Int × Nat) : Prop := p.1 = zs.take p.1.length ∧ p.1.length ≤ zs.length ∧ (p.2 = p.1.length ∨ p.2 + 1 = p.1.length)
theorem take_snoc (zs : List Int) (n : Nat) (h : n < zs.length) : zs.take n ++ [zs.getD n 0] = zs.take (n + 1) := by
  rw [List.take_succ_eq_append_getElem h]
  simp [List.getD_eq_getElem?_getD, h]
theorem abp_step {zs : List Int} {p : List Int × Nat} (h : AbpInv zs p) (f : Bool × Bool) : AbpInv zs (abpStep zs p f) := by
  unfold abpStep
  obtain ⟨h1, h2, h3⟩ := h
  by_cases e1 : p.2 = zs.length
  · rw [if_pos e1]; exact ⟨h1, h2, h3⟩
  · rw [if_neg e1]
    by_cases e2 : f.1 = true
    · rw [if_pos e2]; exact ⟨h1, h2, h3⟩
    · rw [if_neg e2]
      by_cases e3 : p.1.length % 2 = p.2 % 2
      · rw [if_pos e3]
        have hk : p.2 = p.1.length := by omega
        have hs : p.1 ++ [zs.getD p.2 0] = zs.take (p.1.length + 1) := by
          rw [hk]; conv => lhs; rw [h1]
          rw [show (zs.take p.1.length).length = p.1.length from by simp; omega]
          exact take_snoc _ _ (by omega)
        refine ⟨?_, ?_, ?_⟩
        · show p.1 ++ [zs.getD p.2 0] = _
          rw [show (p.1 ++ [zs.getD p.2 0]).length = p.1.length + 1 from by simp]; exact hs
        · simp; omega
        · simp only [List.length_append, List.length_cons, List.length_nil]; split <;> omega
      · rw [if_neg e3]
        refine ⟨h1, h2, ?_⟩
        show (if f.2 = true then p.2 else p.2 + 1) = p.1.length ∨ (if f.2 = true then p.2 else p.2 + 1) + 1 = p.1.length
        split <;> omega
theorem abp_inv_fold {zs : List Int} (fs : List (Bool × Bool)) : ∀ p, AbpInv zs p → AbpInv zs (fs.foldl (abpStep zs) p) := by
  induction fs with
  | nil => intro p h; exact h
  | cons f fs ih => intro p h; exact ih _ (abp_step h f)
theorem abp_inv (zs : List Int) (fs : List (Bool × Bool)) : AbpInv zs (abpRun zs fs) := abp_inv_fold fs _ ⟨rfl, by simp, .inl rfl⟩

theorem abp_known_le {zs : List Int} {p : List Int × Nat} (h : AbpInv zs p) : p.2 ≤ zs.length := by
  obtain ⟨h1, h2, h3⟩ := h; omega

/-- How many are lost neither there nor back. -/
def fineOf (fs : List (Bool × Bool)) : Nat := (fs.filter fun f => !f.1 && !f.2).length
theorem fine_snoc (fs : List (Bool × Bool)) (f : Bool × Bool) : fineOf (fs ++ [f]) = fineOf fs + if (!f.1 && !f.2) = true then 1 else 0 := by
  unfold fineOf
  rw [List.filter_append]
  by_cases h : (!f.1 && !f.2) = true <;> simp [List.filter_cons, h]
theorem abp_fold_snoc (zs : List Int) (fs : List (Bool × Bool)) (f : Bool × Bool) : abpRun zs (fs ++ [f]) = abpStep zs (abpRun zs fs) f := by
  unfold abpRun; rw [List.foldl_append]; rfl

/-- Of so many that are lost neither there nor back so many are known, if there are so many. -/
def AbpMany (zs : List Int) (n : Nat) (k : Nat) : Prop := k = n ∨ (k = zs.length ∧ k ≤ n)
theorem abp_many_fold {zs : List Int} (fs : List (Bool × Bool)) : ∀ (p : List Int × Nat) (n : Nat), AbpMany zs n p.2 → AbpMany zs (n + fineOf fs) (fs.foldl (abpStep zs) p).2 := by
  induction fs with
  | nil => intro p n h; exact h
  | cons f fs ih =>
    intro p n h
    have e : n + fineOf (f :: fs) = (n + if (!f.1 && !f.2) = true then 1 else 0) + fineOf fs := by
      unfold fineOf
      by_cases hf : (!f.1 && !f.2) = true <;> simp [List.filter_cons, hf] <;> omega
    rw [e]
    refine ih _ _ ?_
    unfold abpStep AbpMany at *
    by_cases e1 : p.2 = zs.length
    · rw [if_pos e1]; split <;> omega
    · rw [if_neg e1]
      rcases f with ⟨a, b⟩
      cases a <;> cases b <;> simp <;> omega
theorem abp_many (zs : List Int) (fs : List (Bool × Bool)) : AbpMany zs (fineOf fs) (abpRun zs fs).2 := by
  have := abp_many_fold fs ([], 0) 0 (zs := zs) (.inl rfl)
  rw [Nat.zero_add] at this
  exact this
end Go.Proofs.Ytnkcjkemhdigpaa
