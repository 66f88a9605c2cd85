/- Go back: one ahead and two numbers is the alternating bit; where nothing is lost all comes. -/
import Derived.Test.YtnkcjkemhdigpaaGbnPlain
namespace Go.Proofs.Ytnkcjkemhdigpaa
set_option linter.unusedSimpArgs false
set_option linter.unusedVariables false

/-- One ahead, two numbers: the same. -/
structure OneI (zs : List Int) (p : List Int × Nat) (s : GbS) : Prop where
  g : s.got = p.1
  k : s.known = p.2
  n : s.known ≤ s.next
  m : s.next ≤ min (s.known + 1) zs.length
  inv : AbpInv zs p
theorem one_step {zs : List Int} {p : List Int × Nat} {s : GbS} (h : OneI zs p s) (f : Bool × Bool) : OneI zs (abpStep zs p f) (gbnStep zs 1 2 s f) := by
  have hI := abp_step h.inv f
  obtain ⟨h1, h2, h3, h4, h5⟩ := h
  obtain ⟨got, known, next⟩ := s
  obtain ⟨pg, pk⟩ := p
  simp only at h1 h2 h3 h4
  subst h1 h2
  by_cases e1 : known = zs.length
  · have a1 : abpStep zs (got, known) f = (got, known) := by unfold abpStep; rw [if_pos e1]
    have a2 : gbnStep zs 1 2 ⟨got, known, next⟩ f = ⟨got, known, next⟩ := by unfold gbnStep; rw [if_pos e1]
    rw [a1, a2]
    exact ⟨rfl, rfl, h3, h4, h5⟩
  · have hk : known < zs.length := by omega
    have hnow : gbNow zs.length 1 ⟨got, known, next⟩ = known := by
      unfold gbNow
      show (if next = min (known + 1) zs.length then known else next) = known
      split <;> omega
    obtain ⟨i1, i2, i3⟩ := h5
    simp only at i1 i2 i3
    by_cases e2 : f.1 = true
    · have a1 : abpStep zs (got, known) f = (got, known) := by unfold abpStep; rw [if_neg e1, if_pos e2]
      have a2 : gbnStep zs 1 2 ⟨got, known, next⟩ f = ⟨got, known, known + 1⟩ := by unfold gbnStep; rw [if_neg e1, if_pos e2, hnow]
      rw [a1, a2]
      exact ⟨rfl, rfl, by show known ≤ known + 1; omega, by show known + 1 ≤ min (known + 1) zs.length; omega, ⟨i1, i2, i3⟩⟩
    · have hg : gbGot zs 2 ⟨got, known, next⟩ known = if got.length % 2 = known % 2 then got ++ [zs.getD known 0] else got := by
        unfold gbGot
        show (if known % 2 = got.length % 2 then _ else _) = _
        by_cases e : known % 2 = got.length % 2
        · rw [if_pos e, if_pos e.symm]
        · rw [if_neg e, if_neg (fun h => e h.symm)]
      have hd : gbD 2 (gbGot zs 2 ⟨got, known, next⟩ known) known = 1 := by
        unfold gbD
        rw [hg]
        by_cases e : got.length % 2 = known % 2
        · rw [if_pos e]; have : got.length = known := by omega
          simp; omega
        · rw [if_neg e]; have : got.length = known + 1 := by omega
          omega
      by_cases e3 : f.2 = true
      · have a1 : abpStep zs (got, known) f = (if got.length % 2 = known % 2 then got ++ [zs.getD known 0] else got, known) := by unfold abpStep; rw [if_neg e1, if_neg e2, if_pos e3]
        have a2 : gbnStep zs 1 2 ⟨got, known, next⟩ f = ⟨if got.length % 2 = known % 2 then got ++ [zs.getD known 0] else got, known, known + 1⟩ := by
          unfold gbnStep; rw [if_neg e1, if_neg e2, if_pos e3, hnow, hg]
        rw [a1] at hI ⊢
        rw [a2]
        exact ⟨rfl, rfl, by show known ≤ known + 1; omega, by show known + 1 ≤ min (known + 1) zs.length; omega, hI⟩
      · have a1 : abpStep zs (got, known) f = (if got.length % 2 = known % 2 then got ++ [zs.getD known 0] else got, known + 1) := by unfold abpStep; rw [if_neg e1, if_neg e2, if_neg e3]
        have a2 : gbnStep zs 1 2 ⟨got, known, next⟩ f = ⟨if got.length % 2 = known % 2 then got ++ [zs.getD known 0] else got, known + 1, known + 1⟩ := by
          unfold gbnStep; rw [if_neg e1, if_neg e2, if_neg e3, hnow, hd, if_pos ⟨by omega, by show known + 1 ≤ zs.length; omega⟩, hg]
          show GbS.mk _ _ (max (known + 1) (known + 1)) = _
          rw [Nat.max_self]
        rw [a1] at hI ⊢
        rw [a2]
        exact ⟨rfl, rfl, by show known + 1 ≤ known + 1; omega, by show known + 1 ≤ min (known + 1 + 1) zs.length; omega, hI⟩
theorem one_fold {zs : List Int} (fs : List (Bool × Bool)) : ∀ p s, OneI zs p s → OneI zs (fs.foldl (abpStep zs) p) (fs.foldl (gbnStep zs 1 2) s) := by
  induction fs with
  | nil => intro p s h; exact h
  | cons f fs ih => intro p s h; exact ih _ _ (one_step h f)
theorem one_run (zs : List Int) (fs : List (Bool × Bool)) : (gbnRun zs 1 2 fs).got = (abpRun zs fs).1 ∧ (gbnRun zs 1 2 fs).known = (abpRun zs fs).2 := by
  have := one_fold fs ([], 0) ⟨[], 0, 0⟩ (zs := zs) ⟨rfl, rfl, by simp, by simp, ⟨rfl, by simp, .inl rfl⟩⟩
  exact ⟨this.g, this.k⟩

/-- Where nothing is lost: behind n things sent, n are got and known, or all. -/
theorem fast_run (zs : List Int) {W R : Nat} (hW : 1 ≤ W) (hR : W < R) (n : Nat) : gbnRun zs W R (List.replicate n (false, false)) = ⟨zs.take n, min n zs.length, min n zs.length⟩ := by
  induction n with
  | zero => simp [gbnRun]
  | succ n ih =>
    rw [List.replicate_succ', gbn_fold_snoc, ih]
    by_cases h : n < zs.length
    · rw [show min n zs.length = n from by omega, show min (n + 1) zs.length = n + 1 from by omega]
      have hnow : gbNow zs.length W ⟨zs.take n, n, n⟩ = n := by
        unfold gbNow
        show (if n = min (n + W) zs.length then n else n) = n
        split <;> rfl
      have hl : (zs.take n).length = n := by simp; omega
      have hg : gbGot zs R ⟨zs.take n, n, n⟩ n = zs.take (n + 1) := by
        unfold gbGot
        show (if n % R = (zs.take n).length % R then zs.take n ++ [zs.getD n 0] else zs.take n) = _
        rw [hl, if_pos rfl, take_snoc zs n h]
      have hl2 : (zs.take (n + 1)).length = n + 1 := by simp; omega
      have hd : gbD R (zs.take (n + 1)) n = 1 := by
        unfold gbD; rw [hl2, show n + 1 - n = 1 from by omega, Nat.mod_eq_of_lt (by omega)]
      unfold gbnStep
      rw [if_neg (by show ¬ n = zs.length; omega), if_neg (by decide), if_neg (by decide), hnow, hg, hd, if_pos ⟨by omega, by show n + 1 ≤ zs.length; omega⟩]
      show GbS.mk _ _ (max (n + 1) (n + 1)) = _
      rw [Nat.max_self]
    · rw [show min n zs.length = zs.length from by omega, show min (n + 1) zs.length = zs.length from by omega]
      unfold gbnStep
      rw [if_pos rfl, List.take_of_length_le (by omega), List.take_of_length_le (by omega)]
end Go.Proofs.Ytnkcjkemhdigpaa
