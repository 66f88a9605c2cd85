/- What a bucket lets through fits its curve: the plain law. -/
import Derived.Test.YtikdpjedlbkkjaaBuckT
import Derived.Test.YtikdpjedlbkkjaaCurveF2
namespace Go.Proofs.Ytikdpjedlbkkjaa
open Go.RowKit
set_option linter.unusedSimpArgs false
set_option linter.unusedVariables false

theorem mul_one_more (r x : Int) : r * (x + 1) = r * x + r := by rw [Int.mul_add, Int.mul_one]
theorem snoc_at (cs : List Int) (x : Int) (k : Nat) (h : k < cs.length) : (cs ++ [x]).getD k 0 = cs.getD k 0 := by
  simp [List.getD_eq_getElem?_getD, List.getElem?_append_left h]
theorem snoc_end (cs : List Int) (x : Int) : (cs ++ [x]).getD cs.length 0 = x := by
  simp [List.getD_eq_getElem?_getD]
structure Shp (r d h l : Int) (t : Nat) (S : Int) (cs : List Int) : Prop where
  len : cs.length = t
  now : ∀ s : Nat, s < t → S - cs.getD s 0 + fillB r d h l t ≤ d + r * ((t : Int) - s)
  old : ∀ t' : Nat, t' < t → ∀ s : Nat, s ≤ t' → cs.getD t' 0 - cs.getD s 0 ≤ d + r * ((t' : Int) - s)
  top : S + fillB r d h l t ≤ d + r * t
  s0 : 0 ≤ S
  rise : ∀ k, k + 1 < t → cs.getD k 0 ≤ cs.getD (k + 1) 0
  last : ∀ k, k < t → 0 ≤ cs.getD k 0 ∧ cs.getD k 0 ≤ S
theorem Shp.start {r d : Int} (h0 : 0 ≤ d) : Shp r d d 0 0 0 [] := by
  refine ⟨rfl, fun s h => by omega, fun t h => by omega, ?_, Int.le_refl _, fun k h => by omega, fun k h => by omega⟩
  unfold fillB
  simp
theorem Shp.step {r d h l h' l' S n : Int} {t : Nat} {cs : List Int} (hs : Shp r d h l t S cs) (hr : 0 ≤ r) (hd : 0 ≤ d) (n0 : 0 ≤ n) (hn : n ≤ fillB r d h l t) (hf : fillB r d h' l' ((t : Int) + 1) ≤ fillB r d h l t - n + r) :
    Shp r d h' l' (t + 1) (S + n) (cs ++ [S + n]) := by
  have hl := hs.len
  have hfd : fillB r d h' l' ((t : Int) + 1) ≤ d := by unfold fillB; omega
  have e : ((t + 1 : Nat) : Int) = (t : Int) + 1 := by omega
  refine ⟨by simp [hl], fun s h => ?_, fun t' h s h2 => ?_, ?_, by have := hs.s0; omega, fun k h => ?_, fun k h => ?_⟩
  · rw [e, show (t : Int) + 1 - (s : Int) = ((t : Int) - s) + 1 from by omega, mul_one_more]
    rcases Nat.lt_or_ge s t with h3 | h3
    · rw [snoc_at _ _ _ (by omega)]
      have := hs.now s h3; omega
    · obtain rfl : s = cs.length := by omega
      rw [snoc_end, hl, Int.sub_self, Int.sub_self, Int.mul_zero]; omega
  · rcases Nat.lt_or_ge t' t with h3 | h3
    · rw [snoc_at _ _ _ (by omega), snoc_at _ _ _ (by omega)]
      exact hs.old t' h3 s h2
    · obtain rfl : t' = cs.length := by omega
      rw [snoc_end]
      rcases Nat.lt_or_ge s cs.length with h4 | h4
      · rw [snoc_at _ _ _ h4]
        have := hs.now s (by omega)
        rw [hl]; omega
      · obtain rfl : s = cs.length := by omega
        rw [snoc_end, Int.sub_self, Int.sub_self, Int.mul_zero]; omega
  · rw [e, mul_one_more]
    have := hs.top; omega
  · rcases Nat.lt_or_ge (k + 1) t with h3 | h3
    · rw [snoc_at _ _ _ (by omega), snoc_at _ _ _ (by omega)]
      exact hs.rise k h3
    · rw [snoc_at _ _ _ (by omega), show k + 1 = cs.length from by omega, snoc_end]
      have := hs.last k (by omega); omega
  · rcases Nat.lt_or_ge k t with h3 | h3
    · rw [snoc_at _ _ _ (by omega)]
      have := hs.last k h3; omega
    · rw [show k = cs.length from by omega, snoc_end]
      have := hs.s0; omega
/-- Nobody takes. -/
theorem fill_wait {r d h l : Int} {t : Nat} (hr : 0 ≤ r) : fillB r d h l ((t : Int) + 1) ≤ fillB r d h l t - 0 + r := by
  unfold fillB
  rw [show (t : Int) + 1 - l = ((t : Int) - l) + 1 from by omega, mul_one_more]; omega
theorem fill_took {r d f n : Int} {t : Nat} (hr : 0 ≤ r) : fillB r d (f - n) t ((t : Int) + 1) ≤ f - n + r := by
  unfold fillB
  rw [show (t : Int) + 1 - t = 0 + 1 from by omega, mul_one_more, Int.mul_zero]; omega
def limL (r d : Int) (n : Nat) : List Int := (List.range n).map fun k => d + r * (k : Nat)
theorem limL_len (r d : Int) (n : Nat) : (limL r d n).length = n := by simp [limL]
theorem limL_at (r d : Int) (n k : Nat) (h : k < n) : (limL r d n).getD k 0 = d + r * (k : Nat) := by simp [limL, List.getD_eq_getElem?_getD, h]
theorem limL_succ (r d : Int) (n : Nat) : limL r d (n + 1) = limL r d n ++ [d + r * (n : Nat)] := by simp [limL, List.range_succ]
theorem lim_bound {r : Int} (h0 : 0 ≤ r) (h1 : r ≤ 20) (k : Nat) (hk : k ≤ 16) : 0 ≤ r * (k : Int) ∧ r * (k : Int) ≤ 320 := by
  have := mul_bound h0 h1 (show (0 : Int) ≤ k by omega) (show (k : Int) ≤ 1000 by omega)
  refine ⟨this.1, ?_⟩
  have h2 := Int.mul_le_mul h1 (show (k : Int) ≤ 16 by omega) (by omega) (by omega)
  omega
theorem lim_curve {r d : Int} (h0 : 0 ≤ r) (h1 : r ≤ 20) (d0 : 0 ≤ d) (d1 : d ≤ 100) : Curve (limL r d 16) := by
  refine ⟨by simp [limL], by simp [limL], fun k hk => ?_, fun k hk => ?_⟩
  · rw [limL_len] at hk
    rw [limL_at _ _ _ _ hk]
    have := lim_bound h0 h1 k (by omega); omega
  · rw [limL_len] at hk
    rw [limL_at _ _ _ _ hk, limL_at _ _ _ _ (by omega), show ((k + 1 : Nat) : Int) = (k : Int) + 1 from by omega, mul_one_more]; omega
theorem shp_curve {r d h l S : Int} {cs : List Int} (hs : Shp r d h l 16 S cs) (h0 : 0 ≤ r) (h1 : r ≤ 20) (d0 : 0 ≤ d) (d1 : d ≤ 100) (hf : 0 ≤ fillB r d h l 16) : Curve cs := by
  have hl := hs.len
  refine ⟨by omega, by omega, fun k hk => ?_, fun k hk => hs.rise k (by omega)⟩
  have h2 := hs.last k (by omega)
  have h3 := hs.top
  have h4 := lim_bound h0 h1 16 (by omega)
  have h5 : ((16 : Nat) : Int) = 16 := rfl
  rw [h5] at h3 h4
  omega
theorem shp_fits {r d h l S : Int} {cs : List Int} (hs : Shp r d h l 16 S cs) : Cv.Fits (gD cs) (gD (limL r d 16)) 16 := by
  intro t ht s hst
  have h1 := hs.old t ht s hst
  have h2 := limL_at r d 16 (t - s) (by omega)
  unfold gD
  rw [h2, show ((t - s : Nat) : Int) = (t : Int) - s from by omega]; exact h1

/-- Two rows of the call's own that lie apart. -/
def Apt (v w : Value) : Prop := ∀ g, v.ownBlock = some g → w.ownBlock ≠ some g
theorem Apt.symm {v w : Value} (h : Apt v w) : Apt w v := fun g h1 h2 => h g h2 h1
theorem Apt.kept {v w : Value} (h : Apt v w) : w.ownBlock = none ∨ w.ownBlock ≠ v.ownBlock := by
  rcases hv : w.ownBlock with _ | g
  · exact .inl rfl
  · right; intro e; exact h g e.symm hv
theorem Apt.next {v w : Value} (h : Apt v w) {W : World} {b e size n n' g H c : Nat} {xs : List Value} (ho : W.ownsRow b e size w n xs) (hH : W.heap.size = H) (hat : v.ownBlock = some g ∨ g = H) : Apt (.slice (some ⟨g, 0, none⟩) n' c) w := by
  intro g' h1 h2
  simp only [Value.ownBlock, Option.some.injEq] at h1
  subst h1
  rcases hat with h3 | h3
  · exact h g h3 h2
  · have := (ho.lt g h2).2; omega
end Go.Proofs.Ytikdpjedlbkkjaa
