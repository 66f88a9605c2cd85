/- BucketBound returns true for every input: the plain law. -/
import Derived.Test.YthnpbcnnpmohaaaBuckF
namespace Go.Proofs.Ythnpbcnnpmohaaa.bucketBound
open Go.RowKit
set_option linter.unusedSimpArgs false
set_option linter.unusedVariables false

/-- The sum of the first j. -/
def pre : List Int → Nat → Int
  | _, 0 => 0
  | [], _ + 1 => 0
  | m :: l, j + 1 => m + pre l j
theorem pre_snoc_lt (l : List Int) (m : Int) (j : Nat) (h : j ≤ l.length) : pre (l ++ [m]) j = pre l j := by
  induction l generalizing j with
  | nil => have : j = 0 := by simpa using h
           subst this; rfl
  | cons x l ih =>
    cases j with
    | zero => rfl
    | succ j => show x + pre (l ++ [m]) j = x + pre l j; rw [ih j (by simpa using h)]
theorem pre_snoc (l : List Int) (m : Int) : pre (l ++ [m]) (l.length + 1) = pre l l.length + m := by
  induction l with
  | nil => show m + 0 = 0 + m; omega
  | cons x l ih => show x + pre (l ++ [m]) (l.length + 1) = x + pre l l.length + m; rw [ih]; omega
theorem pre_step (l : List Int) (k : Nat) (h : k < l.length) : pre l (k + 1) = pre l k + l.getD k 0 := by
  induction l generalizing k with
  | nil => simp at h
  | cons x l ih =>
    cases k with
    | zero => show x + pre l 0 = pre (x :: l) 0 + x; cases l <;> (show x + 0 = 0 + x; omega)
    | succ k => show x + pre l (k + 1) = x + pre l k + l.getD k 0; rw [ih k (by simpa using h)]; omega

/-- What was taken so far: at which times, how much; l, h: since when, how much there is. -/
structure Good (r d h l : Int) (ats ms : List Int) : Prop where
  len : ats.length = ms.length
  at0 : ∀ k, 0 ≤ ats.getD k 0 ∧ ats.getD k 0 ≤ 1000
  m0 : ∀ k, 0 ≤ ms.getD k 0 ∧ ms.getD k 0 ≤ 100
  two : ∀ i k, i ≤ k → k < ms.length → pre ms (k + 1) - pre ms i ≤ d + r * (ats.getD k 0 - ats.getD i 0)
  now : ∀ i, i < ms.length → pre ms ms.length - pre ms i + h ≤ d + r * (l - ats.getD i 0)
theorem good_nil (r d : Int) : Good r d d 0 [] [] := ⟨rfl, by intro k; simp, by intro k; simp, by intro i k _ h; simp at h, by intro i h; simp at h⟩
theorem getD_snoc_lt (l : List Int) (x : Int) (k : Nat) (h : k < l.length) : (l ++ [x]).getD k 0 = l.getD k 0 := by
  simp only [List.getD_eq_getElem?_getD, List.getElem?_append_left h]
theorem getD_snoc_eq (l : List Int) (x : Int) : (l ++ [x]).getD l.length 0 = x := by
  simp [List.getD_eq_getElem?_getD]
theorem getD_snoc_gt (l : List Int) (x : Int) (k : Nat) (h : l.length < k) : (l ++ [x]).getD k 0 = 0 := by
  rw [List.getD_eq_getElem?_getD, List.getElem?_eq_none (by simp; omega)]; rfl
theorem getD_snoc_P (P : Int → Prop) (l : List Int) (x : Int) (h0 : P 0) (hx : P x) (h : ∀ k, P (l.getD k 0)) (k : Nat) : P ((l ++ [x]).getD k 0) := by
  rcases Nat.lt_trichotomy k l.length with hk | hk | hk
  · rw [getD_snoc_lt l x k hk]; exact h k
  · subst hk; rw [getD_snoc_eq]; exact hx
  · rw [getD_snoc_gt l x k hk]; exact h0
theorem mul_shift (r a l t : Int) : r * (t - a) = r * (l - a) + r * (t - l) := by
  rw [← Int.mul_add]; congr 1; omega
theorem fill_le (r d h l t : Int) : fillB r d h l t ≤ d ∧ fillB r d h l t ≤ h + r * (t - l) := by unfold fillB; omega
theorem good_wait {r d h l : Int} {ats ms : List Int} (g : Good r d h l ats ms) (t : Int) : Good r d (fillB r d h l t) t ats ms := by
  refine ⟨g.len, g.at0, g.m0, g.two, fun i hi => ?_⟩
  have h1 := g.now i hi
  have h2 := (fill_le r d h l t).2
  have h3 := mul_shift r (ats.getD i 0) l t
  omega
theorem good_take {r d h t m : Int} {ats ms : List Int} (g : Good r d h t ats ms) (ht : 0 ≤ t ∧ t ≤ 1000) (hm : 0 ≤ m ∧ m ≤ 100) (hmh : m ≤ h) (hd : h ≤ d) : Good r d (h - m) t (ats ++ [t]) (ms ++ [m]) := by
  have hl := g.len
  refine ⟨by simp [g.len], getD_snoc_P (fun x => 0 ≤ x ∧ x ≤ 1000) _ _ (by omega) ht g.at0, getD_snoc_P (fun x => 0 ≤ x ∧ x ≤ 100) _ _ (by omega) hm g.m0, fun i k hik hk => ?_, fun i hi => ?_⟩
  · simp only [List.length_append, List.length_cons, List.length_nil] at hk
    rcases Nat.lt_or_ge k ms.length with h1 | h1
    · rw [pre_snoc_lt _ _ _ (by omega), pre_snoc_lt _ _ _ (by omega), getD_snoc_lt _ _ _ (by omega), getD_snoc_lt _ _ _ (by omega)]
      exact g.two i k hik h1
    · have hkk : k = ms.length := by omega
      subst hkk
      rw [pre_snoc, pre_snoc_lt _ _ _ (by omega)]
      rw [show (ats ++ [t]).getD ms.length 0 = t from by rw [← hl]; exact getD_snoc_eq _ _]
      rcases Nat.lt_or_ge i ms.length with h2 | h2
      · rw [getD_snoc_lt _ _ _ (by omega)]
        have := g.now i h2
        omega
      · have hii : i = ms.length := by omega
        subst hii
        rw [show (ats ++ [t]).getD ms.length 0 = t from by rw [← hl]; exact getD_snoc_eq _ _, show t - t = 0 from by omega, Int.mul_zero]
        omega
  · simp only [List.length_append, List.length_cons, List.length_nil] at hi ⊢
    rw [pre_snoc, pre_snoc_lt _ _ _ (by omega)]
    rcases Nat.lt_or_ge i ms.length with h2 | h2
    · rw [getD_snoc_lt _ _ _ (by omega)]
      have := g.now i h2
      omega
    · have hii : i = ms.length := by omega
      subst hii
      rw [show (ats ++ [t]).getD ms.length 0 = t from by rw [← hl]; exact getD_snoc_eq _ _, show t - t = 0 from by omega, Int.mul_zero]
      omega

/-- The two slices lie apart. -/
def Apart (v u : Value) : Prop := ∀ g, v.ownBlock = some g → u.ownBlock ≠ some g
theorem Apart.symm {v u : Value} (h : Apart v u) : Apart u v := fun g h1 h2 => h g h2 h1
theorem Apart.kept {v u : Value} (h : Apart v u) : u.ownBlock = none ∨ u.ownBlock ≠ v.ownBlock := by
  rcases hu : u.ownBlock with _ | g
  · exact .inl rfl
  · exact .inr (fun e => h g e.symm hu)
theorem Apart.next {v u : Value} {w : World} {base e size n : Nat} {xs : List Value} {g H n' cap : Nat} (h : Apart v u) (hu : w.ownsRow base e size u n xs) (hH : w.heap.size ≤ H) (hat : v.ownBlock = some g ∨ g = H) : Apart (.slice (some ⟨g, 0, none⟩) n' cap) u := by
  intro g' h1 h2
  simp [Value.ownBlock] at h1
  subst h1
  rcases hat with h3 | rfl
  · exact h g h3 h2
  · have := (hu.lt g h2).2
    omega
theorem info3 : (Try.prog.info? 3).map (fun i => (i.zero, i.size, i.bytes)) = some (some (.int .i64 0), 1, 8) := by kernel_rfl

end Go.Proofs.Ythnpbcnnpmohaaa.bucketBound
