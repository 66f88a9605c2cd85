/- What package curve computes, in plain Lean, and what its laws ask. -/
namespace Go.Proofs.YtikdpjedlbkkjaaDoor.Cv
set_option linter.unusedSimpArgs false
set_option linter.unusedVariables false

/-- The fold at t after k splits. -/
def fldN (f g : Nat → Int) (t : Nat) : Nat → Int
  | 0 => f 0 + g t
  | k + 1 => min (fldN f g t k) (f k + g (t - k))
def fld (f g : Nat → Int) (t : Nat) : Int := fldN f g t (t + 1)
theorem fldN_le (f g : Nat → Int) (t k : Nat) : ∀ s, s < k → fldN f g t k ≤ f s + g (t - s) := by
  induction k with
  | zero => intro s hs; omega
  | succ k ih =>
    intro s hs
    simp only [fldN]
    rcases Nat.lt_or_ge s k with h | h
    · have := ih s h; omega
    · obtain rfl : s = k := by omega
      omega
theorem fldN_mem (f g : Nat → Int) (t k : Nat) (hk : k ≤ t + 1) : ∃ s, s ≤ t ∧ fldN f g t k = f s + g (t - s) := by
  induction k with
  | zero => exact ⟨0, by omega, by simp [fldN]⟩
  | succ k ih =>
    obtain ⟨s, hs, e⟩ := ih (by omega)
    simp only [fldN]
    by_cases h : fldN f g t k ≤ f k + g (t - k)
    · exact ⟨s, hs, by omega⟩
    · exact ⟨k, by omega, by omega⟩
theorem fld_le (f g : Nat → Int) (t s : Nat) (h : s ≤ t) : fld f g t ≤ f s + g (t - s) := fldN_le f g t (t + 1) s (by omega)
theorem fld_mem (f g : Nat → Int) (t : Nat) : ∃ s, s ≤ t ∧ fld f g t = f s + g (t - s) := fldN_mem f g t (t + 1) (Nat.le_refl _)
theorem fld_eq {f g : Nat → Int} {t : Nat} {v : Int} (h1 : ∀ s, s ≤ t → v ≤ f s + g (t - s)) (h2 : ∃ s, s ≤ t ∧ v = f s + g (t - s)) : fld f g t = v := by
  obtain ⟨s, hs, e⟩ := h2
  obtain ⟨r, hr, e2⟩ := fld_mem f g t
  have := h1 r hr
  have := fld_le f g t s hs
  omega
theorem fld_comm (f g : Nat → Int) (t : Nat) : fld f g t = fld g f t := by
  refine fld_eq (fun s hs => ?_) ?_
  · have := fld_le g f t (t - s) (by omega)
    rw [show t - (t - s) = s from by omega] at this; omega
  · obtain ⟨s, hs, e⟩ := fld_mem g f t
    exact ⟨t - s, by omega, by rw [e, show t - (t - s) = s from by omega]; omega⟩
theorem fld_congr {f f' g g' : Nat → Int} {t : Nat} (h1 : ∀ s, s ≤ t → f s = f' s) (h2 : ∀ s, s ≤ t → g s = g' s) : fld f g t = fld f' g' t := by
  refine fld_eq (fun s hs => ?_) ?_
  · have := fld_le f' g' t s hs
    rw [h1 s hs, h2 (t - s) (by omega)]; exact this
  · obtain ⟨s, hs, e⟩ := fld_mem f' g' t
    exact ⟨s, hs, by rw [e, h1 s hs, h2 (t - s) (by omega)]⟩
theorem fld_assoc (f g h : Nat → Int) (t : Nat) : fld (fld f g) h t = fld f (fld g h) t := by
  refine fld_eq (fun s hs => ?_) ?_
  · obtain ⟨r, hr, e⟩ := fld_mem f g s
    have h1 := fld_le f (fld g h) t r (by omega)
    have h2 := fld_le g h (t - r) (s - r) (by omega)
    rw [show t - r - (s - r) = t - s from by omega] at h2
    omega
  · obtain ⟨r, hr, e⟩ := fld_mem f (fld g h) t
    obtain ⟨q, hq, e2⟩ := fld_mem g h (t - r)
    refine ⟨r + q, by omega, ?_⟩
    have h1 : fld f g (r + q) = f r + g q := by
      refine fld_eq (fun s hs => ?_) ⟨r, by omega, by rw [show r + q - r = q from by omega]⟩
      apply Classical.byContradiction
      intro hne
      have h3 := fld_le f (fld g h) t s (by omega)
      have h4 := fld_le g h (t - s) (r + q - s) (by omega)
      rw [show t - s - (r + q - s) = t - r - q from by omega] at h4
      omega
    rw [h1, e, e2, show t - (r + q) = t - r - q from by omega]; omega
def Mono (n : Nat) (f : Nat → Int) : Prop := ∀ i j, i ≤ j → j < n → f i ≤ f j
theorem fld_mono {f g : Nat → Int} {n : Nat} (hf : Mono n f) (hg : Mono n g) (t : Nat) (ht : t + 1 < n) : fld f g t ≤ fld f g (t + 1) := by
  obtain ⟨s, hs, e⟩ := fld_mem f g (t + 1)
  rcases Nat.lt_or_ge t s with h | h
  · have h1 := fld_le f g t t (Nat.le_refl _)
    have h2 := hf t s (by omega) (by omega)
    have h3 := hg (t - t) (t + 1 - s) (by omega) (by omega)
    omega
  · have h1 := fld_le f g t s h
    have h2 := hg (t - s) (t + 1 - s) (by omega) (by omega)
    omega
theorem fld_more (f g : Nat → Int) (t : Nat) (b : Int) : fld (fun k => f k + b) g t = fld f g t + b := by
  refine fld_eq (fun s hs => ?_) ?_
  · have := fld_le f g t s hs; omega
  · obtain ⟨s, hs, e⟩ := fld_mem f g t
    exact ⟨s, hs, by simp only [e]; omega⟩
theorem fldN_bounds {f g : Nat → Int} {n : Nat} {M : Int} (hf : ∀ k, k < n → 0 ≤ f k ∧ f k ≤ M) (hg : ∀ k, k < n → 0 ≤ g k ∧ g k ≤ M) (t k : Nat) (ht : t < n) (hk : k ≤ t + 1) : 0 ≤ fldN f g t k ∧ fldN f g t k ≤ 2 * M := by
  obtain ⟨s, hs, e⟩ := fldN_mem f g t k hk
  have := hf s (by omega)
  have := hg (t - s) (by omega)
  omega

/-- The backlog of the first k. -/
def bkN (f g : Nat → Int) : Nat → Int
  | 0 => 0
  | k + 1 => max (bkN f g k) (f k - g k)
theorem bkN_ge (f g : Nat → Int) (k : Nat) : 0 ≤ bkN f g k ∧ ∀ t, t < k → f t - g t ≤ bkN f g k := by
  induction k with
  | zero => exact ⟨Int.le_refl _, fun t ht => by omega⟩
  | succ k ih =>
    obtain ⟨h1, h2⟩ := ih
    simp only [bkN]
    refine ⟨by omega, fun t ht => ?_⟩
    rcases Nat.lt_or_ge t k with h | h
    · have := h2 t h; omega
    · obtain rfl : t = k := by omega
      omega
theorem bkN_le {f g : Nat → Int} {k : Nat} {v : Int} (h0 : 0 ≤ v) (h : ∀ t, t < k → f t - g t ≤ v) : bkN f g k ≤ v := by
  induction k with
  | zero => exact h0
  | succ k ih =>
    have h1 := ih (fun t ht => h t (by omega))
    have h2 := h k (by omega)
    simp only [bkN]; omega
theorem bkN_bounds {f g : Nat → Int} {n : Nat} {M : Int} (hM : 0 ≤ M) (hf : ∀ k, k < n → 0 ≤ f k ∧ f k ≤ M) (hg : ∀ k, k < n → 0 ≤ g k) (k : Nat) (hk : k ≤ n) : 0 ≤ bkN f g k ∧ bkN f g k ≤ M :=
  ⟨(bkN_ge f g k).1, bkN_le hM fun t ht => by have := hf t (by omega); have := hg t (by omega); omega⟩
theorem bkN_more {f g : Nat → Int} {n : Nat} {b : Int} (hb : 0 ≤ b) : bkN f g n ≤ bkN (fun k => f k + b) g n ∧ bkN (fun k => f k + b) g n ≤ bkN f g n + b := by
  have h1 := bkN_ge f g n
  have h2 := bkN_ge (fun k => f k + b) g n
  refine ⟨bkN_le h2.1 fun t ht => ?_, bkN_le (by omega) fun t ht => ?_⟩
  · have := h2.2 t ht; omega
  · have := h1.2 t ht; omega

/-- The first place from u on, of so many, with no less than x. -/
def fstU (g : Nat → Int) (x : Int) (u : Nat) : Nat → Option Nat
  | 0 => none
  | k + 1 => if x ≤ g u then some u else fstU g x (u + 1) k
theorem fstU_some {g : Nat → Int} {x : Int} : ∀ (k u : Nat) (v : Nat), fstU g x u k = some v → u ≤ v ∧ v < u + k ∧ x ≤ g v ∧ ∀ j, u ≤ j → j < v → g j < x := by
  intro k
  induction k with
  | zero => intro u v h; simp [fstU] at h
  | succ k ih =>
    intro u v h
    simp only [fstU] at h
    by_cases hx : x ≤ g u
    · rw [if_pos hx] at h
      cases h
      exact ⟨Nat.le_refl _, by omega, hx, fun j h1 h2 => by omega⟩
    · rw [if_neg hx] at h
      obtain ⟨h1, h2, h3, h4⟩ := ih (u + 1) v h
      refine ⟨by omega, by omega, h3, fun j hj1 hj2 => ?_⟩
      rcases Nat.lt_or_ge u j with h | h
      · exact h4 j h hj2
      · obtain rfl : j = u := by omega
        omega
theorem fstU_none {g : Nat → Int} {x : Int} : ∀ (k u : Nat), fstU g x u k = none → ∀ j, u ≤ j → j < u + k → g j < x := by
  intro k
  induction k with
  | zero => intro u h j h1 h2; omega
  | succ k ih =>
    intro u h j h1 h2
    simp only [fstU] at h
    by_cases hx : x ≤ g u
    · rw [if_pos hx] at h; simp at h
    · rw [if_neg hx] at h
      rcases Nat.lt_or_ge u j with h' | h'
      · exact ih (u + 1) h j (by omega) (by omega)
      · obtain rfl : j = u := by omega
        omega
theorem fstU_mk {g : Nat → Int} {x : Int} {k u v : Nat} (h1 : u ≤ v) (h2 : v < u + k) (h3 : x ≤ g v) (h4 : ∀ j, u ≤ j → j < v → g j < x) : fstU g x u k = some v := by
  rcases h : fstU g x u k with _ | v'
  · have := fstU_none k u h v h1 h2; omega
  · obtain ⟨a, b, c, d⟩ := fstU_some k u v' h
    rcases Nat.lt_trichotomy v v' with h' | h' | h'
    · have := d v h1 h'; omega
    · rw [h']
    · have := h4 v' a h'; omega
theorem fstU_mk_none {g : Nat → Int} {x : Int} {k u : Nat} (h : ∀ j, u ≤ j → j < u + k → g j < x) : fstU g x u k = none := by
  rcases h' : fstU g x u k with _ | v
  · rfl
  · obtain ⟨a, b, c, d⟩ := fstU_some k u v h'
    have := h v a b; omega
/-- The delay of the first k of n; none: something is never served. -/
def dlN (f g : Nat → Int) (n : Nat) : Nat → Option Nat
  | 0 => some 0
  | k + 1 => match dlN f g n k with
    | none => none
    | some m => match fstU g (f k) k (n - k) with
      | none => none
      | some u => some (max m (u - k))
theorem dlN_some {f g : Nat → Int} {n : Nat} : ∀ (k m : Nat), dlN f g n k = some m → ∀ t, t < k → ∃ u, t ≤ u ∧ u ≤ t + m ∧ u < n ∧ f t ≤ g u := by
  intro k
  induction k with
  | zero => intro m h t ht; omega
  | succ k ih =>
    intro m h t ht
    simp only [dlN] at h
    rcases h1 : dlN f g n k with _ | m1
    · rw [h1] at h; simp at h
    rw [h1] at h
    rcases h2 : fstU g (f k) k (n - k) with _ | u
    · rw [h2] at h; simp at h
    rw [h2] at h
    simp only [Option.some.injEq] at h
    rcases Nat.lt_or_ge t k with h' | h'
    · obtain ⟨u', a, b, c, d⟩ := ih m1 h1 t h'
      exact ⟨u', a, by omega, c, d⟩
    · obtain rfl : t = k := by omega
      obtain ⟨a, b, c, d⟩ := fstU_some _ _ _ h2
      exact ⟨u, a, by omega, by omega, c⟩
theorem dlN_le {f g : Nat → Int} {n : Nat} : ∀ (k m : Nat), k ≤ n → dlN f g n k = some m → m ≤ n := by
  intro k
  induction k with
  | zero => intro m _ h; simp [dlN] at h; omega
  | succ k ih =>
    intro m hk h
    simp only [dlN] at h
    rcases h1 : dlN f g n k with _ | m1
    · rw [h1] at h; simp at h
    rw [h1] at h
    rcases h2 : fstU g (f k) k (n - k) with _ | u
    · rw [h2] at h; simp at h
    rw [h2] at h
    simp only [Option.some.injEq] at h
    have := ih m1 (by omega) h1
    obtain ⟨a, b, c, d⟩ := fstU_some _ _ _ h2
    omega
/-- No more comes than the curve lets. -/
def Fits (f c : Nat → Int) (n : Nat) : Prop := ∀ t, t < n → ∀ s, s ≤ t → f t - f s ≤ c (t - s)

theorem served_le {f c s : Nat → Int} {n : Nat} (hF : Fits f c n) (t : Nat) (ht : t < n) : f t - fld f s t ≤ bkN c s n := by
  obtain ⟨r, hr, e⟩ := fld_mem f s t
  have h1 := hF t ht r hr
  have h2 := (bkN_ge c s n).2 (t - r) (by omega)
  omega
theorem delay_le {f c s : Nat → Int} {n L : Nat} (hF : Fits f c n) (hf : Mono n f) (hs : Mono n s) (hs0 : ∀ k, k < n → 0 ≤ s k) (hL : dlN c s n n = some L) (t : Nat) (ht : t + L < n) : f t ≤ fld f s (t + L) := by
  obtain ⟨r, hr, e⟩ := fld_mem f s (t + L)
  rw [e]
  rcases Nat.lt_or_ge r t with h | h
  · have h1 := hF t (by omega) r (by omega)
    obtain ⟨u, a, b, c', d⟩ := dlN_some n L hL (t - r) (by omega)
    have h2 := hs u (t + L - r) (by omega) (by omega)
    omega
  · have h1 := hf t r h (by omega)
    have h2 := hs0 (t + L - r) (by omega)
    omega
end Go.Proofs.YtikdpjedlbkkjaaDoor.Cv
