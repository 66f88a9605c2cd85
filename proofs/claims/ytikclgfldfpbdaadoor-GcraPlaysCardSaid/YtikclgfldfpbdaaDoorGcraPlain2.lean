/- The gate by times and the leaking bucket: the plain laws. -/
import Derived.Test.YtikclgfldfpbdaaDoorGcraPlain
namespace Go.Proofs.YtikclgfldfpbdaaDoor
set_option linter.unusedSimpArgs false
set_option linter.unusedVariables false

theorem tm_cons {l t : Int} {r : List Int} (h : tmE l (t :: r) = 0) : 0 ≤ t ∧ t ≤ 1000 ∧ l ≤ t ∧ tmE t r = 0 := by
  unfold tmE at h
  by_cases h1 : t < 0 ∨ 1000 < t
  · rw [if_pos h1] at h; omega
  · rw [if_neg h1] at h
    by_cases h2 : t < l
    · rw [if_pos h2] at h; omega
    · rw [if_neg h2] at h; exact ⟨by omega, by omega, by omega, h⟩
theorem leak_zero {st sl : Int} {ts : List Int} (h : leakE st sl ts = 0) : 1 ≤ st ∧ st ≤ 20 ∧ 0 ≤ sl ∧ sl ≤ 100 ∧ ts.length ≤ 200 ∧ tmE 0 ts = 0 := by
  unfold leakE at h
  by_cases h1 : (1 ≤ st ∧ st ≤ 20) ∧ (0 ≤ sl ∧ sl ≤ 100)
  · rw [if_pos h1] at h
    by_cases h2 : 200 < ts.length
    · rw [if_pos h2] at h; omega
    · rw [if_neg h2] at h; exact ⟨h1.1.1, h1.1.2, h1.2.1, h1.2.2, by omega, h⟩
  · rw [if_neg h1] at h; omega
/-- When one more would come in time. -/
def gnStep (st sl : Int) (nx t : Int) : Int := if nx - sl ≤ t then max t nx + st else nx
def gnRun (st sl : Int) (ts : List Int) : Int := ts.foldl (gnStep st sl) 0
theorem gn_snoc (st sl : Int) (ts : List Int) (t : Int) : gnRun st sl (ts ++ [t]) = gnStep st sl (gnRun st sl ts) t := by
  unfold gnRun; rw [List.foldl_append]; rfl
theorem lk_gn {st sl nx t : Int} {s : LkS} (h : s.level = max 0 (nx - s.last)) (hl : s.last ≤ t) (hs : 1 ≤ st) (h0 : 0 ≤ sl) :
    (lkLev s t ≤ sl ↔ nx - sl ≤ t) ∧ (lkStep st sl s t).level = max 0 (gnStep st sl nx t - t) ∧ (lkStep st sl s t).last = t ∧ (lkStep st sl s t).out = s.out ++ [decide (nx - sl ≤ t)] := by
  have hv : lkLev s t = max 0 (nx - t) := by unfold lkLev; rw [h]; omega
  have hi : lkLev s t ≤ sl ↔ nx - sl ≤ t := by rw [hv]; omega
  refine ⟨hi, ?_⟩
  unfold lkStep gnStep
  by_cases hc : nx - sl ≤ t
  · rw [if_pos (hi.2 hc), if_pos hc]
    refine ⟨?_, rfl, by simp [hc]⟩
    show lkLev s t + st = _
    rw [hv]; omega
  · rw [if_neg (fun h => hc (hi.1 h)), if_neg hc]
    refine ⟨?_, rfl, by simp [hc]⟩
    show lkLev s t = _
    rw [hv]
/-- At every prefix. -/
theorem lk_at {st sl : Int} {ts : List Int} (hE : tmE 0 ts = 0) (hs : 1 ≤ st) (h0 : 0 ≤ sl) (k : Nat) (hk : k ≤ ts.length) :
    (lkRun st sl (ts.take k)).level = max 0 (gnRun st sl (ts.take k) - (lkRun st sl (ts.take k)).last) ∧ tmE (lkRun st sl (ts.take k)).last (ts.drop k) = 0 ∧ (lkRun st sl (ts.take k)).out.length = k := by
  induction k with
  | zero => exact ⟨by simp [lkRun, gnRun], by simpa [lkRun] using hE, rfl⟩
  | succ k ih =>
    obtain ⟨h1, h2, h3⟩ := ih (by omega)
    rw [drop_cons_int ts k (by omega)] at h2
    obtain ⟨t0, t1, t2, t3⟩ := tm_cons h2
    rw [take_succ_int ts k (by omega), lk_snoc, gn_snoc]
    obtain ⟨_, g2, g3, g4⟩ := lk_gn (st := st) h1 t2 hs h0
    rw [g3, g4]
    exact ⟨g2, t3, by simp [h3]⟩
theorem tm_at {st sl : Int} {ts : List Int} (hE : tmE 0 ts = 0) (hs : 1 ≤ st) (h0 : 0 ≤ sl) (k : Nat) (hk : k < ts.length) : 0 ≤ ts.getD k 0 ∧ ts.getD k 0 ≤ 1000 := by
  obtain ⟨_, h2, _⟩ := lk_at (sl := sl) hE hs h0 k (by omega)
  rw [drop_cons_int ts k (by omega)] at h2
  obtain ⟨t0, t1, _, _⟩ := tm_cons h2
  exact ⟨t0, t1⟩
theorem lk_pre (st sl : Int) (rest : List Int) : ∀ s : LkS, ∃ tl, (rest.foldl (lkStep st sl) s).out = s.out ++ tl := by
  induction rest with
  | nil => intro s; exact ⟨[], by simp⟩
  | cons t rest ih =>
    intro s
    obtain ⟨tl, h⟩ := ih (lkStep st sl s t)
    have hx : ∃ b, (lkStep st sl s t).out = s.out ++ [b] := by unfold lkStep; split <;> exact ⟨_, rfl⟩
    obtain ⟨b, hb⟩ := hx
    exact ⟨b :: tl, by rw [List.foldl_cons, h, hb, List.append_assoc]; rfl⟩
theorem lk_out {st sl : Int} {ts : List Int} (hE : tmE 0 ts = 0) (hs : 1 ≤ st) (h0 : 0 ≤ sl) (k : Nat) (hk : k < ts.length) : (lkRun st sl ts).out.getD k false = decide (gnRun st sl (ts.take k) - sl ≤ ts.getD k 0) := by
  obtain ⟨h1, h2, h3⟩ := lk_at hE hs h0 k (by omega)
  rw [drop_cons_int ts k (by omega)] at h2
  obtain ⟨t0, t1, t2, t3⟩ := tm_cons h2
  obtain ⟨_, _, _, g4⟩ := lk_gn (st := st) h1 t2 hs h0
  have hsp : lkRun st sl ts = (ts.drop (k + 1)).foldl (lkStep st sl) (lkRun st sl (ts.take (k + 1))) := by
    unfold lkRun; rw [← List.foldl_append, List.take_append_drop]
  obtain ⟨tl, htl⟩ := lk_pre st sl (ts.drop (k + 1)) (lkRun st sl (ts.take (k + 1)))
  rw [hsp, htl, take_succ_int ts k (by omega), lk_snoc, g4]
  simp only [List.getD_eq_getElem?_getD, List.append_assoc]
  rw [List.getElem?_append_right (by omega), h3, Nat.sub_self]
  rfl
theorem gn_succ (st sl : Int) (ts : List Int) (k : Nat) (hk : k < ts.length) : gnRun st sl (ts.take (k + 1)) = gnStep st sl (gnRun st sl (ts.take k)) (ts.getD k 0) := by
  rw [take_succ_int ts k hk, gn_snoc]
theorem gn_bound {st sl : Int} {ts : List Int} (hE : tmE 0 ts = 0) (h : 1 ≤ st ∧ st ≤ 20) (h2 : 0 ≤ sl ∧ sl ≤ 100) (k : Nat) (hk : k ≤ ts.length) : 0 ≤ gnRun st sl (ts.take k) ∧ gnRun st sl (ts.take k) ≤ 1120 := by
  induction k with
  | zero => simp [gnRun]
  | succ k ih =>
    have hi := ih (by omega)
    obtain ⟨_, h4, _⟩ := lk_at hE h.1 h2.1 k (by omega)
    rw [drop_cons_int ts k (by omega)] at h4
    obtain ⟨t0, t1, _, _⟩ := tm_cons h4
    rw [gn_succ st sl ts k (by omega)]
    unfold gnStep
    split <;> omega
/-- How many may come among the first k. -/
def mayN (bs : List Bool) : Nat → Nat
  | 0 => 0
  | k + 1 => mayN bs k + if bs.getD k false = true then 1 else 0
theorem mayN_le (bs : List Bool) (i k : Nat) (h : i ≤ k) : mayN bs i ≤ mayN bs k ∧ mayN bs k ≤ mayN bs i + (k - i) := by
  induction k with
  | zero => have : i = 0 := by omega
            subst this; omega
  | succ k ih =>
    rcases Nat.lt_or_ge k i with h1 | h1
    · have : i = k + 1 := by omega
      subst this; omega
    · have := ih h1
      show mayN bs i ≤ mayN bs k + (if bs.getD k false = true then 1 else 0) ∧ mayN bs k + (if bs.getD k false = true then 1 else 0) ≤ mayN bs i + (k + 1 - i)
      split <;> omega
theorem rate_low {st sl : Int} {ts : List Int} (hE : tmE 0 ts = 0) (hs : 1 ≤ st) (h0 : 0 ≤ sl) (i k : Nat) (hi : i < k) (hk : k ≤ ts.length) (hb : (lkRun st sl ts).out.getD i false = true) :
    ts.getD i 0 + (mayN (lkRun st sl ts).out k - mayN (lkRun st sl ts).out i : Int) * st ≤ gnRun st sl (ts.take k) := by
  induction k with
  | zero => omega
  | succ k ih =>
    rw [gn_succ st sl ts k (by omega)]
    have ho := lk_out hE hs h0 k (by omega)
    have hd := mayN_le (lkRun st sl ts).out i k (by omega)
    rcases Nat.lt_or_ge i k with h1 | h1
    · have hh := ih h1 (by omega)
      show ts.getD i 0 + ((mayN (lkRun st sl ts).out k + (if (lkRun st sl ts).out.getD k false = true then 1 else 0) : Nat) - mayN (lkRun st sl ts).out i : Int) * st ≤ _
      rw [ho]
      unfold gnStep
      generalize (mayN (lkRun st sl ts).out k) = m at *
      generalize (mayN (lkRun st sl ts).out i) = n at *
      by_cases hc : gnRun st sl (ts.take k) - sl ≤ ts.getD k 0
      · rw [if_pos hc, if_pos (by simpa using hc)]
        rw [show ((m + 1 : Nat) - n : Int) = (m - n : Int) + 1 from by omega, Int.add_mul, Int.one_mul]
        omega
      · rw [if_neg hc, if_neg (by simpa using hc)]
        exact hh
    · have hik : i = k := by omega
      subst hik
      show ts.getD i 0 + ((mayN (lkRun st sl ts).out i + (if (lkRun st sl ts).out.getD i false = true then 1 else 0) : Nat) - mayN (lkRun st sl ts).out i : Int) * st ≤ _
      rw [if_pos hb]
      rw [ho] at hb
      unfold gnStep
      rw [if_pos (by simpa using hb), show ((mayN (lkRun st sl ts).out i + 1 : Nat) - mayN (lkRun st sl ts).out i : Int) = 1 from by omega, Int.one_mul]
      omega
theorem rate_at {st sl : Int} {ts : List Int} (hE : tmE 0 ts = 0) (hs : 1 ≤ st) (h0 : 0 ≤ sl) (i k : Nat) (hik : i ≤ k) (hk : k < ts.length) (hb : (lkRun st sl ts).out.getD i false = true) (hb2 : (lkRun st sl ts).out.getD k false = true) :
    ts.getD i 0 + (mayN (lkRun st sl ts).out k - mayN (lkRun st sl ts).out i : Int) * st - sl ≤ ts.getD k 0 := by
  rcases Nat.lt_or_ge i k with h1 | h1
  · have := rate_low hE hs h0 i k h1 (by omega) hb
    rw [lk_out hE hs h0 k hk] at hb2
    have h2 := of_decide_eq_true hb2
    omega
  · have : i = k := by omega
    subst this
    rw [Int.sub_self, Int.zero_mul]; omega
/-- All times so much later: the same. -/
theorem shift_fold (st sl d : Int) (hd : 0 ≤ d) (ts : List Int) : ∀ (l : Int) (s s' : LkS), tmE s.last ts = 0 → s.level = s'.level → s.out = s'.out → (s'.last = s.last + d ∨ (s.level = 0 ∧ s'.last ≤ s.last + d)) →
    (ts.foldl (lkStep st sl) s).out = ((ts.map (· + d)).foldl (lkStep st sl) s').out := by
  induction ts with
  | nil => intro l s s' _ _ h _; exact h
  | cons t r ih =>
    intro l s s' he hv ho hl
    obtain ⟨t0, t1, t2, t3⟩ := tm_cons he
    have hlev : lkLev s t = lkLev s' (t + d) := by unfold lkLev; omega
    rw [List.map_cons, List.foldl_cons, List.foldl_cons]
    refine ih t _ _ ?_ ?_ ?_ ?_ <;> unfold lkStep <;> rw [hlev] <;> split
    · exact t3
    · exact t3
    · rfl
    · rfl
    · show s.out ++ _ = s'.out ++ _; rw [ho]
    · show s.out ++ _ = s'.out ++ _; rw [ho]
    · left; rfl
    · left; rfl
theorem shift_run (st sl d : Int) (hd : 0 ≤ d) (ts : List Int) (hE : tmE 0 ts = 0) : (lkRun st sl ts).out = (lkRun st sl (ts.map (· + d))).out :=
  shift_fold st sl d hd ts 0 ⟨0, 0, []⟩ ⟨0, 0, []⟩ hE rfl rfl (.inr ⟨rfl, by show (0 : Int) ≤ 0 + d; omega⟩)
theorem shift_tm (d : Int) (ts : List Int) : ∀ l l', tmE l ts = 0 → l' ≤ l + d → (∀ t ∈ ts, 0 ≤ t + d ∧ t + d ≤ 1000) → tmE l' (ts.map (· + d)) = 0 := by
  induction ts with
  | nil => intros; rfl
  | cons t r ih =>
    intro l l' he hl h
    obtain ⟨t0, t1, t2, t3⟩ := tm_cons he
    have h1 := h t (by simp)
    rw [List.map_cons]
    unfold tmE
    rw [if_neg (by omega), if_neg (by omega)]
    exact ih t (t + d) t3 (Int.le_refl _) (fun x hx => h x (by simp [hx]))
end Go.Proofs.YtikclgfldfpbdaaDoor
