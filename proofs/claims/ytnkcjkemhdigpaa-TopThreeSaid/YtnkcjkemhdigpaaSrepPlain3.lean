/- More of what srep.Run computes: bounds, and the loops a step at a time. -/
import Derived.Test.YtnkcjkemhdigpaaSrepPlain2
namespace Go.Proofs.Ytnkcjkemhdigpaa.Sr
set_option linter.unusedSimpArgs false
set_option linter.unusedVariables false

theorem adv_len (n W : Nat) (dn : List Bool) (k : Nat) : ∀ s : Nat × List Nat, (adv n W dn k s).2.length ≤ s.2.length + k := by
  induction k with
  | zero => intro s; simp [adv]
  | succ k ih =>
    intro s
    simp only [adv]
    split
    · have := ih (s.1 + 1, if s.1 + W < n then s.2 ++ [s.1 + W] else s.2)
      have h2 : (if s.1 + W < n then s.2 ++ [s.1 + W] else s.2).length ≤ s.2.length + 1 := by split <;> simp
      simp only at this
      omega
    · omega
theorem step_ql {D : List Int} {W R : Nat} {s : St} {f : Bool × Bool} : (step D W R s f).q.length ≤ s.q.length + D.length := by
  unfold step
  rcases hq : s.q with _ | ⟨now, q⟩
  · simp only [hq, List.length_nil]; omega
  · simp only [stepOn, List.length_cons]
    have ha : (ahead D.length W s q (mark D.length W R s now (f.1 || f.2)) (f.1 || f.2)).2.length ≤ q.length + D.length := by
      unfold ahead
      split
      · simp only; omega
      · have := adv_len D.length W (mark D.length W R s now (f.1 || f.2)) (D.length - s.known) (s.known, q)
        simp only at this
        omega
    split
    · omega
    · simp only [List.length_append, List.length_cons, List.length_nil]; omega
theorem run_ql (D : List Int) (W R : Nat) (fs : List (Bool × Bool)) : (run D W R fs).q.length ≤ D.length + fs.length * D.length := by
  have : ∀ k, (run D W R (fs.take k)).q.length ≤ D.length + (fs.take k).length * D.length := by
    intro k
    induction k with
    | zero => simp [run, start]; omega
    | succ k ih =>
      rcases Nat.lt_or_ge k fs.length with hk | hk
      · rw [List.take_succ_eq_append_getElem hk, run_snoc, List.length_append, List.length_cons, List.length_nil, Nat.zero_add, Nat.add_mul, Nat.one_mul]
        have := step_ql (D := D) (W := W) (R := R) (s := run D W R (fs.take k)) (f := fs[k])
        omega
      · rw [List.take_of_length_le (by omega)]
        rw [List.take_of_length_le (by omega)] at ih
        exact ih
  have h := this fs.length
  rwa [List.take_length] at h

/-- All values are of the data. -/
def Vals (P : Int → Prop) (s : List Int × (Nat → Option Int)) : Prop := (∀ x ∈ s.1, P x) ∧ ∀ i v, s.2 i = some v → P v
theorem drain_vals {P : Int → Prop} (k : Nat) : ∀ s, Vals P s → Vals P (drain k s) := by
  induction k with
  | zero => intro s h; exact h
  | succ k ih =>
    intro s h
    simp only [drain]
    split
    · exact h
    · rename_i v hv
      refine ih _ ⟨fun x hx => ?_, fun i u hi => ?_⟩
      · rcases List.mem_append.1 hx with h1 | h1
        · exact h.1 x h1
        · simp only [List.mem_singleton] at h1; rw [h1]; exact h.2 _ v hv
      · simp only [put] at hi
        split at hi
        · simp at hi
        · exact h.2 i u hi
theorem hold_vals {P : Int → Prop} {D : List Int} {W R : Nat} {s : St} {now : Nat} (hD : ∀ k, P (D.getD k 0)) (h : Vals P (s.got, s.held)) : Vals P (s.got, hold D W R s now) := by
  refine ⟨h.1, fun i v hi => ?_⟩
  unfold hold at hi
  rcases hf : find (now % R) R s.got.length W with _ | a
  · rw [hf] at hi; exact h.2 i v hi
  · rw [hf] at hi
    simp only [put] at hi
    split at hi
    · simp only [Option.some.injEq] at hi; rw [← hi]; exact hD now
    · exact h.2 i v hi
theorem step_vals {P : Int → Prop} {D : List Int} {W R : Nat} {s : St} {f : Bool × Bool} (hD : ∀ k, P (D.getD k 0)) (h : Vals P (s.got, s.held)) : Vals P ((step D W R s f).got, (step D W R s f).held) := by
  unfold step
  rcases hq : s.q with _ | ⟨now, q⟩
  · exact h
  · simp only [stepOn]
    show Vals P (recv D W R s now f.1)
    unfold recv
    split
    · exact h
    · exact drain_vals W _ (hold_vals hD h)
theorem run_vals {P : Int → Prop} (D : List Int) (W R : Nat) (fs : List (Bool × Bool)) (hD : ∀ k, P (D.getD k 0)) : Vals P ((run D W R fs).got, (run D W R fs).held) := by
  have : ∀ (fs : List (Bool × Bool)) s, Vals P (s.got, s.held) → Vals P ((fs.foldl (step D W R) s).got, (fs.foldl (step D W R) s).held) := by
    intro fs
    induction fs with
    | nil => intro s h; exact h
    | cons f fs ih => intro s h; exact ih _ (step_vals hD h)
  exact this fs _ ⟨fun x hx => by simp [start] at hx, fun i v hi => by simp [start] at hi⟩

theorem drain_none (k : Nat) (g : List Int) (h : Nat → Option Int) (hn : h g.length = none) : drain k (g, h) = (g, h) := by
  cases k with
  | zero => rfl
  | succ k => simp only [drain, hn]
theorem drain_some (k : Nat) (g : List Int) (h : Nat → Option Int) (v : Int) (hv : h g.length = some v) : drain (k + 1) (g, h) = drain k (g ++ [v], put h g.length none) := by
  simp only [drain, hv]
theorem adv_go {n W : Nat} {dn : List Bool} {kn : Nat} {q : List Nat} (h1 : kn < n) (h2 : dn.getD kn false = true) : adv n W dn (n - kn) (kn, q) = adv n W dn (n - (kn + 1)) (kn + 1, if kn + W < n then q ++ [kn + W] else q) := by
  rw [show n - kn = (n - (kn + 1)) + 1 from by omega]
  simp only [adv]
  rw [if_pos ⟨h1, h2⟩]
theorem adv_end {n W : Nat} {dn : List Bool} {kn : Nat} {q : List Nat} (h1 : kn ≤ n) (h2 : kn = n ∨ dn.getD kn false = false) : adv n W dn (n - kn) (kn, q) = (kn, q) := by
  rcases Nat.lt_or_ge kn n with h | h
  · rw [show n - kn = (n - (kn + 1)) + 1 from by omega]
    simp only [adv]
    rw [if_neg]
    rintro ⟨_, h3⟩
    rcases h2 with h2 | h2
    · omega
    · rw [h2] at h3; simp at h3
  · rw [show n - kn = 0 from by omega]; rfl
theorem run_split (D : List Int) (W R : Nat) (fs : List (Bool × Bool)) (k : Nat) : run D W R fs = (fs.drop k).foldl (step D W R) (run D W R (fs.take k)) := by
  unfold run; rw [← List.foldl_append, List.take_append_drop]
theorem run_stay {D : List Int} {W R : Nat} (fs : List (Bool × Bool)) (s : St) (h : s.q = []) : fs.foldl (step D W R) s = s := by
  induction fs with
  | nil => rfl
  | cons f fs ih => rw [List.foldl_cons, show step D W R s f = s from by unfold step; rw [h]]; exact ih
end Go.Proofs.Ytnkcjkemhdigpaa.Sr
