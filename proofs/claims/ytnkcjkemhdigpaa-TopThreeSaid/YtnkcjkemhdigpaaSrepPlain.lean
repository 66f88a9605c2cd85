/- What srep.Run computes, in plain Lean, and what its laws ask. -/
namespace Go.Proofs.Ytnkcjkemhdigpaa.Sr
set_option linter.unusedSimpArgs false
set_option linter.unusedVariables false

/-- The first place from u on, of so many, that leaves this rest. -/
def find (x R : Nat) (u : Nat) : Nat → Option Nat
  | 0 => none
  | k + 1 => if u % R = x then some u else find x R (u + 1) k
theorem find_some {x R : Nat} : ∀ (k u v : Nat), find x R u k = some v → u ≤ v ∧ v < u + k ∧ v % R = x := by
  intro k
  induction k with
  | zero => intro u v h; simp [find] at h
  | succ k ih =>
    intro u v h
    simp only [find] at h
    by_cases hx : u % R = x
    · rw [if_pos hx] at h; cases h; exact ⟨Nat.le_refl _, by omega, hx⟩
    · rw [if_neg hx] at h
      obtain ⟨h1, h2, h3⟩ := ih (u + 1) v h
      exact ⟨by omega, by omega, h3⟩
theorem find_none {x R : Nat} : ∀ (k u : Nat), find x R u k = none → ∀ j, u ≤ j → j < u + k → j % R ≠ x := by
  intro k
  induction k with
  | zero => intro u h j h1 h2; omega
  | succ k ih =>
    intro u h j h1 h2
    simp only [find] at h
    by_cases hx : u % R = x
    · rw [if_pos hx] at h; simp at h
    · rw [if_neg hx] at h
      rcases Nat.lt_or_ge u j with h' | h'
      · exact ih (u + 1) h j (by omega) (by omega)
      · obtain rfl : j = u := by omega
        exact hx
theorem mod_near {a b R : Nat} (h : a % R = b % R) (h1 : a ≤ b) (h2 : b < a + R) : a = b := by
  have e1 := Nat.div_add_mod a R
  have e2 := Nat.div_add_mod b R
  rw [h] at e1
  rcases Nat.lt_trichotomy (a / R) (b / R) with hq | hq | hq
  · have := Nat.mul_le_mul_left R (show a / R + 1 ≤ b / R from hq)
    rw [Nat.mul_add] at this; omega
  · rw [hq] at e1; omega
  · have := Nat.div_le_div_right (c := R) h1; omega
theorem find_this {R u k now : Nat} (hk : k ≤ R) (h1 : u ≤ now) (h2 : now < u + k) : find (now % R) R u k = some now := by
  rcases h : find (now % R) R u k with _ | v
  · exact absurd rfl (find_none k u h now h1 h2)
  · obtain ⟨a, b, c⟩ := find_some k u v h
    rcases Nat.le_total v now with hle | hle
    · rw [mod_near c hle (by omega)]
    · rw [mod_near c.symm hle (by omega)]
theorem find_not {R u k now : Nat} (h1 : now < u) (h2 : u + k ≤ now + R) : find (now % R) R u k = none := by
  rcases h : find (now % R) R u k with _ | v
  · rfl
  · obtain ⟨a, b, c⟩ := find_some k u v h
    have := mod_near c.symm (show now ≤ v by omega) (by omega)
    omega

structure St where
  got : List Int
  known : Nat
  q : List Nat
  done : List Bool
  held : Nat → Option Int

def put (h : Nat → Option Int) (i : Nat) (v : Option Int) : Nat → Option Int := fun j => if j = i then v else h j
def drain : Nat → List Int × (Nat → Option Int) → List Int × (Nat → Option Int)
  | 0, s => s
  | k + 1, s => match s.2 s.1.length with
    | none => s
    | some v => drain k (s.1 ++ [v], put s.2 s.1.length none)
def adv (n W : Nat) (done : List Bool) : Nat → Nat × List Nat → Nat × List Nat
  | 0, s => s
  | k + 1, s => if s.1 < n ∧ done.getD s.1 false = true then adv n W done k (s.1 + 1, if s.1 + W < n then s.2 ++ [s.1 + W] else s.2) else s
def hold (D : List Int) (W R : Nat) (s : St) (now : Nat) : Nat → Option Int :=
  match find (now % R) R s.got.length W with
    | none => s.held
    | some at_ => put s.held at_ (some (D.getD now 0))
/-- What is received, behind 'now' has come. -/
def recv (D : List Int) (W R : Nat) (s : St) (now : Nat) (there : Bool) : List Int × (Nat → Option Int) :=
  if there then (s.got, s.held) else drain W (s.got, hold D W R s now)
def mark (n W R : Nat) (s : St) (now : Nat) (lost : Bool) : List Bool :=
  if lost then s.done else match find (now % R) R s.known W with
    | none => s.done
    | some at_ => if at_ < n then s.done.set at_ true else s.done
def ahead (n W : Nat) (s : St) (q : List Nat) (dn : List Bool) (lost : Bool) : Nat × List Nat :=
  if lost then (s.known, q) else adv n W dn (n - s.known) (s.known, q)
def stepOn (D : List Int) (W R : Nat) (s : St) (now : Nat) (q : List Nat) (f : Bool × Bool) : St :=
  let dn := mark D.length W R s now (f.1 || f.2)
  let a := ahead D.length W s q dn (f.1 || f.2)
  ⟨(recv D W R s now f.1).1, a.1, if dn.getD now false then a.2 else a.2 ++ [now], dn, (recv D W R s now f.1).2⟩
def step (D : List Int) (W R : Nat) (s : St) (f : Bool × Bool) : St :=
  match s.q with
  | [] => s
  | now :: q => stepOn D W R s now q f
def start (n W : Nat) : St := ⟨[], 0, List.range (min W n), List.replicate n false, fun _ => none⟩
def run (D : List Int) (W R : Nat) (fs : List (Bool × Bool)) : St := fs.foldl (step D W R) (start D.length W)
theorem run_snoc (D : List Int) (W R : Nat) (fs : List (Bool × Bool)) (f : Bool × Bool) : run D W R (fs ++ [f]) = step D W R (run D W R fs) f := by
  simp [run, List.foldl_append]

/-! What always holds. -/
structure Ok (n W m : Nat) (s : St) : Prop where
  kn : s.known ≤ n
  qn : ∀ i ∈ s.q, i < n
  dn : s.done.length = n
  hb : ∀ i, s.held i ≠ none → i < s.got.length + W
  gm : s.got.length ≤ m + m * W
theorem drain_len (k : Nat) : ∀ s : List Int × (Nat → Option Int), s.1.length ≤ (drain k s).1.length ∧ (drain k s).1.length ≤ s.1.length + k := by
  induction k with
  | zero => intro s; exact ⟨Nat.le_refl _, by simp [drain]⟩
  | succ k ih =>
    intro s
    simp only [drain]
    split
    · exact ⟨Nat.le_refl _, by omega⟩
    · rename_i v hv
      have := ih (s.1 ++ [v], put s.2 s.1.length none)
      simp only [List.length_append, List.length_cons, List.length_nil] at this
      omega
theorem drain_held (k : Nat) (K : Nat) : ∀ s : List Int × (Nat → Option Int), (∀ i, s.2 i ≠ none → i < K) → ∀ i, (drain k s).2 i ≠ none → i < K := by
  induction k with
  | zero => intro s h; exact h
  | succ k ih =>
    intro s h
    simp only [drain]
    split
    · exact h
    · refine ih _ fun i hi => h i ?_
      simp only [put] at hi
      split at hi
      · exact absurd rfl hi
      · exact hi
/-- Nothing is left to be drained. -/
theorem drain_stop (k : Nat) : ∀ s : List Int × (Nat → Option Int), (∀ i, s.2 i ≠ none → i < s.1.length + k) → (drain k s).2 (drain k s).1.length = none := by
  induction k with
  | zero =>
    intro s h
    apply Classical.byContradiction
    intro hne
    have := h _ hne
    simp [drain] at this
  | succ k ih =>
    intro s h
    simp only [drain]
    split
    · assumption
    · rename_i v hv
      refine ih _ fun i hi => ?_
      simp only [put] at hi
      split at hi
      · exact absurd rfl hi
      · have := h i hi
        simp only [List.length_append, List.length_cons, List.length_nil]; omega
theorem adv_ok (n W : Nat) (done : List Bool) (k : Nat) : ∀ s : Nat × List Nat, s.1 ≤ n → (∀ i ∈ s.2, i < n) → (adv n W done k s).1 ≤ n ∧ (∀ i ∈ (adv n W done k s).2, i < n) := by
  induction k with
  | zero => intro s h1 h2; exact ⟨h1, h2⟩
  | succ k ih =>
    intro s h1 h2
    simp only [adv]
    split
    · rename_i h
      refine ih _ (by simp only; omega) fun i hi => ?_
      simp only at hi
      split at hi
      · rcases List.mem_append.1 hi with h3 | h3
        · exact h2 i h3
        · simp only [List.mem_singleton] at h3; omega
      · exact h2 i hi
    · exact ⟨h1, h2⟩
theorem hold_held {D : List Int} {W R : Nat} {s : St} {now : Nat} (h : ∀ i, s.held i ≠ none → i < s.got.length + W) : ∀ i, hold D W R s now i ≠ none → i < s.got.length + W := by
  intro i hi
  unfold hold at hi
  rcases hf : find (now % R) R s.got.length W with _ | a
  · rw [hf] at hi; exact h i hi
  · rw [hf] at hi
    simp only [put] at hi
    split at hi
    · have := find_some _ _ _ hf; omega
    · exact h i hi
theorem recv_ok {D : List Int} {W R : Nat} {s : St} {now : Nat} (there : Bool) (h : ∀ i, s.held i ≠ none → i < s.got.length + W) :
    (∀ i, (recv D W R s now there).2 i ≠ none → i < (recv D W R s now there).1.length + W) ∧ s.got.length ≤ (recv D W R s now there).1.length ∧ (recv D W R s now there).1.length ≤ s.got.length + W := by
  unfold recv
  split
  · exact ⟨h, Nat.le_refl _, by simp only; omega⟩
  · have h1 := drain_len W (s.got, hold D W R s now)
    refine ⟨fun i hi => ?_, h1.1, h1.2⟩
    have h2 := drain_held W _ _ (hold_held (D := D) (R := R) (now := now) h) i hi
    have h3 := h1.1
    simp only at h3
    omega
theorem mark_len {n W R : Nat} {s : St} {now : Nat} (lost : Bool) (h : s.done.length = n) : (mark n W R s now lost).length = n := by
  unfold mark
  split
  · exact h
  · split
    · exact h
    · split
      · simpa using h
      · exact h
theorem ahead_ok {n W : Nat} {s : St} {q : List Nat} {dn : List Bool} (lost : Bool) (h1 : s.known ≤ n) (h2 : ∀ i ∈ q, i < n) : (ahead n W s q dn lost).1 ≤ n ∧ ∀ i ∈ (ahead n W s q dn lost).2, i < n := by
  unfold ahead
  split
  · exact ⟨h1, h2⟩
  · exact adv_ok _ _ _ _ _ h1 h2
theorem start_ok (n W : Nat) : Ok n W 0 (start n W) :=
  ⟨Nat.zero_le _, fun i hi => by simp [start] at hi; omega, by simp [start], fun i hi => by simp [start] at hi, by simp [start]⟩
theorem stepOn_ok {D : List Int} {W R m : Nat} {s : St} {now : Nat} {q : List Nat} (h : Ok D.length W m s) (hq : s.q = now :: q) (f : Bool × Bool) : Ok D.length W (m + 1) (stepOn D W R s now q f) := by
  have hqn : ∀ i ∈ q, i < D.length := fun i hi => h.qn i (by rw [hq]; simp [hi])
  have hnow : now < D.length := h.qn now (by rw [hq]; simp)
  have hr := recv_ok (D := D) (R := R) (now := now) f.1 h.hb
  have hm := mark_len (W := W) (R := R) (now := now) (f.1 || f.2) h.dn
  have ha := ahead_ok (W := W) (dn := mark D.length W R s now (f.1 || f.2)) (f.1 || f.2) h.kn hqn
  have hg := h.gm
  unfold stepOn
  refine ⟨ha.1, fun i hi => ?_, hm, hr.1, ?_⟩
  · simp only at hi
    split at hi
    · exact ha.2 i hi
    · rcases List.mem_append.1 hi with h3 | h3
      · exact ha.2 i h3
      · simp only [List.mem_singleton] at h3; omega
  · have h2 := hr.2.2
    simp only
    rw [Nat.add_mul]; omega
theorem step_ok {D : List Int} {W R m : Nat} {s : St} (h : Ok D.length W m s) (f : Bool × Bool) : Ok D.length W (m + 1) (step D W R s f) := by
  unfold step
  rcases hq : s.q with _ | ⟨now, q⟩
  · exact ⟨h.kn, h.qn, h.dn, h.hb, by have := h.gm; rw [Nat.add_mul]; simp only; omega⟩
  · exact stepOn_ok h hq f
theorem run_ok (D : List Int) (W R : Nat) (fs : List (Bool × Bool)) : Ok D.length W fs.length (run D W R fs) := by
  have : ∀ k, Ok D.length W (fs.take k).length (run D W R (fs.take k)) := by
    intro k
    induction k with
    | zero => exact start_ok _ _
    | succ k ih =>
      rcases Nat.lt_or_ge k fs.length with hk | hk
      · rw [List.take_succ_eq_append_getElem hk, run_snoc, List.length_append]
        exact step_ok ih _
      · rw [List.take_of_length_le (by omega)]
        rw [List.take_of_length_le (by omega)] at ih
        exact ih
  have h := this fs.length
  rwa [List.take_length] at h
end Go.Proofs.Ytnkcjkemhdigpaa.Sr
