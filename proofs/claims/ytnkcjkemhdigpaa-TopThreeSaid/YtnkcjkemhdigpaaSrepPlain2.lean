/- What holds of srep.Run where there are twice as many numbers as are ahead. -/
import Derived.Test.YtnkcjkemhdigpaaSrepPlain
namespace Go.Proofs.Ytnkcjkemhdigpaa.Sr
set_option linter.unusedSimpArgs false
set_option linter.unusedVariables false

/-- What is held, and what is received, while it is drained. -/
structure Dr (D : List Int) (K : Nat) (rec : Nat → Prop) (s : List Int × (Nat → Option Int)) : Prop where
  pre : s.1 = D.take s.1.length
  len : s.1.length ≤ D.length
  top : s.1.length ≤ K
  held : ∀ i v, s.2 i = some v → s.1.length ≤ i ∧ i < D.length ∧ i < K ∧ v = D.getD i 0
  rc : ∀ i, rec i ↔ (i < s.1.length ∨ s.2 i ≠ none)
theorem drain_dr {D : List Int} {K : Nat} {rec : Nat → Prop} (k : Nat) : ∀ s, Dr D K rec s → Dr D K rec (drain k s) := by
  induction k with
  | zero => intro s h; exact h
  | succ k ih =>
    intro s h
    simp only [drain]
    split
    · exact h
    · rename_i v hv
      obtain ⟨h1, h2, h3, h4⟩ := h.held _ _ hv
      refine ih _ ⟨?_, ?_, ?_, fun i u hi => ?_, fun i => ?_⟩
      · simp only [List.length_append, List.length_cons, List.length_nil, Nat.zero_add]
        rw [List.take_succ_eq_append_getElem h2, ← h.pre, h4]
        simp [List.getD_eq_getElem?_getD, h2]
      · simp; omega
      · simp; omega
      · simp only [put] at hi
        split at hi
        · simp at hi
        · obtain ⟨g1, g2, g3, g4⟩ := h.held i u hi
          refine ⟨?_, g2, g3, g4⟩
          simp only [List.length_append, List.length_cons, List.length_nil]; omega
      · rw [h.rc i]
        simp only [List.length_append, List.length_cons, List.length_nil, put]
        by_cases e : i = s.1.length
        · subst e
          rw [if_pos rfl]
          exact ⟨fun _ => Or.inl (by omega), fun _ => Or.inr (by rw [hv]; simp)⟩
        · rw [if_neg e]
          exact ⟨fun h => h.elim (fun h => Or.inl (by omega)) Or.inr, fun h => h.elim (fun h => Or.inl (by omega)) Or.inr⟩

/-- What adv makes. -/
theorem adv_is {n W : Nat} {dn : List Bool} (k : Nat) : ∀ s : Nat × List Nat, s.1 ≤ n → n - s.1 ≤ k → (∀ i ∈ s.2, i < s.1 + W) → s.2.Nodup →
    s.1 ≤ (adv n W dn k s).1 ∧ (adv n W dn k s).1 ≤ n ∧ (∀ i, s.1 ≤ i → i < (adv n W dn k s).1 → dn.getD i false = true) ∧ ((adv n W dn k s).1 = n ∨ dn.getD (adv n W dn k s).1 false = false) ∧
    (∀ j, j ∈ (adv n W dn k s).2 ↔ (j ∈ s.2 ∨ (s.1 + W ≤ j ∧ j < (adv n W dn k s).1 + W ∧ j < n))) ∧ (adv n W dn k s).2.Nodup := by
  induction k with
  | zero =>
    intro s h1 h2 h3 h4
    refine ⟨Nat.le_refl _, h1, fun i a b => ?_, Or.inl (by simp only [adv]; omega), fun j => ?_, h4⟩
    · simp only [adv] at b; omega
    · simp only [adv]
      exact ⟨Or.inl, fun h => h.elim id (fun ⟨a, b, _⟩ => by omega)⟩
  | succ k ih =>
    intro s h1 h2 h3 h4
    simp only [adv]
    by_cases hc : s.1 < n ∧ dn.getD s.1 false = true
    · rw [if_pos hc]
      obtain ⟨hc1, hc2⟩ := hc
      have hq : (∀ i ∈ (if s.1 + W < n then s.2 ++ [s.1 + W] else s.2), i < s.1 + 1 + W) ∧ (if s.1 + W < n then s.2 ++ [s.1 + W] else s.2).Nodup := by
        split
        · refine ⟨fun i hi => ?_, ?_⟩
          · rcases List.mem_append.1 hi with h | h
            · have := h3 i h; omega
            · simp only [List.mem_singleton] at h; omega
          · rw [List.nodup_append]
            refine ⟨h4, by simp, fun x hx y hy e => ?_⟩
            simp only [List.mem_singleton] at hy
            have := h3 x hx; omega
        · exact ⟨fun i hi => by have := h3 i hi; omega, h4⟩
      obtain ⟨a1, a2, a3, a4, a5, a6⟩ := ih (s.1 + 1, if s.1 + W < n then s.2 ++ [s.1 + W] else s.2) (by simp only; omega) (by simp only; omega) hq.1 hq.2
      generalize adv n W dn k (s.1 + 1, if s.1 + W < n then s.2 ++ [s.1 + W] else s.2) = A at *
      simp only at a1 a3 a5
      refine ⟨by omega, a2, fun i h5 h6 => ?_, a4, fun j => ?_, a6⟩
      · rcases Nat.lt_or_ge s.1 i with h | h
        · exact a3 i (by omega) h6
        · rw [show i = s.1 from by omega]; exact hc2
      · rw [a5 j]
        by_cases hw : s.1 + W < n
        · rw [if_pos hw, List.mem_append, List.mem_singleton]
          constructor
          · rintro ((h | h) | ⟨h5, h6, h7⟩)
            · exact Or.inl h
            · exact Or.inr ⟨by omega, by omega, by omega⟩
            · exact Or.inr ⟨by omega, by omega, by omega⟩
          · rintro (h | ⟨h5, h6, h7⟩)
            · exact Or.inl (Or.inl h)
            · by_cases e : j = s.1 + W
              · exact Or.inl (Or.inr e)
              · exact Or.inr ⟨by omega, by omega, by omega⟩
        · rw [if_neg hw]
          constructor
          · rintro (h | ⟨h5, h6, h7⟩)
            · exact Or.inl h
            · exact Or.inr ⟨by omega, by omega, by omega⟩
          · rintro (h | ⟨h5, h6, h7⟩)
            · exact Or.inl h
            · omega
    · rw [if_neg hc]
      refine ⟨Nat.le_refl _, h1, fun i a b => by omega, ?_, fun j => ⟨Or.inl, fun h => h.elim id (fun ⟨a, b, _⟩ => by omega)⟩, h4⟩
      by_cases he : s.1 = n
      · exact Or.inl he
      · right
        cases hd : dn.getD s.1 false
        · rfl
        · exact absurd ⟨by omega, hd⟩ hc

structure Ex (D : List Int) (W : Nat) (s : St) : Prop where
  dr : Dr D (s.known + W) (fun i => i < s.got.length ∨ s.held i ≠ none) (s.got, s.held)
  next : s.held s.got.length = none
  kn : s.known ≤ s.got.length
  kd : s.known ≤ D.length
  dl : s.done.length = D.length
  dd : ∀ i, s.done.getD i false = true → i < s.got.length ∨ s.held i ≠ none
  dk : ∀ i, i < s.known → s.done.getD i false = true
  k0 : s.known = D.length ∨ s.done.getD s.known false = false
  q1 : ∀ i ∈ s.q, s.known ≤ i ∧ i < s.known + W ∧ i < D.length ∧ s.done.getD i false = false
  q2 : ∀ i, s.known ≤ i → i < s.known + W → i < D.length → s.done.getD i false = false → i ∈ s.q
  nd : s.q.Nodup

theorem start_ex (D : List Int) (W : Nat) (hW : 1 ≤ W) : Ex D W (start D.length W) := by
  have hf : ∀ i, (List.replicate D.length false).getD i false = false := fun i => by
    simp only [List.getD_eq_getElem?_getD, List.getElem?_replicate]; split <;> rfl
  refine ⟨⟨by simp [start], by simp [start], by simp [start], fun i v h => by simp [start] at h, fun i => Iff.rfl⟩, rfl, Nat.le_refl _, Nat.zero_le _, by simp [start], fun i h => ?_, fun i h => by simp [start] at h, ?_, fun i hi => ?_, fun i h1 h2 h3 h4 => ?_, List.nodup_range⟩
  · simp only [start] at h; rw [hf] at h; exact absurd h (by simp)
  · right; exact hf 0
  · simp only [start, List.mem_range] at hi
    exact ⟨Nat.zero_le _, by simp only [start]; omega, by omega, hf i⟩
  · simp only [start, List.mem_range] at h2 ⊢; omega
theorem set_at {l : List Bool} {i j : Nat} (hi : i < l.length) : (l.set i true).getD j false = if i = j then true else l.getD j false := by
  simp only [List.getD_eq_getElem?_getD, List.getElem?_set]
  by_cases e : i = j
  · subst e; simp [hi]
  · simp [e]
/-- What comes is held, or known to be got. -/
theorem hold_dr {D : List Int} {W R : Nat} {s : St} (h : Ex D W s) (hWR : 2 * W ≤ R) {now : Nat} (h1 : s.known ≤ now) (h2 : now < s.known + W) (h3 : now < D.length) :
    Dr D (s.known + W) (fun i => i = now ∨ (i < s.got.length ∨ s.held i ≠ none)) (s.got, hold D W R s now) := by
  have hd := h.dr
  have ht := hd.top
  simp only at ht
  have hkn := h.kn
  unfold hold
  rcases Nat.lt_or_ge now s.got.length with hl | hl
  · rw [find_not hl (by omega)]
    refine ⟨hd.pre, hd.len, hd.top, hd.held, fun i => ?_⟩
    simp only
    exact ⟨fun h => h.elim (fun e => Or.inl (by omega)) id, Or.inr⟩
  · rw [find_this (by omega) hl (by omega)]
    refine ⟨hd.pre, hd.len, hd.top, fun i v hi => ?_, fun i => ?_⟩
    · simp only [put] at hi
      split at hi
      · rename_i e
        simp only [Option.some.injEq] at hi
        rw [e]
        exact ⟨hl, h3, h2, by rw [← hi]⟩
      · exact hd.held i v hi
    · simp only [put]
      by_cases e : i = now
      · rw [if_pos e]; exact ⟨fun _ => Or.inr (by simp), fun _ => Or.inl e⟩
      · rw [if_neg e]; exact ⟨fun h => h.elim (fun h => absurd h e) id, Or.inr⟩
theorem stepOn_ex {D : List Int} {W R : Nat} {s : St} (h : Ex D W s) (hW : 1 ≤ W) (hWR : 2 * W ≤ R) {now : Nat} {q : List Nat} (hq : s.q = now :: q) (f : Bool × Bool) : Ex D W (stepOn D W R s now q f) := by
  obtain ⟨n1, n2, n3, n4⟩ := h.q1 now (by rw [hq]; simp)
  have hnd := h.nd
  rw [hq, List.nodup_cons] at hnd
  obtain ⟨hnq, hqd⟩ := hnd
  have hq1 : ∀ i ∈ q, s.known ≤ i ∧ i < s.known + W ∧ i < D.length ∧ s.done.getD i false = false := fun i hi => h.q1 i (by rw [hq]; simp [hi])
  have hkn := h.kn
  -- what is received
  have hr : ∃ rec : Nat → Prop, Dr D (s.known + W) rec (recv D W R s now f.1) ∧ (recv D W R s now f.1).2 (recv D W R s now f.1).1.length = none ∧ (∀ i, (i < s.got.length ∨ s.held i ≠ none) → rec i) ∧ (f.1 = false → rec now) ∧ s.got.length ≤ (recv D W R s now f.1).1.length := by
    unfold recv
    cases f.1
    · have hdr := drain_dr W _ (hold_dr h hWR n1 n2 n3)
      refine ⟨_, hdr, ?_, fun i hi => Or.inr hi, fun _ => Or.inl rfl, by simpa using (drain_len W (s.got, hold D W R s now)).1⟩
      refine drain_stop W _ fun i hi => ?_
      rcases hx : hold D W R s now i with _ | v
      · exact absurd hx hi
      · have := ((hold_dr h hWR n1 n2 n3).held i v hx).2.2.1
        simp only; omega
    · exact ⟨_, h.dr, h.next, fun i hi => hi, fun h => by simp at h, Nat.le_refl _⟩
  obtain ⟨rec, hdr, hnx, hold1, hnew, hgl⟩ := hr
  have hdl := h.dl
  have hka : ∀ kn' (dn : List Bool), (∀ i, i < kn' → dn.getD i false = true) → (∀ i, dn.getD i false = true → rec i) → kn' ≤ (recv D W R s now f.1).1.length := fun kn' dn h1 h2 => by
    apply Classical.byContradiction
    intro hne
    have h3 := (hdr.rc _).1 (h2 _ (h1 (recv D W R s now f.1).1.length (by omega)))
    rcases h3 with h3 | h3
    · omega
    · exact h3 hnx
  have hdm : ∀ K, s.known + W ≤ K → Dr D K (fun i => i < (recv D W R s now f.1).1.length ∨ (recv D W R s now f.1).2 i ≠ none) ((recv D W R s now f.1).1, (recv D W R s now f.1).2) := fun K hK =>
    ⟨hdr.pre, hdr.len, Nat.le_trans hdr.top hK, fun i v hi => by obtain ⟨a, b, c, d⟩ := hdr.held i v hi; exact ⟨a, b, by omega, d⟩, fun i => Iff.rfl⟩
  by_cases hl : (f.1 || f.2) = true
  · have em : mark D.length W R s now (f.1 || f.2) = s.done := by unfold mark; rw [if_pos hl]
    have ea : ahead D.length W s q s.done (f.1 || f.2) = (s.known, q) := by unfold ahead; rw [if_pos hl]
    unfold stepOn
    simp only [em, ea, n4]
    refine ⟨hdm _ (Nat.le_refl _), hnx, by simp only; omega, h.kd, h.dl, fun i hi => (hdr.rc i).1 (hold1 i (h.dd i hi)), h.dk, h.k0, fun i hi => ?_, fun i h1 h2 h3 h4 => ?_, ?_⟩
    · simp only [Bool.false_eq_true, if_false] at hi
      rcases List.mem_append.1 hi with h3 | h3
      · exact hq1 i h3
      · simp only [List.mem_singleton] at h3; subst h3; exact ⟨n1, n2, n3, n4⟩
    · have := h.q2 i h1 h2 h3 h4
      rw [hq] at this
      simp only [Bool.false_eq_true, if_false, List.mem_append, List.mem_singleton]
      rcases List.mem_cons.1 this with h5 | h5
      · exact Or.inr h5
      · exact Or.inl h5
    · simp only [Bool.false_eq_true, if_false]
      rw [List.nodup_append]
      refine ⟨hqd, by simp, fun x hx y hy e => ?_⟩
      simp only [List.mem_singleton] at hy
      subst hy; subst e; exact hnq hx
  · have hl2 : (f.1 || f.2) = false := by simpa using hl
    have hf1 : f.1 = false := by cases h1 : f.1 <;> simp [h1] at hl2 ⊢
    have hnl : now < s.done.length := by rw [hdl]; exact n3
    have em : mark D.length W R s now (f.1 || f.2) = s.done.set now true := by
      unfold mark; rw [if_neg hl, find_this (by omega) n1 n2]; simp [n3]
    have hset := fun j => set_at (l := s.done) (j := j) hnl
    have ea : ahead D.length W s q (s.done.set now true) (f.1 || f.2) = adv D.length W (s.done.set now true) (D.length - s.known) (s.known, q) := by unfold ahead; rw [if_neg hl]
    obtain ⟨a1, a2, a3, a4, a5, a6⟩ := adv_is (n := D.length) (W := W) (dn := s.done.set now true) (D.length - s.known) (s.known, q) h.kd (Nat.le_refl _) (fun i hi => (hq1 i hi).2.1) hqd
    simp only at a1 a3 a5
    unfold stepOn
    simp only [em, ea]
    generalize adv D.length W (s.done.set now true) (D.length - s.known) (s.known, q) = A at *
    have hrec : ∀ i, (s.done.set now true).getD i false = true → rec i := fun i hi => by
      rw [hset] at hi
      by_cases e : now = i
      · rw [← e]; exact hnew hf1
      · rw [if_neg e] at hi; exact hold1 i (h.dd i hi)
    have hlow : ∀ i, rec i → i < s.known + W := fun i hi => by
      rcases (hdr.rc i).1 hi with h1 | h1
      · have := hdr.top; omega
      · rcases hx : (recv D W R s now f.1).2 i with _ | v
        · exact absurd hx h1
        · exact (hdr.held i v hx).2.2.1
    have hall : ∀ i, i < A.1 → (s.done.set now true).getD i false = true := fun i hi => by
      rcases Nat.lt_or_ge i s.known with h1 | h1
      · rw [hset]
        split
        · rfl
        · exact h.dk i h1
      · exact a3 i h1 hi
    have hdt : (s.done.set now true).getD now false = true := by rw [hset]; simp
    have hAW : A.1 ≤ s.known + W := by
      rcases Nat.lt_or_ge (s.known + W) A.1 with h1 | h1
      · have := hlow _ (hrec _ (hall _ h1)); omega
      · exact h1
    refine ⟨hdm _ (by simp only; omega), hnx, hka _ _ hall hrec, a2, by simpa using hdl, fun i hi => (hdr.rc i).1 (hrec i hi), hall, a4, fun i hi => ?_, fun i h1 h2 h3 h4 => ?_, ?_⟩
    · simp only [hdt, if_true] at hi
      show A.1 ≤ i ∧ i < A.1 + W ∧ i < D.length ∧ (s.done.set now true).getD i false = false
      rcases (a5 i).1 hi with h1 | ⟨h1, h2, h3⟩
      · obtain ⟨b1, b2, b3, b4⟩ := hq1 i h1
        have hne : now ≠ i := fun e => hnq (by rw [e]; exact h1)
        have hfi : (s.done.set now true).getD i false = false := by rw [hset, if_neg hne]; exact b4
        refine ⟨?_, by omega, b3, hfi⟩
        rcases Nat.lt_or_ge i A.1 with h5 | h5
        · rw [hall i h5] at hfi; exact absurd hfi (by simp)
        · exact h5
      · refine ⟨by omega, h2, h3, ?_⟩
        cases hd : (s.done.set now true).getD i false
        · rfl
        · have := hlow i (hrec i hd); omega
    · simp only [hdt, if_true]
      have h1 : A.1 ≤ i := h1
      have h2 : i < A.1 + W := h2
      refine (a5 i).2 ?_
      rcases Nat.lt_or_ge i (s.known + W) with h5 | h5
      · left
        have hne : now ≠ i := fun e => by rw [← e, hdt] at h4; exact absurd h4 (by simp)
        rw [hset, if_neg hne] at h4
        have := h.q2 i (by omega) h5 h3 h4
        rw [hq] at this
        rcases List.mem_cons.1 this with h6 | h6
        · exact absurd h6.symm hne
        · exact h6
      · exact Or.inr ⟨h5, h2, h3⟩
    · simp only [hdt, if_true]
      exact a6
theorem step_ex {D : List Int} {W R : Nat} {s : St} (h : Ex D W s) (hW : 1 ≤ W) (hWR : 2 * W ≤ R) (f : Bool × Bool) : Ex D W (step D W R s f) := by
  unfold step
  rcases hq : s.q with _ | ⟨now, q⟩
  · exact h
  · exact stepOn_ex h hW hWR hq f
theorem run_ex (D : List Int) {W R : Nat} (hW : 1 ≤ W) (hWR : 2 * W ≤ R) (fs : List (Bool × Bool)) : Ex D W (run D W R fs) := by
  have : ∀ (fs : List (Bool × Bool)) s, Ex D W s → Ex D W (fs.foldl (step D W R) s) := by
    intro fs
    induction fs with
    | nil => intro s h; exact h
    | cons f fs ih => intro s h; exact ih _ (step_ex h hW hWR f)
  exact this fs _ (start_ex D W hW)

def fine : List (Bool × Bool) → Nat
  | [] => 0
  | f :: fs => (if f.1 = false ∧ f.2 = false then 1 else 0) + fine fs
theorem fine_snoc (fs : List (Bool × Bool)) (f : Bool × Bool) : fine (fs ++ [f]) = fine fs + if f.1 = false ∧ f.2 = false then 1 else 0 := by
  induction fs with
  | nil => simp [fine]
  | cons g fs ih => simp only [List.cons_append, fine, ih]; omega
theorem count_set {l : List Bool} {i : Nat} (hi : i < l.length) (h : l.getD i false = false) : (l.set i true).count true = l.count true + 1 := by
  induction l generalizing i with
  | nil => simp at hi
  | cons b l ih =>
    cases i with
    | zero => simp at h; subst h; simp
    | succ i =>
      have := ih (i := i) (by simpa using hi) (by simpa using h)
      simp only [List.set_cons_succ, List.count_cons, this]; omega
theorem count_full {l : List Bool} (h : ∀ i, i < l.length → l.getD i false = true) : l.count true = l.length := by
  induction l with
  | nil => rfl
  | cons b l ih =>
    have h0 := h 0 (by simp)
    simp at h0; subst h0
    have := ih (fun i hi => by have := h (i + 1) (by simpa using hi); simpa using this)
    simp [this]
theorem count_lt {l : List Bool} {i : Nat} (hi : i < l.length) (h : l.getD i false = false) : l.count true < l.length := by
  have h1 := count_set hi h
  have h2 := List.count_le_length (a := true) (l := l.set i true)
  simp only [List.length_set] at h2
  omega
theorem count_first {l : List Bool} {k : Nat} (hk : k ≤ l.length) (h : ∀ i, i < k → l.getD i false = true) : k ≤ l.count true := by
  have h1 := count_full (l := l.take k) (fun i hi => by
    simp only [List.length_take] at hi
    have := h i (by omega)
    simp only [List.getD_eq_getElem?_getD] at this ⊢
    rw [List.getElem?_take_of_lt (by omega)]; exact this)
  have h2 : (l.take k).count true ≤ l.count true := List.Sublist.count_le true (List.take_sublist k l)
  simp only [List.length_take] at h1
  omega
theorem Ex.empty {D : List Int} {W : Nat} {s : St} (h : Ex D W s) (hW : 1 ≤ W) (hq : s.q = []) : s.known = D.length := by
  rcases h.k0 with h1 | h1
  · exact h1
  · rcases Nat.lt_or_ge s.known D.length with h2 | h2
    · have := h.q2 s.known (Nat.le_refl _) (by omega) h2 h1
      rw [hq] at this; simp at this
    · have := h.kd; omega
theorem run_count (D : List Int) {W R : Nat} (hW : 1 ≤ W) (hWR : 2 * W ≤ R) (fs : List (Bool × Bool)) : (run D W R fs).done.count true = min (fine fs) D.length := by
  have hgen : ∀ k, (run D W R (fs.take k)).done.count true = min (fine (fs.take k)) D.length := by
    intro k
    induction k with
    | zero => simp [run, start, fine, List.count_replicate]
    | succ k ih =>
      rcases Nat.lt_or_ge k fs.length with hk | hk
      · rw [List.take_succ_eq_append_getElem hk, run_snoc, fine_snoc]
        have hex := run_ex D hW hWR (fs.take k)
        generalize run D W R (fs.take k) = s at *
        generalize fs[k] = f at *
        unfold step
        rcases hq : s.q with _ | ⟨now, q⟩
        · have h1 := hex.empty hW hq
          have h2 := count_full (l := s.done) (fun i hi => hex.dk i (by rw [h1, ← hex.dl]; exact hi))
          have h3 := hex.dl
          simp only
          omega
        · obtain ⟨n1, n2, n3, n4⟩ := hex.q1 now (by rw [hq]; simp)
          have hlt := count_lt (l := s.done) (i := now) (by rw [hex.dl]; exact n3) n4
          rw [hex.dl] at hlt
          show (mark D.length W R s now (f.1 || f.2)).count true = _
          by_cases hl : (f.1 || f.2) = true
          · have em : mark D.length W R s now (f.1 || f.2) = s.done := by unfold mark; rw [if_pos hl]
            rw [em, if_neg (by rintro ⟨h1, h2⟩; rw [h1, h2] at hl; simp at hl)]
            omega
          · have hl2 : f.1 = false ∧ f.2 = false := by cases h1 : f.1 <;> cases h2 : f.2 <;> simp [h1, h2] at hl ⊢
            have em : mark D.length W R s now (f.1 || f.2) = s.done.set now true := by
              unfold mark; rw [if_neg hl, find_this (by omega) n1 n2]; simp [n3]
            rw [em, if_pos hl2, count_set (by rw [hex.dl]; exact n3) n4]
            omega
      · rw [List.take_of_length_le (by omega)]
        rw [List.take_of_length_le (by omega)] at ih
        exact ih
  have h := hgen fs.length
  rwa [List.take_length] at h
/-- SrepExact's law. -/
theorem exact_law (D : List Int) {W R : Nat} (hW : 1 ≤ W) (hWR : 2 * W ≤ R) (fs : List (Bool × Bool)) :
    (run D W R fs).got = D.take (run D W R fs).got.length ∧ (run D W R fs).got.length ≤ D.length ∧ (run D W R fs).known ≤ (run D W R fs).got.length := by
  have h := run_ex D hW hWR fs
  exact ⟨h.dr.pre, h.dr.len, h.kn⟩
/-- SrepEnds' law. -/
theorem ends_law (D : List Int) {W R : Nat} (hW : 1 ≤ W) (hWR : 2 * W ≤ R) (fs : List (Bool × Bool)) :
    (fine fs < D.length → (run D W R fs).known ≤ fine fs) ∧ (D.length ≤ fine fs → (run D W R fs).known = D.length ∧ (run D W R fs).got = D) := by
  have h := run_ex D hW hWR fs
  have hc := run_count D hW hWR fs
  generalize run D W R fs = s at *
  refine ⟨fun hf => ?_, fun hf => ?_⟩
  · have := count_first (l := s.done) (k := s.known) (by rw [h.dl]; exact h.kd) h.dk
    omega
  · have hk : s.known = D.length := by
      rcases h.k0 with h1 | h1
      · exact h1
      · rcases Nat.lt_or_ge s.known D.length with h2 | h2
        · have := count_lt (l := s.done) (i := s.known) (by rw [h.dl]; exact h2) h1
          rw [h.dl] at this; omega
        · have := h.kd; omega
    refine ⟨hk, ?_⟩
    have h1 := h.kn
    have h2 := h.dr.len
    have h3 := h.dr.pre
    simp only at h2 h3
    rw [h3, List.take_of_length_le (by omega)]
end Go.Proofs.Ytnkcjkemhdigpaa.Sr
