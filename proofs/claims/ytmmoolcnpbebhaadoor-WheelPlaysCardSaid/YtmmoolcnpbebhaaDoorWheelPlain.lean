/- What the wheel of timers computes, in plain Lean: each timer comes at the tick for which it was started. -/
import Derived.Test.YtmmoolcnpbebhaaDoorBase
namespace Go.Proofs.YtmmoolcnpbebhaaDoor.Wl
set_option linter.unusedSimpArgs false
set_option linter.unusedVariables false

/-- now; when each is due; who lies in which slot (level * 8 + slot). -/
structure St where
  now : Nat
  due : Nat → Option Nat
  hs : Nat → List Nat
def upd {α : Type} (f : Nat → α) (i : Nat) (x : α) : Nat → α := fun j => if j = i then x else f j
theorem upd_same {α : Type} (f : Nat → α) (i : Nat) (x : α) : upd f i x i = x := if_pos rfl
theorem upd_other {α : Type} {f : Nat → α} {i j : Nat} {x : α} (h : j ≠ i) : upd f i x j = f j := if_neg h
def level (now at_ : Nat) : Nat := if at_ - now < 8 then 0 else if at_ / 8 - now / 8 < 8 then 1 else 2
def spanN (l : Nat) : Nat := if l = 0 then 1 else if l = 1 then 8 else 64
def place (now at_ : Nat) : Nat := level now at_ * 8 + at_ / spanN (level now at_) % 8
theorem place_lt (now at_ : Nat) : place now at_ < 24 := by
  unfold place level
  split
  · omega
  · split <;> omega
def put (s : St) (id : Nat) : St := ⟨s.now, s.due, upd s.hs (place s.now ((s.due id).getD 0)) (s.hs (place s.now ((s.due id).getD 0)) ++ [id])⟩
def start (s : St) (id ahead : Nat) : St := put ⟨s.now, upd s.due id (some (s.now + ahead)), s.hs⟩ id
def putAll (s : St) (l : List Nat) : St := l.foldl put s
def move (l : Nat) (s : St) : St :=
  if s.now % spanN l = 0 then putAll ⟨s.now, s.due, upd s.hs (l * 8 + s.now / spanN l % 8) []⟩ (s.hs (l * 8 + s.now / spanN l % 8)) else s
def mid (s : St) : St := move 1 (move 2 ⟨s.now + 1, s.due, s.hs⟩)
def outs (s : St) : List Nat := (mid s).hs ((s.now + 1) % 8)
def delAll (due : Nat → Option Nat) (l : List Nat) : Nat → Option Nat := l.foldl (fun d id => upd d id none) due
def tick (s : St) : St := ⟨s.now + 1, delAll s.due (outs s), upd (mid s).hs ((s.now + 1) % 8) []⟩
def new : St := ⟨0, fun _ => none, fun _ => []⟩

theorem put_now (s : St) (id : Nat) : (put s id).now = s.now := rfl
theorem put_due (s : St) (id : Nat) : (put s id).due = s.due := rfl
theorem putAll_now (l : List Nat) : ∀ s, (putAll s l).now = s.now := by
  induction l with
  | nil => intro s; rfl
  | cons x l ih => intro s; show (putAll (put s x) l).now = _; rw [ih]; rfl
theorem putAll_due (l : List Nat) : ∀ s, (putAll s l).due = s.due := by
  induction l with
  | nil => intro s; rfl
  | cons x l ih => intro s; show (putAll (put s x) l).due = _; rw [ih]; rfl
theorem move_now (l : Nat) (s : St) : (move l s).now = s.now := by
  unfold move; split
  · rw [putAll_now]
  · rfl
theorem move_due (l : Nat) (s : St) : (move l s).due = s.due := by
  unfold move; split
  · rw [putAll_due]
  · rfl
theorem mid_now (s : St) : (mid s).now = s.now + 1 := by unfold mid; rw [move_now, move_now]
theorem mid_due (s : St) : (mid s).due = s.due := by unfold mid; rw [move_due, move_due]

/-- Where a timer may lie at a time: lo = 0 while a tick goes on (it may be due now), 1 between two ticks. -/
def Fits (i now at_ : Nat) (l0 l1 l2 : Nat) : Prop :=
  (i < 8 ∧ i = at_ % 8 ∧ now + l0 ≤ at_ ∧ at_ - now < 8) ∨
  (8 ≤ i ∧ i < 16 ∧ i = 8 + at_ / 8 % 8 ∧ now / 8 + l1 ≤ at_ / 8 ∧ at_ / 8 - now / 8 < 8) ∨
  (16 ≤ i ∧ i < 24 ∧ i = 16 + at_ / 64 % 8 ∧ now / 64 + l2 ≤ at_ / 64 ∧ at_ / 64 - now / 64 < 8)
structure Ok (s : St) (l0 l1 l2 : Nat) (rest : List Nat) : Prop where
  ids : ∀ id at_, s.due id = some at_ → id < 20 ∧ s.now + l0 ≤ at_ ∧ at_ ≤ s.now + 400
  at_ : ∀ i id, i < 24 → id ∈ s.hs i → ∃ a, s.due id = some a ∧ Fits i s.now a l0 l1 l2
  nd : ∀ i, i < 24 → (s.hs i).Nodup
  one : ∀ i j id, i < 24 → j < 24 → id ∈ s.hs i → id ∈ s.hs j → i = j
  all : ∀ id a, s.due id = some a → id ∈ rest ∨ ∃ i, i < 24 ∧ id ∈ s.hs i
  rnd : rest.Nodup
  rin : ∀ id ∈ rest, s.due id ≠ none
  rno : ∀ id ∈ rest, ∀ i, i < 24 → id ∉ s.hs i
theorem place0 {now at_ : Nat} (h : at_ - now < 8) : place now at_ = at_ % 8 := by
  unfold place level; rw [if_pos h]; simp [spanN]
theorem place1 {now at_ : Nat} (h : ¬ at_ - now < 8) (h3 : at_ / 8 - now / 8 < 8) : place now at_ = 8 + at_ / 8 % 8 := by
  unfold place level; rw [if_neg h, if_pos h3]; simp [spanN]
theorem place2 {now at_ : Nat} (h : ¬ at_ - now < 8) (h3 : ¬ at_ / 8 - now / 8 < 8) : place now at_ = 16 + at_ / 64 % 8 := by
  unfold place level; rw [if_neg h, if_neg h3]; simp [spanN]
theorem place_fits {now at_ : Nat} (h1 : now ≤ at_) (h2 : at_ ≤ now + 400) : Fits (place now at_) now at_ 0 1 1 := by
  by_cases h : at_ - now < 8
  · rw [place0 h]; left; omega
  · by_cases h3 : at_ / 8 - now / 8 < 8
    · rw [place1 h h3]; right; left; omega
    · rw [place2 h h3]; right; right; omega
theorem Fits.more {i now at_ l0 l1 l2 k0 k1 k2 : Nat} (h : Fits i now at_ l0 l1 l2) (h0 : k0 ≤ l0) (h1 : k1 ≤ l1) (h2 : k2 ≤ l2) : Fits i now at_ k0 k1 k2 := by
  unfold Fits at h ⊢; omega
theorem put_ok {s : St} {l1 l2 : Nat} {id : Nat} {rest : List Nat} (h : Ok s 0 l1 l2 (id :: rest)) (k1 : l1 ≤ 1) (k2 : l2 ≤ 1) : Ok (put s id) 0 l1 l2 rest := by
  obtain ⟨a, ha⟩ : ∃ a, s.due id = some a := by
    cases hd : s.due id with
    | none => exact absurd hd (h.rin id (by simp))
    | some a => exact ⟨a, rfl⟩
  obtain ⟨b1, b2, b3⟩ := h.ids id a ha
  have hp : place s.now ((s.due id).getD 0) = place s.now a := by rw [ha]; rfl
  have hpl := place_lt s.now a
  have hnd := h.rnd
  rw [List.nodup_cons] at hnd
  have hno := h.rno id (by simp)
  have e : ∀ i, (put s id).hs i = if i = place s.now a then s.hs i ++ [id] else s.hs i := fun i => by
    show upd s.hs _ _ i = _
    rw [hp]
    unfold upd
    by_cases hi : i = place s.now a
    · rw [if_pos hi, if_pos hi, hi]
    · rw [if_neg hi, if_neg hi]
  have hm : ∀ i x, x ∈ (put s id).hs i ↔ (x ∈ s.hs i ∨ (i = place s.now a ∧ x = id)) := fun i x => by
    rw [e]
    by_cases hi : i = place s.now a
    · rw [if_pos hi, List.mem_append, List.mem_singleton]; simp [hi]
    · rw [if_neg hi]; simp [hi]
  refine ⟨h.ids, fun i x hi hx => ?_, fun i hi => ?_, fun i j x hi hj hx hy => ?_, fun x b hb => ?_, hnd.2, fun x hx => h.rin x (by simp [hx]), fun x hx i hi hm2 => ?_⟩
  · rcases (hm i x).1 hx with hx | ⟨h5, h6⟩
    · exact h.at_ i x hi hx
    · refine ⟨a, by rw [h6]; exact ha, ?_⟩
      rw [h5]
      exact (place_fits (by omega) (by omega)).more (Nat.le_refl _) k1 k2
  · rw [e]
    by_cases hi2 : i = place s.now a
    · rw [if_pos hi2, List.nodup_append]
      refine ⟨h.nd i hi, by simp, fun x hx y hy h7 => ?_⟩
      simp only [List.mem_singleton] at hy
      rw [h7, hy] at hx
      exact hno i hi hx
    · rw [if_neg hi2]; exact h.nd i hi
  · rcases (hm i x).1 hx with hx | ⟨h5, h6⟩
    · rcases (hm j x).1 hy with hy | ⟨h7, h8⟩
      · exact h.one i j x hi hj hx hy
      · rw [h8] at hx; exact absurd hx (hno i hi)
    · rcases (hm j x).1 hy with hy | ⟨h7, h8⟩
      · rw [h6] at hy; exact absurd hy (hno j hj)
      · rw [h5, h7]
  · by_cases hx : x = id
    · right; exact ⟨place s.now a, hpl, (hm _ _).2 (Or.inr ⟨rfl, hx⟩)⟩
    · rcases h.all x b hb with h3 | ⟨i, hi, h3⟩
      · left
        rcases List.mem_cons.1 h3 with h4 | h4
        · exact absurd h4 hx
        · exact h4
      · right; exact ⟨i, hi, (hm _ _).2 (Or.inl h3)⟩
  · rcases (hm i x).1 hm2 with h3 | ⟨h3, h4⟩
    · exact h.rno x (by simp [hx]) i hi h3
    · rw [h4] at hx; exact hnd.1 hx
theorem putAll_ok {l1 l2 : Nat} (k1 : l1 ≤ 1) (k2 : l2 ≤ 1) (l : List Nat) : ∀ s, Ok s 0 l1 l2 l → Ok (putAll s l) 0 l1 l2 [] := by
  induction l with
  | nil => intro s h; exact h
  | cons x l ih => intro s h; exact ih _ (put_ok h k1 k2)
/-! The slots of one level that come to their time are laid anew. -/
theorem move_ok2 {s : St} {l1 l2 : Nat} (h : Ok s 0 l1 l2 []) (hl : s.now % 64 ≠ 0 → l2 = 1) (k1 : l1 ≤ 1) : Ok (move 2 s) 0 l1 1 [] := by
  unfold move
  have hsp : spanN 2 = 64 := rfl
  rw [hsp]
  by_cases hm : s.now % 64 = 0
  · rw [if_pos hm]
    have hi0 : 2 * 8 + s.now / 64 % 8 < 24 := by omega
    refine putAll_ok (by omega) (by omega) _ _ ⟨h.ids, fun i id hi hid => ?_, fun i hi => ?_, fun i j id hi hj h1 h2 => ?_, fun id a ha => ?_, h.nd _ hi0, fun id hid => ?_, fun id hid i hi hm2 => ?_⟩
    · by_cases e : i = 2 * 8 + s.now / 64 % 8
      · simp only at hid; rw [e, upd_same] at hid; simp at hid
      · simp only at hid; rw [upd_other e] at hid
        obtain ⟨a, ha, hf⟩ := h.at_ i id hi hid
        refine ⟨a, ha, ?_⟩
        unfold Fits at hf ⊢
        simp only
        omega
    · show (upd s.hs _ [] i).Nodup
      unfold upd
      split
      · simp
      · exact h.nd i hi
    · simp only [upd] at h1 h2
      split at h1
      · simp at h1
      · split at h2
        · simp at h2
        · exact h.one i j id hi hj h1 h2
    · rcases h.all id a ha with h1 | ⟨i, hi, h1⟩
      · simp at h1
      · by_cases e : i = 2 * 8 + s.now / 64 % 8
        · left; rw [← e]; exact h1
        · right; exact ⟨i, hi, by simp only; rw [upd_other e]; exact h1⟩
    · obtain ⟨a, ha, _⟩ := h.at_ _ id hi0 hid
      simp only; rw [ha]; simp
    · simp only [upd] at hm2
      split at hm2
      · simp at hm2
      · rename_i hne
        exact hne (h.one _ _ id hi hi0 hm2 hid)
  · rw [if_neg hm]
    have hl := hl hm
    refine ⟨h.ids, fun i id hi hid => ?_, h.nd, h.one, h.all, h.rnd, h.rin, h.rno⟩
    obtain ⟨a, ha, hf⟩ := h.at_ i id hi hid
    refine ⟨a, ha, ?_⟩
    unfold Fits at hf ⊢
    omega
theorem move_ok1 {s : St} {l1 : Nat} (h : Ok s 0 l1 1 []) (hl : s.now % 8 ≠ 0 → l1 = 1) : Ok (move 1 s) 0 1 1 [] := by
  unfold move
  have hsp : spanN 1 = 8 := rfl
  rw [hsp]
  by_cases hm : s.now % 8 = 0
  · rw [if_pos hm]
    have hi0 : 1 * 8 + s.now / 8 % 8 < 24 := by omega
    refine putAll_ok (by omega) (by omega) _ _ ⟨h.ids, fun i id hi hid => ?_, fun i hi => ?_, fun i j id hi hj h1 h2 => ?_, fun id a ha => ?_, h.nd _ hi0, fun id hid => ?_, fun id hid i hi hm2 => ?_⟩
    · by_cases e : i = 1 * 8 + s.now / 8 % 8
      · simp only at hid; rw [e, upd_same] at hid; simp at hid
      · simp only at hid; rw [upd_other e] at hid
        obtain ⟨a, ha, hf⟩ := h.at_ i id hi hid
        refine ⟨a, ha, ?_⟩
        unfold Fits at hf ⊢
        simp only
        omega
    · show (upd s.hs _ [] i).Nodup
      unfold upd
      split
      · simp
      · exact h.nd i hi
    · simp only [upd] at h1 h2
      split at h1
      · simp at h1
      · split at h2
        · simp at h2
        · exact h.one i j id hi hj h1 h2
    · rcases h.all id a ha with h1 | ⟨i, hi, h1⟩
      · simp at h1
      · by_cases e : i = 1 * 8 + s.now / 8 % 8
        · left; rw [← e]; exact h1
        · right; exact ⟨i, hi, by simp only; rw [upd_other e]; exact h1⟩
    · obtain ⟨a, ha, _⟩ := h.at_ _ id hi0 hid
      simp only; rw [ha]; simp
    · simp only [upd] at hm2
      split at hm2
      · simp at hm2
      · rename_i hne
        exact hne (h.one _ _ id hi hi0 hm2 hid)
  · rw [if_neg hm]
    have hl := hl hm
    refine ⟨h.ids, fun i id hi hid => ?_, h.nd, h.one, h.all, h.rnd, h.rin, h.rno⟩
    obtain ⟨a, ha, hf⟩ := h.at_ i id hi hid
    refine ⟨a, ha, ?_⟩
    unfold Fits at hf ⊢
    omega

theorem mid_ok {s : St} (h : Ok s 1 1 1 []) : Ok (mid s) 0 1 1 [] := by
  unfold mid
  have h0 : Ok ⟨s.now + 1, s.due, s.hs⟩ 0 (if (s.now + 1) % 8 = 0 then 0 else 1) (if (s.now + 1) % 64 = 0 then 0 else 1) [] := by
    refine ⟨fun id a ha => ?_, fun i id hi hid => ?_, h.nd, h.one, h.all, h.rnd, h.rin, h.rno⟩
    · have := h.ids id a ha; simp only at this ⊢; omega
    · obtain ⟨a, ha, hf⟩ := h.at_ i id hi hid
      obtain ⟨_, b2, b3⟩ := h.ids id a ha
      refine ⟨a, ha, ?_⟩
      unfold Fits at hf ⊢
      simp only
      split <;> split <;> omega
  refine move_ok1 (move_ok2 h0 (fun hm => if_neg hm) (by split <;> omega)) (fun hm => ?_)
  rw [move_now] at hm
  exact if_neg hm
/-- Just who is due comes. -/
theorem outs_mem {s : St} (h : Ok s 1 1 1 []) (id : Nat) : id ∈ outs s ↔ s.due id = some (s.now + 1) := by
  have hm := mid_ok h
  have hi : (s.now + 1) % 8 < 24 := by omega
  constructor
  · intro hid
    obtain ⟨a, ha, hf⟩ := hm.at_ _ id hi hid
    rw [mid_due] at ha
    rw [mid_now] at hf
    unfold Fits at hf
    rw [ha]
    congr 1
    omega
  · intro hd
    rcases hm.all id (s.now + 1) (by rw [mid_due]; exact hd) with h1 | ⟨i, hi2, h1⟩
    · simp at h1
    · obtain ⟨a, ha, hf⟩ := hm.at_ i id hi2 h1
      rw [mid_due, hd] at ha
      rw [mid_now] at hf
      simp only [Option.some.injEq] at ha
      subst ha
      unfold Fits at hf
      have e : i = (s.now + 1) % 8 := by omega
      unfold outs; rw [← e]; exact h1
theorem outs_nodup {s : St} (h : Ok s 1 1 1 []) : (outs s).Nodup := (mid_ok h).nd _ (by omega)
theorem delAll_get (l : List Nat) : ∀ (d : Nat → Option Nat) (x : Nat), delAll d l x = if x ∈ l then none else d x := by
  induction l with
  | nil => intro d x; simp [delAll]
  | cons y l ih =>
    intro d x
    show delAll (upd d y none) l x = _
    rw [ih]
    by_cases h : x ∈ l
    · rw [if_pos h, if_pos (by simp [h])]
    · rw [if_neg h]
      unfold upd
      by_cases e : x = y
      · rw [if_pos e, if_pos (by simp [e])]
      · rw [if_neg e, if_neg (by simp [e, h])]
theorem tick_due {s : St} (h : Ok s 1 1 1 []) (x : Nat) : (tick s).due x = if s.due x = some (s.now + 1) then none else s.due x := by
  show delAll s.due (outs s) x = _
  rw [delAll_get]
  by_cases hx : x ∈ outs s
  · rw [if_pos hx, if_pos ((outs_mem h x).1 hx)]
  · rw [if_neg hx, if_neg (fun e => hx ((outs_mem h x).2 e))]
theorem tick_ok {s : St} (h : Ok s 1 1 1 []) : Ok (tick s) 1 1 1 [] := by
  have hm := mid_ok h
  have hi0 : (s.now + 1) % 8 < 24 := by omega
  refine ⟨fun id a ha => ?_, fun i id hi hid => ?_, fun i hi => ?_, fun i j id hi hj h1 h2 => ?_, fun id a ha => ?_, by simp, fun id hid => by simp at hid, fun id hid => by simp at hid⟩
  · rw [tick_due h] at ha
    split at ha
    · simp at ha
    · rename_i hne
      have := h.ids id a ha
      have h2 : a ≠ s.now + 1 := fun e => hne (by rw [ha, e])
      show id < 20 ∧ s.now + 1 + 1 ≤ a ∧ a ≤ s.now + 1 + 400
      omega
  · have hid2 : id ∈ upd (mid s).hs ((s.now + 1) % 8) [] i := hid
    by_cases e : i = (s.now + 1) % 8
    · rw [e, upd_same] at hid2; simp at hid2
    · rw [upd_other e] at hid2
      obtain ⟨a, ha, hf⟩ := hm.at_ i id hi hid2
      rw [mid_due] at ha
      rw [mid_now] at hf
      have hne : s.due id ≠ some (s.now + 1) := fun e2 => by
        have := (outs_mem h id).2 e2
        exact e (hm.one _ _ id hi hi0 hid2 this)
      refine ⟨a, by rw [tick_due h, if_neg hne]; exact ha, ?_⟩
      have h2 : a ≠ s.now + 1 := fun e2 => hne (by rw [ha, e2])
      show Fits i (s.now + 1) a 1 1 1
      unfold Fits at hf ⊢
      omega
  · show (upd (mid s).hs _ [] i).Nodup
    unfold upd
    split
    · simp
    · exact hm.nd i hi
  · have h1 : id ∈ upd (mid s).hs ((s.now + 1) % 8) [] i := h1
    have h2 : id ∈ upd (mid s).hs ((s.now + 1) % 8) [] j := h2
    simp only [upd] at h1 h2
    split at h1
    · simp at h1
    · split at h2
      · simp at h2
      · exact hm.one i j id hi hj h1 h2
  · rw [tick_due h] at ha
    split at ha
    · simp at ha
    · rename_i hne
      right
      rcases hm.all id a (by rw [mid_due]; exact ha) with h1 | ⟨i, hi, h1⟩
      · simp at h1
      · refine ⟨i, hi, ?_⟩
        show id ∈ upd (mid s).hs ((s.now + 1) % 8) [] i
        by_cases e : i = (s.now + 1) % 8
        · rw [e] at h1
          exact absurd ((outs_mem h id).1 h1) hne
        · rw [upd_other e]; exact h1
theorem new_ok : Ok new 1 1 1 [] :=
  ⟨fun id a h => by simp [new] at h, fun i id hi h => by simp [new] at h, fun i hi => by simp [new], fun i j id hi hj h => by simp [new] at h, fun id a h => by simp [new] at h, by simp, fun id h => by simp at h, fun id h => by simp at h⟩
theorem start_ok {s : St} {id ahead : Nat} (h : Ok s 1 1 1 []) (hid : id < 20) (hd : s.due id = none) (h1 : 1 ≤ ahead) (h2 : ahead ≤ 400) : Ok (start s id ahead) 1 1 1 [] := by
  have hno : ∀ i, i < 24 → id ∉ s.hs i := fun i hi hm => by
    obtain ⟨a, ha, _⟩ := h.at_ i id hi hm
    rw [hd] at ha; simp at ha
  have h0 : Ok ⟨s.now, upd s.due id (some (s.now + ahead)), s.hs⟩ 0 1 1 [id] := by
    refine ⟨fun x a ha => ?_, fun i x hi hx => ?_, h.nd, h.one, fun x a ha => ?_, by simp, fun x hx => ?_, fun x hx => ?_⟩
    · simp only [upd] at ha ⊢
      split at ha
      · simp only [Option.some.injEq] at ha; omega
      · have := h.ids x a ha; omega
    · obtain ⟨a, ha, hf⟩ := h.at_ i x hi hx
      have hne : x ≠ id := fun e => hno i hi (by rw [← e]; exact hx)
      exact ⟨a, by simp only; rw [upd_other hne]; exact ha, hf.more (by omega) (by omega) (by omega)⟩
    · by_cases e : x = id
      · left; simp [e]
      · right
        simp only at ha
        rw [upd_other e] at ha
        rcases h.all x a ha with h3 | h3
        · simp at h3
        · exact h3
    · simp only [List.mem_singleton] at hx
      simp only; rw [hx, upd_same]; simp
    · simp only [List.mem_singleton] at hx
      rw [hx]; exact hno
  have h3 := put_ok h0 (Nat.le_refl _) (Nat.le_refl _)
  have hsd : (start s id ahead).due = upd s.due id (some (s.now + ahead)) := rfl
  refine ⟨fun x a ha => ?_, fun i x hi hx => ?_, h3.nd, h3.one, h3.all, h3.rnd, h3.rin, h3.rno⟩
  · rw [hsd] at ha
    simp only [upd] at ha
    show x < 20 ∧ s.now + 1 ≤ a ∧ a ≤ s.now + 400
    split at ha
    · simp only [Option.some.injEq] at ha; omega
    · exact h.ids x a ha
  · obtain ⟨a, ha, hf⟩ := h3.at_ i x hi hx
    have hb : s.now + 1 ≤ a := by
      have ha2 : upd s.due id (some (s.now + ahead)) x = some a := ha
      simp only [upd] at ha2
      split at ha2
      · simp only [Option.some.injEq] at ha2; omega
      · have := h.ids x a ha2; omega
    refine ⟨a, ha, ?_⟩
    have hf2 : Fits i s.now a 0 1 1 := hf
    show Fits i s.now a 1 1 1
    unfold Fits at hf2 ⊢
    omega
end Go.Proofs.YtmmoolcnpbebhaaDoor.Wl
