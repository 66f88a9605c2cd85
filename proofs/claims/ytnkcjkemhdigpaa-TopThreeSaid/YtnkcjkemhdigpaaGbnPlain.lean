/- Go back to the first that is not known, as a plain function; what it gives. -/
import Derived.Test.YtnkcjkemhdigpaaAbpPlain
namespace Go.Proofs.Ytnkcjkemhdigpaa
set_option linter.unusedSimpArgs false
set_option linter.unusedVariables false

/-- got, known, next. -/
structure GbS where
  got : List Int
  known : Nat
  next : Nat
def gbNow (n W : Nat) (s : GbS) : Nat := if s.next = min (s.known + W) n then s.known else s.next
def gbGot (zs : List Int) (R : Nat) (s : GbS) (now : Nat) : List Int := if now % R = s.got.length % R then s.got ++ [zs.getD now 0] else s.got
def gbD (R : Nat) (g : List Int) (known : Nat) : Nat := (g.length - known) % R
def gbnStep (zs : List Int) (W R : Nat) (s : GbS) (f : Bool × Bool) : GbS :=
  if s.known = zs.length then s
  else if f.1 then ⟨s.got, s.known, gbNow zs.length W s + 1⟩
  else if f.2 then ⟨gbGot zs R s (gbNow zs.length W s), s.known, gbNow zs.length W s + 1⟩
  else if gbD R (gbGot zs R s (gbNow zs.length W s)) s.known ≤ W ∧ s.known + gbD R (gbGot zs R s (gbNow zs.length W s)) s.known ≤ zs.length then
    ⟨gbGot zs R s (gbNow zs.length W s), s.known + gbD R (gbGot zs R s (gbNow zs.length W s)) s.known, max (gbNow zs.length W s + 1) (s.known + gbD R (gbGot zs R s (gbNow zs.length W s)) s.known)⟩
  else ⟨gbGot zs R s (gbNow zs.length W s), s.known, gbNow zs.length W s + 1⟩
def gbnRun (zs : List Int) (W R : Nat) (fs : List (Bool × Bool)) : GbS := fs.foldl (gbnStep zs W R) ⟨[], 0, 0⟩

/-- What holds at every step. -/
structure GbI (zs : List Int) (W : Nat) (s : GbS) : Prop where
  kn : s.known ≤ zs.length
  kg : s.known ≤ s.got.length
  lo : s.known ≤ s.next
  hi : s.next ≤ min (s.known + W) zs.length
theorem gb_now {zs : List Int} {W : Nat} {s : GbS} (h : GbI zs W s) (hW : 1 ≤ W) (hk : s.known < zs.length) : s.known ≤ gbNow zs.length W s ∧ gbNow zs.length W s < zs.length ∧ gbNow zs.length W s < s.known + W := by
  obtain ⟨h1, h2, h3, h4⟩ := h
  unfold gbNow
  split <;> omega
theorem gb_len {zs : List Int} {R : Nat} {s : GbS} {now : Nat} : s.got.length ≤ (gbGot zs R s now).length ∧ (gbGot zs R s now).length ≤ s.got.length + 1 := by
  unfold gbGot
  split <;> simp
theorem gb_step {zs : List Int} {W R : Nat} {s : GbS} (h : GbI zs W s) (hW : 1 ≤ W) (f : Bool × Bool) : GbI zs W (gbnStep zs W R s f) := by
  unfold gbnStep
  by_cases e1 : s.known = zs.length
  · rw [if_pos e1]; exact h
  · rw [if_neg e1]
    have hn := gb_now h hW (by have := h.kn; omega)
    have hl := gb_len (zs := zs) (R := R) (s := s) (now := gbNow zs.length W s)
    obtain ⟨h1, h2, h3, h4⟩ := h
    generalize gbNow zs.length W s = now at *
    generalize gbGot zs R s now = g at *
    by_cases e2 : f.1 = true
    · rw [if_pos e2]; exact ⟨h1, h2, by show s.known ≤ now + 1; omega, by show now + 1 ≤ min (s.known + W) zs.length; omega⟩
    · rw [if_neg e2]
      by_cases e3 : f.2 = true
      · rw [if_pos e3]; exact ⟨h1, by show s.known ≤ g.length; omega, by show s.known ≤ now + 1; omega, by show now + 1 ≤ min (s.known + W) zs.length; omega⟩
      · rw [if_neg e3]
        have hd : gbD R g s.known ≤ g.length - s.known := Nat.mod_le _ _
        generalize gbD R g s.known = d at *
        by_cases e4 : d ≤ W ∧ s.known + d ≤ zs.length
        · rw [if_pos e4]; exact ⟨by show s.known + d ≤ zs.length; omega, by show s.known + d ≤ g.length; omega, by show s.known + d ≤ max (now + 1) (s.known + d); omega, by show max (now + 1) (s.known + d) ≤ min (s.known + d + W) zs.length; omega⟩
        · rw [if_neg e4]; exact ⟨h1, by show s.known ≤ g.length; omega, by show s.known ≤ now + 1; omega, by show now + 1 ≤ min (s.known + W) zs.length; omega⟩
theorem gb_fold {zs : List Int} {W R : Nat} (hW : 1 ≤ W) (fs : List (Bool × Bool)) : ∀ s, GbI zs W s → GbI zs W (fs.foldl (gbnStep zs W R) s) := by
  induction fs with
  | nil => intro s h; exact h
  | cons f fs ih => intro s h; exact ih _ (gb_step h hW f)
theorem gb_inv (zs : List Int) {W : Nat} (R : Nat) (hW : 1 ≤ W) (fs : List (Bool × Bool)) : GbI zs W (gbnRun zs W R fs) := gb_fold hW fs _ ⟨by simp, by simp, by simp, by simp⟩

/-- With one number more than are ahead: what is got is a beginning; what is known was got; no more than so many beyond. -/
structure GbX (zs : List Int) (W : Nat) (s : GbS) : Prop extends GbI zs W s where
  beg : s.got = zs.take s.got.length
  gl : s.got.length ≤ zs.length
  gw : s.got.length ≤ s.known + W
theorem mod_eq_of_near {a b R : Nat} (h : a % R = b % R) (h1 : a ≤ b) (h2 : b < a + R) : a = b := by
  have e : b = a + (b - a) := by omega
  have h3 : (b - a) % R = 0 := Nat.sub_mod_eq_zero_of_mod_eq h.symm
  rw [Nat.mod_eq_of_lt (by omega)] at h3
  omega
theorem gbx_step {zs : List Int} {W R : Nat} {s : GbS} (h : GbX zs W s) (hW : 1 ≤ W) (hR : W < R) (f : Bool × Bool) : GbX zs W (gbnStep zs W R s f) := by
  have hI := gb_step (R := R) h.toGbI hW f
  refine ⟨hI, ?_, ?_, ?_⟩ <;> clear hI
  all_goals
    unfold gbnStep
    by_cases e1 : s.known = zs.length
    · rw [if_pos e1]; first | exact h.beg | exact h.gl | exact h.gw
    · rw [if_neg e1]
      have hn := gb_now h.toGbI hW (by have := h.kn; omega)
      obtain ⟨⟨h1, h2, h3, h4⟩, h5, h6, h7⟩ := h
      generalize gbNow zs.length W s = now at *
      have hg : gbGot zs R s now = zs.take (gbGot zs R s now).length ∧ (gbGot zs R s now).length ≤ zs.length ∧ (gbGot zs R s now).length ≤ s.known + W := by
        unfold gbGot
        by_cases e : now % R = s.got.length % R
        · rw [if_pos e]
          have hw : s.got.length = now := by
            rcases Nat.le_total now s.got.length with hle | hle
            · exact (mod_eq_of_near e hle (by omega)).symm
            · exact mod_eq_of_near e.symm hle (by omega)
          have hs : s.got ++ [zs.getD now 0] = zs.take (s.got.length + 1) := by
            conv => lhs; rw [h5]
            rw [← hw, take_snoc _ _ (by omega)]
          rw [show (s.got ++ [zs.getD now 0]).length = s.got.length + 1 from by simp]
          exact ⟨hs, by omega, by omega⟩
        · rw [if_neg e]; exact ⟨h5, h6, h7⟩
      generalize gbGot zs R s now = g at *
      obtain ⟨g1, g2, g3⟩ := hg
      by_cases e2 : f.1 = true
      · rw [if_pos e2]; first | exact h5 | exact h6 | exact h7
      · rw [if_neg e2]
        by_cases e3 : f.2 = true
        · rw [if_pos e3]; first | exact g1 | exact g2 | exact g3
        · rw [if_neg e3]
          generalize gbD R g s.known = d at *
          by_cases e4 : d ≤ W ∧ s.known + d ≤ zs.length
          · rw [if_pos e4]; first | exact g1 | exact g2 | (show g.length ≤ s.known + d + W; omega)
          · rw [if_neg e4]; first | exact g1 | exact g2 | exact g3
theorem gbx_fold {zs : List Int} {W R : Nat} (hW : 1 ≤ W) (hR : W < R) (fs : List (Bool × Bool)) : ∀ s, GbX zs W s → GbX zs W (fs.foldl (gbnStep zs W R) s) := by
  induction fs with
  | nil => intro s h; exact h
  | cons f fs ih => intro s h; exact ih _ (gbx_step h hW hR f)
theorem gbx_inv (zs : List Int) {W R : Nat} (hW : 1 ≤ W) (hR : W < R) (fs : List (Bool × Bool)) : GbX zs W (gbnRun zs W R fs) :=
  gbx_fold hW hR fs _ ⟨⟨by simp, by simp, by simp, by simp⟩, rfl, by simp, by simp⟩
theorem gbn_fold_snoc (zs : List Int) (W R : Nat) (fs : List (Bool × Bool)) (f : Bool × Bool) : gbnRun zs W R (fs ++ [f]) = gbnStep zs W R (gbnRun zs W R fs) f := by
  unfold gbnRun; rw [List.foldl_append]; rfl
theorem gbn_stay {zs : List Int} {W R : Nat} (fs : List (Bool × Bool)) (s : GbS) (h : s.known = zs.length) : fs.foldl (gbnStep zs W R) s = s := by
  induction fs with
  | nil => rfl
  | cons f fs ih => rw [List.foldl_cons, show gbnStep zs W R s f = s from by unfold gbnStep; rw [if_pos h]]; exact ih
theorem gbn_split (zs : List Int) (W R : Nat) (fs : List (Bool × Bool)) (k : Nat) : gbnRun zs W R fs = (fs.drop k).foldl (gbnStep zs W R) (gbnRun zs W R (fs.take k)) := by
  unfold gbnRun; rw [← List.foldl_append, List.take_append_drop]
/-- Each element of what is got is one of the data. -/
theorem gb_fits {zs : List Int} (P : Int → Prop) (h0 : P 0) (h : ∀ k, P (zs.getD k 0)) {W R : Nat} (fs : List (Bool × Bool)) : ∀ s : GbS, (∀ x ∈ s.got, P x) → ∀ x ∈ (fs.foldl (gbnStep zs W R) s).got, P x := by
  induction fs with
  | nil => intro s hs; exact hs
  | cons f fs ih =>
    intro s hs
    refine ih _ ?_
    have hg : ∀ now, ∀ x ∈ gbGot zs R s now, P x := fun now x hx => by
      unfold gbGot at hx
      split at hx
      · rcases List.mem_append.1 hx with hx | hx
        · exact hs x hx
        · simp at hx; rw [hx]; simpa [List.getD_eq_getElem?_getD] using h now
      · exact hs x hx
    unfold gbnStep
    (repeat' split) <;> first | exact hs | exact hg _
theorem gb_count {zs : List Int} {W R : Nat} (fs : List (Bool × Bool)) : ∀ s : GbS, (fs.foldl (gbnStep zs W R) s).got.length ≤ s.got.length + fs.length := by
  induction fs with
  | nil => intro s; exact Nat.le_refl _
  | cons f fs ih =>
    intro s
    refine Nat.le_trans (ih _) ?_
    have hg : ∀ now, (gbGot zs R s now).length ≤ s.got.length + 1 := fun now => gb_len.2
    have : (gbnStep zs W R s f).got.length ≤ s.got.length + 1 := by
      unfold gbnStep
      (repeat' split) <;> first | (show s.got.length ≤ _; omega) | exact hg _
    simp only [List.length_cons]; omega
end Go.Proofs.Ytnkcjkemhdigpaa
