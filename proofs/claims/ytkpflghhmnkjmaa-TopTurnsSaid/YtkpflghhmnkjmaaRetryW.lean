/- What lies in memory while retry.Run goes; what holds of it. -/
import Derived.Test.YtkpflghhmnkjmaaAll
import Derived.Test.YtkpflghhmnkjmaaCel
import Derived.Test.YtkpflghhmnkjmaaRisingWalk
namespace Go.Proofs.Ytkpflghhmnkjmaa
open Go.RowKit
set_option linter.unusedSimpArgs false
set_option linter.unusedVariables false

/-! Stations, as cells. -/
def flatI : List (Int × Int) → List Value
  | [] => []
  | p :: ps => .int .i64 p.1 :: .int .i64 p.2 :: flatI ps
theorem flatI_at (ps : List (Int × Int)) (i : Nat) (h : i < ps.length) : (flatI ps)[i * 2]? = some (.int .i64 (ps.getD i (0, 0)).1) ∧ (flatI ps)[i * 2 + 1]? = some (.int .i64 (ps.getD i (0, 0)).2) := by
  induction ps generalizing i with
  | nil => simp at h
  | cons p ps ih =>
    cases i with
    | zero => exact ⟨rfl, rfl⟩
    | succ i =>
      have := ih i (by simpa using h)
      rw [show (i + 1) * 2 = i * 2 + 2 from by omega]
      exact this
theorem flatI_set (ps : List (Int × Int)) (i : Nat) (h : i < ps.length) (a b : Int) : ((flatI ps).set (i * 2) (.int .i64 a)) = flatI (ps.set i (a, (ps.getD i (0, 0)).2)) ∧ ((flatI ps).set (i * 2 + 1) (.int .i64 b)) = flatI (ps.set i ((ps.getD i (0, 0)).1, b)) := by
  induction ps generalizing i with
  | nil => simp at h
  | cons p ps ih =>
    cases i with
    | zero => exact ⟨rfl, rfl⟩
    | succ i =>
      have := ih i (by simpa using h)
      rw [show (i + 1) * 2 = i * 2 + 2 from by omega]
      constructor
      · show _ :: _ :: ((flatI ps).set (i * 2) _) = _; rw [this.1]; rfl
      · show _ :: _ :: ((flatI ps).set (i * 2 + 1) _) = _; rw [this.2]; rfl
theorem getD_set {ps : List (Int × Int)} {i j : Nat} {x : Int × Int} (h : i < ps.length) : (ps.set i x).getD j (0, 0) = if i = j then x else ps.getD j (0, 0) := by
  simp only [List.getD_eq_getElem?_getD, List.getElem?_set]
  by_cases e : i = j
  · subst e; simp [h]
  · simp [e]

/-! Who sends, which stations are there. -/
structure TI (n slot : Nat) (who sl : List Nat) (ps : List (Int × Int)) (m : Nat) : Prop where
  pl : ps.length = n
  nd : who.Nodup
  wn : ∀ i ∈ who, i < n
  wm : ∀ i ∈ who, (ps.getD i (0, 0)).2 = -1
  ln : sl.length = who.length
  ls : ∀ x ∈ sl, x ≤ slot
  bd : ∀ i, i < n → 0 ≤ (ps.getD i (0, 0)).1 ∧ (ps.getD i (0, 0)).1 ≤ m ∧ -1 ≤ (ps.getD i (0, 0)).2 ∧ (ps.getD i (0, 0)).2 ≤ 2000
theorem TI.wl {n slot : Nat} {who sl : List Nat} {ps : List (Int × Int)} {m : Nat} (h : TI n slot who sl ps m) : who.length ≤ n := by
  have h1 : who.length ≤ (List.range n).length := List.Nodup.length_le_of_subset h.nd (fun x hx => List.mem_range.2 (h.wn x hx))
  simpa using h1
/-- One tick. -/
def dec1 (p : Int × Int) : Int × Int := if 0 < p.2 then (p.1, p.2 - 1) else p
def decs (ps : List (Int × Int)) (i : Nat) : List (Int × Int) := (ps.take i).map dec1 ++ ps.drop i
def nows (ps : List (Int × Int)) (i : Nat) : List Nat := (List.range i).filter fun x => (ps.getD x (0, 0)).2 == 0
theorem decs_len (ps : List (Int × Int)) (i : Nat) : (decs ps i).length = ps.length := by
  unfold decs; simp; omega
theorem decs_get {ps : List (Int × Int)} {i j : Nat} (hj : j < ps.length) : (decs ps i).getD j (0, 0) = if j < i then dec1 (ps.getD j (0, 0)) else ps.getD j (0, 0) := by
  unfold decs
  simp only [List.getD_eq_getElem?_getD]
  by_cases h : j < i
  · rw [if_pos h, List.getElem?_append_left (by simp; omega), List.getElem?_map, List.getElem?_take_of_lt h]
    simp [hj]
  · rw [if_neg h, List.getElem?_append_right (by simp; omega)]
    simp only [List.length_map, List.length_take, List.getElem?_drop]
    rw [show i + (j - min i ps.length) = j from by omega]
theorem decs_step {ps : List (Int × Int)} {i : Nat} (hi : i < ps.length) (v : Int × Int) (hv : v = dec1 (ps.getD i (0, 0))) : (decs ps i).set i v = decs ps (i + 1) := by
  apply List.ext_getElem?
  intro j
  rcases Nat.lt_or_ge j ps.length with hj | hj
  · have h1 := decs_get (i := i) hj
    have h2 := decs_get (i := i + 1) hj
    have e1 : (decs ps (i + 1))[j]? = some ((decs ps (i + 1)).getD j (0, 0)) := by
      simp [List.getD_eq_getElem?_getD, decs_len, hj]
    have e2 : (decs ps i)[j]? = some ((decs ps i).getD j (0, 0)) := by
      simp [List.getD_eq_getElem?_getD, decs_len, hj]
    rw [List.getElem?_set, e1, h2, e2, h1]
    by_cases e : i = j
    · subst e; rw [if_pos rfl, if_pos (by rw [decs_len]; exact hi), if_pos (by omega), hv]
    · rw [if_neg e]
      by_cases h : j < i
      · rw [if_pos h, if_pos (by omega)]
      · rw [if_neg h, if_neg (by omega)]
  · rw [List.getElem?_eq_none (by rw [List.length_set, decs_len]; exact hj), List.getElem?_eq_none (by rw [decs_len]; exact hj)]
theorem decs_stay {ps : List (Int × Int)} {i : Nat} (hi : i < ps.length) (h : ¬ 0 < (ps.getD i (0, 0)).2) : decs ps i = decs ps (i + 1) := by
  have h1 := decs_step hi (ps.getD i (0, 0)) (by unfold dec1; rw [if_neg h])
  rw [← h1]
  apply List.ext_getElem?
  intro j
  rw [List.getElem?_set]
  by_cases e : i = j
  · subst e
    rw [if_pos rfl, if_pos (by rw [decs_len]; exact hi)]
    have := decs_get (i := i) hi
    rw [if_neg (Nat.lt_irrefl _)] at this
    rw [← this]
    simp [List.getD_eq_getElem?_getD, decs_len, hi]
  · rw [if_neg e]
theorem nows_step (ps : List (Int × Int)) (i : Nat) : nows ps (i + 1) = if (ps.getD i (0, 0)).2 = 0 then nows ps i ++ [i] else nows ps i := by
  unfold nows
  rw [List.range_succ, List.filter_append]
  by_cases h : (ps.getD i (0, 0)).2 = 0
  · rw [if_pos h]; simp only [List.filter_cons, List.filter_nil, h]; rfl
  · rw [if_neg h]
    have : ((ps.getD i (0, 0)).2 == 0) = false := by simpa using h
    simp only [List.filter_cons, List.filter_nil, this]; simp
theorem nows_len (ps : List (Int × Int)) (i : Nat) : (nows ps i).length ≤ i := by
  have := List.length_filter_le (fun x => (ps.getD x (0, 0)).2 == 0) (List.range i)
  simpa [nows] using this
theorem nows_mem {ps : List (Int × Int)} {i x : Nat} (h : x ∈ nows ps i) : x < i ∧ (ps.getD x (0, 0)).2 = 0 := by
  simpa [nows] using h
theorem TI.tick {n slot : Nat} {who sl : List Nat} {ps : List (Int × Int)} {m : Nat} (h : TI n slot who sl ps m) : TI n slot who sl (decs ps n) m := by
  refine ⟨by rw [decs_len]; exact h.pl, h.nd, h.wn, fun i hi => ?_, h.ln, h.ls, fun i hi => ?_⟩
  · have h1 := h.wn i hi
    have h2 := h.wm i hi
    rw [decs_get (by rw [h.pl]; exact h1), if_pos h1]
    unfold dec1
    rw [if_neg (by omega)]; exact h2
  · have h2 := h.bd i hi
    rw [decs_get (by rw [h.pl]; exact hi), if_pos hi]
    unfold dec1
    split
    · simp only; omega
    · exact h2
/-- One alone is to send. -/
theorem TI.sends {n slot x : Nat} {who sl : List Nat} {ps : List (Int × Int)} {m : Nat} (h : TI n slot who sl ps m) (hx : nows ps n = [x]) :
    TI n (slot + 1) (who ++ [x]) (sl ++ [slot]) ((decs ps n).set x (((decs ps n).getD x (0, 0)).1, -1)) m ∧ x < n := by
  obtain ⟨h1, h2⟩ := nows_mem (ps := ps) (i := n) (x := x) (by rw [hx]; simp)
  have hd := h.tick
  have hl : x < (decs ps n).length := by rw [hd.pl]; exact h1
  refine ⟨⟨by rw [List.length_set]; exact hd.pl, ?_, fun i hi => ?_, fun i hi => ?_, by simp [h.ln], fun y hy => ?_, fun i hi => ?_⟩, h1⟩
  · rw [List.nodup_append]
    refine ⟨h.nd, by simp, fun a ha b hb e => ?_⟩
    simp only [List.mem_singleton] at hb
    subst hb; subst e
    have := h.wm a ha; omega
  · rcases List.mem_append.1 hi with hi | hi
    · exact h.wn i hi
    · simp only [List.mem_singleton] at hi; omega
  · rw [getD_set hl]
    by_cases e : x = i
    · rw [if_pos e]
    · rw [if_neg e]
      rcases List.mem_append.1 hi with hi | hi
      · exact hd.wm i hi
      · simp only [List.mem_singleton] at hi; exact absurd hi.symm e
  · rcases List.mem_append.1 hy with hy | hy
    · have := h.ls y hy; omega
    · simp only [List.mem_singleton] at hy; omega
  · rw [getD_set hl]
    have h3 := hd.bd x h1
    have h4 := hd.bd i hi
    by_cases e : x = i
    · rw [if_pos e]; simp only; omega
    · rw [if_neg e]; exact h4
/-- One that met others picks. -/
theorem TI.picks {n slot i : Nat} {who sl : List Nat} {ps : List (Int × Int)} {m : Nat} (h : TI n slot who sl ps m) (hi : i < n) (hw : i ∉ who) {a b : Int} (ha : 0 ≤ a) (ha2 : a ≤ m + 1) (hb : 0 ≤ b) (hb2 : b ≤ 2000) :
    TI n slot who sl (ps.set i (a, b)) (m + 1) := by
  have hl : i < ps.length := by rw [h.pl]; exact hi
  refine ⟨by rw [List.length_set]; exact h.pl, h.nd, h.wn, fun j hj => ?_, h.ln, h.ls, fun j hj => ?_⟩
  · rw [getD_set hl, if_neg (fun e => hw (by rw [e]; exact hj))]; exact h.wm j hj
  · rw [getD_set hl]
    have h4 := h.bd j hj
    by_cases e : i = j
    · rw [if_pos e]; simp only; omega
    · rw [if_neg e]; omega
theorem TI.more {n slot slot' : Nat} {who sl : List Nat} {ps : List (Int × Int)} {m m' : Nat} (h : TI n slot who sl ps m) (hm : m ≤ m') (hs : slot ≤ slot') : TI n slot' who sl ps m' :=
  ⟨h.pl, h.nd, h.wn, h.wm, h.ln, fun x hx => Nat.le_trans (h.ls x hx) hs, fun i hi => by have := h.bd i hi; omega⟩
theorem TI.start (n : Nat) : TI n 0 [] [] (List.replicate n (0, 0)) 0 := by
  refine ⟨by simp, by simp, by simp, by simp, rfl, by simp, fun i hi => ?_⟩
  have : (List.replicate n ((0, 0) : Int × Int)).getD i (0, 0) = (0, 0) := by simp [List.getD_eq_getElem?_getD, hi]
  rw [this]; simp

/-! The memory. -/
def nats (l : List Nat) : List Value := l.map fun x : Nat => Value.int .i64 (x : Int)
structure TS (w0 : World) (sb B : Nat) (wr : World) (v1 v2 : Value) (who sl : List Nat) (ps : List (Int × Int)) : Prop where
  b1 : w0.heap.size ≤ sb
  b2 : sb < B
  b3 : B ≤ wr.heap.size
  st : Obj wr sb 50 (flatI ps)
  wh : wr.ownsRow B 3 1 v1 who.length (nats who)
  so : wr.ownsRow B 3 1 v2 sl.length (nats sl)
  ne : ∀ g, v1.ownBlock = some g → v2.ownBlock ≠ some g
  bl : Below w0.heap.size w0 wr
section
variable {w0 wr w' : World} {sb B : Nat} {v1 v2 : Value} {who sl : List Nat} {ps : List (Int × Int)}
theorem own_keep {w w' : World} {b e size n : Nat} {v : Value} {xs : List Value} {r : Option Nat} (h : w.ownsRow b e size v n xs) (hg : w.grownBy w' r) (hr : ∀ g, v.ownBlock = some g → r ≠ some g) : w'.ownsRow b e size v n xs := by
  refine h.kept hg ?_
  cases hv : v.ownBlock with
  | none => exact .inl rfl
  | some g => right; intro e; exact hr g hv e.symm
theorem TS.other (s : TS w0 sb B wr v1 v2 who sl ps) {r : Option Nat} (hg : wr.grownBy w' r) (h0 : ∀ g, r = some g → B ≤ g) (h1 : ∀ g, r = some g → v1.ownBlock ≠ some g) (h2 : ∀ g, r = some g → v2.ownBlock ≠ some g) : TS w0 sb B w' v1 v2 who sl ps := by
  have b2 := s.b2
  have b1 := s.b1
  refine ⟨s.b1, s.b2, Nat.le_trans s.b3 hg.size, s.st.kept hg (fun e => by have := h0 sb e.symm; omega), own_keep s.wh hg (fun g e e' => h1 g e' e), own_keep s.so hg (fun g e e' => h2 g e' e), s.ne, s.bl.grown hg s.bl.size (fun g e => by have := h0 g e; omega)⟩
theorem TS.alloc (s : TS w0 sb B wr v1 v2 who sl ps) (o : Go.Obj) : TS w0 sb B (wr.alloc o) v1 v2 who sl ps :=
  s.other (r := none) (World.grownBy_alloc wr o none) (by simp) (by simp) (by simp)
theorem TS.drewN (s : TS w0 sb B wr v1 v2 who sl ps) (n : Nat) : TS w0 sb B (wr.drewN n) v1 v2 who sl ps :=
  s.other (r := none) (grown_drewN (grown_refl _ _) n) (by simp) (by simp) (by simp)
theorem TS.put (s : TS w0 sb B wr v1 v2 who sl ps) (j : Nat) (u : Int) {ps' : List (Int × Int)} (h : (flatI ps).set j (.int .i64 u) = flatI ps') : TS w0 sb B (wr.setCell ⟨sb, j, none⟩ (.int .i64 u)) v1 v2 who sl ps' := by
  have b2 := s.b2
  have b1 := s.b1
  have hg : wr.grownBy (wr.setCell ⟨sb, j, none⟩ (.int .i64 u)) (some sb) := grown_set (grown_refl _ _) _ _
  refine ⟨s.b1, s.b2, Nat.le_trans s.b3 hg.size, by rw [← h]; exact s.st.set j _, own_keep s.wh hg (fun g e e' => by have := (s.wh.lt g e).1; simp at e'; omega), own_keep s.so hg (fun g e e' => by have := (s.so.lt g e).1; simp at e'; omega), s.ne, s.bl.setCell s.b1 _⟩
theorem TS.app1 (s : TS w0 sb B wr v1 v2 who sl ps) (x : Nat) {g9 c9 n9 : Nat} (ho : w'.ownsRow B 3 1 (.slice (some ⟨g9, 0, none⟩) n9 c9) (who.length + 1) (nats who ++ [.int .i64 (x : Int)])) (hg : wr.grownBy w' v1.ownBlock)
    (hl : v1.ownBlock = some g9 ∨ g9 = wr.heap.size) : TS w0 sb B w' (.slice (some ⟨g9, 0, none⟩) n9 c9) v2 (who ++ [x]) sl ps := by
  have b2 := s.b2
  have b1 := s.b1
  refine ⟨s.b1, s.b2, Nat.le_trans s.b3 hg.size, s.st.kept hg (fun e => by have := (s.wh.lt sb e.symm).1; omega), by simpa [nats] using ho, own_keep s.so hg (fun g e e' => s.ne g e' e), fun g e e' => ?_, s.bl.grown hg s.bl.size (fun g e => by have := (s.wh.lt g e).1; omega)⟩
  have e2 : g9 = g := by simpa [Value.ownBlock] using e
  subst e2
  rcases hl with hl | hl
  · exact s.ne g9 hl e'
  · have := (s.so.lt g9 e').2; omega
theorem TS.app2 (s : TS w0 sb B wr v1 v2 who sl ps) (x : Nat) {g9 c9 n9 : Nat} (ho : w'.ownsRow B 3 1 (.slice (some ⟨g9, 0, none⟩) n9 c9) (sl.length + 1) (nats sl ++ [.int .i64 (x : Int)])) (hg : wr.grownBy w' v2.ownBlock)
    (hl : v2.ownBlock = some g9 ∨ g9 = wr.heap.size) : TS w0 sb B w' v1 (.slice (some ⟨g9, 0, none⟩) n9 c9) who (sl ++ [x]) ps := by
  have b2 := s.b2
  have b1 := s.b1
  refine ⟨s.b1, s.b2, Nat.le_trans s.b3 hg.size, s.st.kept hg (fun e => by have := (s.so.lt sb e.symm).1; omega), own_keep s.wh hg (fun g e e' => s.ne g e e'), by simpa [nats] using ho, fun g e e' => ?_, s.bl.grown hg s.bl.size (fun g e => by have := (s.so.lt g e).1; omega)⟩
  have e2 : g9 = g := by simpa [Value.ownBlock] using e'
  subst e2
  rcases hl with hl | hl
  · exact s.ne g9 e hl
  · have := (s.wh.lt g9 e).2; omega
end

/-- From how many slots one is picked. -/
def winOf (m : Int) : Int := if m ≤ 0 then 1 else if m = 1 then 2 else if m = 2 then 4 else if m = 3 then 8 else if m = 4 then 16 else if m = 5 then 32 else if m = 6 then 64 else if m = 7 then 128 else if m = 8 then 256 else if m = 9 then 512 else 1024
theorem winOf_in (m : Int) : 1 ≤ winOf m ∧ winOf m ≤ 1024 := by
  unfold winOf
  repeat' split
  all_goals omega
theorem window_is (m : Int) (w : World) (h : 0 ≤ m) (h2 : m ≤ 100000) : Calls Try.prog 23 #[.int .i64 m] w fun e w' => e = .returned (.int .i64 (winOf m)) ∧ w = w' := by
  have hc : m = 0 ∨ m = 1 ∨ m = 2 ∨ m = 3 ∨ m = 4 ∨ m = 5 ∨ m = 6 ∨ m = 7 ∨ m = 8 ∨ m = 9 ∨ m = 10 ∨ 11 ≤ m := by omega
  rcases hc with rfl | rfl | rfl | rfl | rfl | rfl | rfl | rfl | rfl | rfl | rfl | hc
  all_goals try
    go_enter Try.func23, Try.ntmps23
    go_wp2
    go_ret
    exact ⟨rfl, rfl⟩
  have hw : winOf m = 1024 := by
    unfold winOf
    repeat' split
    all_goals omega
  rw [hw]
  go_enter Try.func23, Try.ntmps23
  go_wp2
  go_ret
  exact ⟨rfl, rfl⟩
end Go.Proofs.Ytkpflghhmnkjmaa
