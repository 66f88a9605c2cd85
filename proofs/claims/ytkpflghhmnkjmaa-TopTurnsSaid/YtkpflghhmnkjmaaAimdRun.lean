/- The contract of aimd.Run. -/
import Derived.Test.YtkpflghhmnkjmaaAimd
namespace Go.Proofs.Ytkpflghhmnkjmaa
open Go.RowKit
set_option linter.unusedSimpArgs false
set_option linter.unusedVariables false

/-- A block of its own that begins with these numbers. -/
structure Row (w : World) (B g n : Nat) (zs : List Int) : Prop where
  size : zs.length = n
  base : B ≤ g
  block : ∃ cur : Array Value, w.heap[g]? = some (.cells cur 3 (0, 0)) ∧ n ≤ cur.size ∧ ∀ k, k < n → cur[k]? = some (.int .i64 (zs.getD k 0))
theorem Row.lt {w : World} {B g n : Nat} {zs : List Int} (h : Row w B g n zs) : g < w.heap.size := by
  obtain ⟨cur, h1, _, _⟩ := h.block
  exact lt_of_block h1
theorem Row.cell {w : World} {B g n : Nat} {zs : List Int} (h : Row w B g n zs) (k : Nat) (hk : k < n) : w.cell? ⟨g, k, none⟩ = some (.int .i64 (zs.getD k 0)) := by
  obtain ⟨cur, h1, _, h3⟩ := h.block
  have := h3 k hk
  simp [World.cell?, h1, this]
theorem Row.free {w : World} {B g n : Nat} {zs : List Int} (h : Row w B g n zs) (k : Nat) : w.frozen? ⟨g, k, none⟩ = false := by
  obtain ⟨cur, h1, _, _⟩ := h.block
  simp [World.frozen?, h1]
theorem Row.own {w : World} {B n : Nat} {v : Value} {zs : List Int} (h : w.ownsRow B 3 1 v n (zs.map (.int .i64))) (hl : zs.length = n) (hn : 1 ≤ n) : ∃ g c, v = .slice (some ⟨g, 0, none⟩) n c ∧ Row w B g n zs := by
  rcases h.2 with ⟨_, h1⟩ | ⟨g, cap, cur, hv, hb, hg, hc, hm, hs, ht⟩
  · omega
  · refine ⟨g, cap, hv, hl, hb, cur, hg, by omega, fun k hk => ?_⟩
    have h2 : (cur.toList.take (n * 1))[k]? = (zs.map (Value.int .i64))[k]? := by rw [ht]
    have hkz : k < zs.length := by omega
    rw [List.getElem?_take_of_lt (by omega), List.getElem?_map, List.getElem?_eq_getElem hkz] at h2
    simp only [Option.map_some] at h2
    rw [← Array.getElem?_toList, h2, List.getD_eq_getElem?_getD, List.getElem?_eq_getElem hkz]; rfl
theorem Row.set {w : World} {B g n : Nat} {zs : List Int} (h : Row w B g n zs) (k : Nat) (hk : k < n) (x : Int) : Row (w.setCell ⟨g, k, none⟩ (.int .i64 x)) B g n (zs.set k x) := by
  obtain ⟨cur, h1, h2, h3⟩ := h.block
  have hlt := lt_of_block h1
  have h' : w.heap[g] = .cells cur 3 (0, 0) := by simpa [Array.getElem?_eq_getElem hlt] using h1
  refine ⟨by simpa using h.size, h.base, cur.setIfInBounds k (.int .i64 x), ?_, by simpa using h2, fun j hj => ?_⟩
  · show (w.heap.modify g _)[g]? = _
    rw [Array.getElem?_eq_getElem (by simpa using hlt), Array.getElem_modify_self, h']
    rfl
  · have hz := h.size
    rw [List.getD_eq_getElem?_getD, List.getElem?_set]
    by_cases e : k = j
    · subst e
      rw [if_pos rfl, if_pos (by omega), Array.getElem?_setIfInBounds_self_of_lt (by omega)]; rfl
    · rw [if_neg e, Array.getElem?_setIfInBounds_ne e, h3 j hj, List.getD_eq_getElem?_getD]
theorem Row.ints {w : World} {B g n : Nat} {zs : List Int} (h : Row w B g n zs) (hn : n ≤ 1000) {M : Int} (hM : M ≤ 1000000) (hf : ∀ x ∈ zs, 0 ≤ x ∧ x ≤ M) : Ints w w.heap.size (some ⟨g, 0, none⟩) n zs :=
  ⟨h.size, by omega, fun k hk => ⟨g, 0, rfl, h.lt, by rw [Nat.zero_add]; exact h.cell k hk⟩, fun k => by
    rcases Nat.lt_or_ge k zs.length with h1 | h1
    · have := hf _ (List.getElem_mem h1)
      rw [List.getD_eq_getElem?_getD, List.getElem?_eq_getElem h1]; simp only [Option.getD_some]; omega
    · rw [List.getD_eq_getElem?_getD, List.getElem?_eq_none h1]; simp⟩
theorem mem_getD {zs : List Int} {P : Int → Prop} (h : ∀ x ∈ zs, P x) (k : Nat) (hk : k < zs.length) : P (zs.getD k 0) := by
  rw [List.getD_eq_getElem?_getD, List.getElem?_eq_getElem hk]; exact h _ (List.getElem_mem hk)
/-- The first i are changed, the others not yet. -/
def mix (f : Int → Int) (l : List Int) (i : Nat) : List Int := (l.take i).map f ++ l.drop i
theorem mix_at (f : Int → Int) (l : List Int) (i : Nat) (h : i < l.length) : (mix f l i).getD i 0 = l.getD i 0 := by
  have e : ((l.take i).map f).length = i := by simp; omega
  unfold mix
  rw [List.getD_eq_getElem?_getD, List.getElem?_append_right (by omega), e, Nat.sub_self, List.getElem?_drop, Nat.add_zero, List.getD_eq_getElem?_getD]
theorem mix_set (f : Int → Int) (l : List Int) (i : Nat) (h : i < l.length) : (mix f l i).set i (f (l.getD i 0)) = mix f l (i + 1) := by
  have e : ((l.take i).map f).length = i := by simp; omega
  unfold mix
  rw [List.set_append_right i _ (by omega), e, Nat.sub_self, List.drop_eq_getElem_cons h, List.set_cons_zero, List.take_succ_eq_append_getElem h]
  have eg : l.getD i 0 = l[i] := by simp [List.getD_eq_getElem?_getD, h]
  rw [eg]
  simp only [List.map_append, List.map_cons, List.map_nil, List.append_assoc, List.cons_append, List.nil_append]
theorem mix_all (f : Int → Int) (l : List Int) (i : Nat) (h : l.length ≤ i) : mix f l i = l.map f := by
  unfold mix; rw [List.take_of_length_le h, List.drop_of_length_le h, List.append_nil]
end Go.Proofs.Ytkpflghhmnkjmaa
