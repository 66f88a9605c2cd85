/- The contracts of core.Queue of numbers: Push, Pop. -/
import Derived.Test.YtnkcjkemhdigpaaCore
import Derived.Test.YtnkcjkemhdigpaaCel
import Derived.ArgAppend
import Derived.OwnWalk
namespace Go.Proofs.Ytnkcjkemhdigpaa
open Go.RowKit
set_option linter.unusedSimpArgs false
set_option linter.unusedVariables false

theorem infoQ : (Try.prog.info? 3).map (fun i => (i.zero, i.size, i.bytes)) = some (some (.int .i64 0), 1, 8) := by kernel_rfl

/-- Where the numbers of a queue lie: a slice, and its array's block. -/
def Qs (w : World) (B : Nat) (a : Option Addr) (c : Nat) (q : List Nat) (ar : Option Nat) : Prop :=
  (a = none ∧ q = [] ∧ c = 0 ∧ ar = none) ∨ ∃ (g off : Nat) (cur : List Value), a = some ⟨g, off, none⟩ ∧ ar = some g ∧ B ≤ g ∧ Obj w g 3 cur ∧ q.length ≤ c ∧ c ≤ maxLen ∧ off + c ≤ cur.length ∧ ∀ j, j < q.length → cur[off + j]? = some (.int .i64 ((q.getD j 0 : Nat) : Int))
/-- A queue in block tb. -/
def Qu (w : World) (tb B : Nat) (q : List Nat) (ar : Option Nat) : Prop :=
  ∃ a c, Obj w tb 41 [.slice a q.length c] ∧ Qs w B a c q ar
theorem Qs.block {w w' : World} {B : Nat} {a : Option Addr} {c : Nat} {q : List Nat} {ar : Option Nat} (h : Qs w B a c q ar) (hb : ∀ g, ar = some g → w'.heap[g]? = w.heap[g]?) : Qs w' B a c q ar := by
  rcases h with h | ⟨g, off, cur, h1, h2, h3, h4, h5⟩
  · exact .inl h
  · exact .inr ⟨g, off, cur, h1, h2, h3, (hb g h2).trans h4, h5⟩
theorem Qs.lt {w : World} {B : Nat} {a : Option Addr} {c : Nat} {q : List Nat} {ar : Option Nat} (h : Qs w B a c q ar) : ∀ g, ar = some g → g < w.heap.size ∧ B ≤ g := fun g e => by
  rcases h with ⟨_, _, _, h⟩ | ⟨g', off, cur, h1, h2, h3, h4, h5⟩
  · rw [h] at e; simp at e
  · rw [h2] at e; simp only [Option.some.injEq] at e; subst e
    exact ⟨lt_of_block h4, h3⟩
theorem Qs.kept {w w' : World} {B : Nat} {a : Option Addr} {c : Nat} {q : List Nat} {ar r : Option Nat} (h : Qs w B a c q ar) (hg : w.grownBy w' r) (hr : ∀ g, ar = some g → r ≠ some g) : Qs w' B a c q ar :=
  h.block fun g e => hg.block g (h.lt g e).1 (fun e' => hr g e e'.symm)
theorem Qu.lt {w : World} {tb B : Nat} {q : List Nat} {ar : Option Nat} (h : Qu w tb B q ar) : ∀ g, ar = some g → g < w.heap.size ∧ B ≤ g := by
  obtain ⟨a, c, h1, h2⟩ := h
  exact h2.lt
theorem Qu.tbl {w : World} {tb B : Nat} {q : List Nat} {ar : Option Nat} (h : Qu w tb B q ar) : tb < w.heap.size := by
  obtain ⟨a, c, h1, h2⟩ := h
  exact h1.lt
theorem Qu.kept {w w' : World} {tb B : Nat} {q : List Nat} {ar r : Option Nat} (h : Qu w tb B q ar) (hg : w.grownBy w' r) (hr : ∀ g, ar = some g → r ≠ some g) (ht : r ≠ some tb) : Qu w' tb B q ar := by
  obtain ⟨a, c, h1, h2⟩ := h
  exact ⟨a, c, h1.kept hg (Ne.symm ht), h2.kept hg hr⟩
theorem Qu.alloc {w : World} {tb B : Nat} {q : List Nat} {ar : Option Nat} (h : Qu w tb B q ar) (o : Go.Obj) : Qu (w.alloc o) tb B q ar :=
  h.kept (r := none) (World.grownBy_alloc w o none) (fun _ _ => by simp) (by simp)
theorem Qu.drewN {w : World} {tb B : Nat} {q : List Nat} {ar : Option Nat} (h : Qu w tb B q ar) (n : Nat) : Qu (w.drewN n) tb B q ar := h
theorem Qu.setCell {w : World} {tb B g j : Nat} {q : List Nat} {ar : Option Nat} (h : Qu w tb B q ar) (h1 : g ≠ tb) (h2 : ar ≠ some g) (u : Value) : Qu (w.setCell ⟨g, j, none⟩ u) tb B q ar :=
  h.kept (r := some g) (grown_set (grown_refl _ _) _ _) (fun g' e e' => h2 (by rw [e]; exact e'.symm)) (by simpa using h1)

theorem pop_none (tb B : Nat) (ar : Option Nat) (w : World) (hQ : Qu w tb B [] ar) :
    Calls Try.prog 23 #[.pointer (some ⟨tb, 0, none⟩)] w fun e w' => e = .returned (.tuple #[.int .i64 0, .bool false]) ∧ w = w' := by
  obtain ⟨a, c, h1, h2⟩ := hQ
  have c0 := h1.cell 0
  simp only [List.getElem?_cons_zero, List.length_nil] at c0
  clear h1 h2
  go_enter Try.func23, Try.ntmps23
  go_wp2_with fail
  go_ret2
  exact ⟨rfl, rfl⟩

set_option maxHeartbeats 4000000 in
theorem pop_some (tb B x : Nat) (q : List Nat) (ar : Option Nat) (w : World) (hQ : Qu w tb B (x :: q) ar) (hne : ar ≠ some tb) :
    Calls Try.prog 23 #[.pointer (some ⟨tb, 0, none⟩)] w fun e w' => e = .returned (.tuple #[.int .i64 x, .bool true]) ∧ Qu w' tb B q ar ∧ w.grownBy w' (some tb) := by
  obtain ⟨a, c, h1, h2⟩ := hQ
  rcases h2 with ⟨_, h, _⟩ | ⟨g, off, cur, rfl, rfl, h3, h4, h5, h6, h7, h8⟩
  · simp at h
  have c0 := h1.cell 0
  have f0 := h1.free 0
  simp only [List.getElem?_cons_zero, List.length_cons] at c0 h5
  have hx : w.cell? ⟨g, off, none⟩ = some (.int .i64 (x : Int)) := by
    have := h8 0 (by simp)
    simp at this
    rw [h4.cell, this]
  have hgt : g ≠ tb := fun e => hne (by rw [e])
  have hm : maxLen = 9223372036854775807 := rfl
  have HO := Lib.hid h1; clear h1
  have H8 := Lib.hid h8; clear h8
  have H4 := Lib.hid h4; clear h4
  have hq0 : (((q.length : Int) + 1) == 0) = false := by simp; omega
  have q1 : (1 : Int) ≤ (q.length : Int) + 1 := by omega
  have q2 : (q.length : Int) + 1 ≤ (c : Int) := by omega
  have q3 : (0 : Int) < (q.length : Int) + 1 := by omega
  by_cases hc : c = 1
  · subst hc
    obtain rfl : q = [] := by
      cases q with
      | nil => rfl
      | cons y q => simp at h5
    go_enter Try.func23, Try.ntmps23
    go_wp2_with fail
    go_region
    go_wp2_with fail
    go_ret2
    exact ⟨rfl, ⟨_, _, HO.out.set 0 _, .inr ⟨g, off, cur, rfl, rfl, h3, (Below.heap_setCell _ _ _ _ hgt).trans H4.out, by simp, by unfold maxLen; omega, by omega, fun j hj => by simp at hj⟩⟩, grown_drew (grown_set (grown_refl _ _) _ _)⟩
  · go_enter Try.func23, Try.ntmps23
    go_wp2_with fail
    go_region
    go_wp2_with fail
    go_ret2
    refine ⟨rfl, ⟨_, _, HO.out.set 0 _, .inr ⟨g, off + 1, cur, rfl, rfl, h3, (Below.heap_setCell _ _ _ _ hgt).trans H4.out, by omega, by omega, by omega, fun j hj => ?_⟩⟩, grown_drew (grown_set (grown_refl _ _) _ _)⟩
    have := H8.out (j + 1) (by simp; omega)
    rw [show off + 1 + j = off + (j + 1) from by omega]
    simpa using this

/-- An owned row, as a queue's numbers. -/
theorem qs_own {w : World} {B B' : Nat} {v : Value} {q : List Nat} (h : w.ownsRow B' 3 1 v q.length (q.map fun x : Nat => Value.int .i64 (x : Int))) (hB : B ≤ B') (hp : q ≠ []) : ∃ g c, v = .slice (some ⟨g, 0, none⟩) q.length c ∧ B' ≤ g ∧ g < w.heap.size ∧ Qs w B (some ⟨g, 0, none⟩) c q (some g) := by
  have hl : 1 ≤ q.length := by cases q with
    | nil => exact absurd rfl hp
    | cons x q => simp
  rcases h.2 with ⟨_, h0⟩ | ⟨g, cap, cur, hv, hb, hg, h1, h2, h3, h4⟩
  · omega
  · refine ⟨g, cap, hv, hb, lt_of_block hg, .inr ⟨g, 0, cur.toList, rfl, rfl, by omega, by show _ = _; simpa using hg, h1, h2, by simp; omega, fun j hj => ?_⟩⟩
    have h5 : cur.toList[j]? = some (.int .i64 ((q.getD j 0 : Nat) : Int)) := by
      have h6 : (cur.toList.take (q.length * 1))[j]? = cur.toList[j]? := List.getElem?_take_of_lt (by omega)
      rw [← h6, h4]
      simp [List.getD_eq_getElem?_getD, hj]
    rw [Nat.zero_add]; exact h5

set_option maxHeartbeats 4000000 in
theorem push_any (tb B x : Nat) (q : List Nat) (ar : Option Nat) (w : World) (hQ : Qu w tb B q ar) (hne : ar ≠ some tb) (hB : B ≤ w.heap.size) (hq : q.length ≤ 100000) :
    Calls Try.prog 22 #[.pointer (some ⟨tb, 0, none⟩), .int .i64 x] w fun e w' => e = .returned (.tuple #[]) ∧ ∃ ar' w1, Qu w' tb B (q ++ [x]) ar' ∧ w.grownBy w1 ar ∧ w1.grownBy w' (some tb) ∧ (ar' = ar ∨ ∃ g, ar' = some g ∧ w.heap.size ≤ g) := by
  obtain ⟨i0, hi, hz0, hz1, hz2⟩ := info_parts infoQ
  obtain ⟨a, c, h1, h2⟩ := hQ
  have c0 := h1.cell 0
  have f0 := h1.free 0
  have htl := h1.lt
  simp only [List.getElem?_cons_zero] at c0
  have HO := Lib.hid h1; clear h1
  rcases h2 with ⟨rfl, rfl, rfl, rfl⟩ | ⟨g, off, cur, rfl, rfl, h3, h4, h5, h6, h7, h8⟩
  · go_enter Try.func22, Try.ntmps22
    go_wp2_with (first | (at_builtin; go_loud (refine wpList_append_grows _ rfl _ _ 22 rfl 3 i0 (.int .i64 0) 1 8 Try.underlying22 hi hz0 hz1 hz2 rfl (by decide) none 0 0 [] rfl (fun _ => ⟨rfl, rfl⟩) rfl (fun b h => by simp at h) ⟨w.heap.size, 0, none⟩ 1 1 [.int .i64 x] rfl rfl (cell_one_new _ _ _) (by intro u hu; simp at hu; subst hu; rfl) (by decide) (by decide) (by decide) ?_)))
    intro v9 w9 hown hgrow
    have hg2 : w.grownBy w9 none := (World.grownBy_alloc w _ none).trans hgrow
    obtain ⟨g9, c9, hv, hb9, hl9, hqs⟩ := qs_own (q := [x]) (B := B) (B' := w.heap.size + 1) (by simpa using hown) (by omega) (by simp)
    subst hv
    have HO9 : Hid (Obj w9 tb 41 [.slice none 0 0]) := HO.out.kept hg2 (by simp)
    have d0 := HO9.out.cell 0
    have e0 := HO9.out.free 0
    simp only [List.getElem?_cons_zero] at d0
    have HG := Lib.hid hg2
    have HQ := Lib.hid hqs
    have hb9 : w.heap.size + 1 ≤ g9 := by simpa using hb9
    clear hown hgrow hg2 hqs c0 f0
    go_wp2_with fail
    go_end0
    have hne9 : g9 ≠ tb := by omega
    exact ⟨rfl, some g9, w9, ⟨_, _, HO9.out.set 0 _, HQ.out.kept (r := some tb) (grown_set (grown_refl _ _) _ _) (fun g' e e' => hne9 (by simp at e e'; omega))⟩, HG.out, grown_set (grown_refl _ _) _ _, .inr ⟨g9, rfl, by omega⟩⟩
  · have hgt : g ≠ tb := fun e => hne (by rw [e])
    have hgl := lt_of_block h4
    have H8 := Lib.hid h8; clear h8
    have H4 := Lib.hid h4; clear h4
    have olds : Hid (∀ j u, (q.map fun x : Nat => Value.int .i64 (x : Int))[j]? = some u → w.cell? ⟨g, off + j, none⟩ = some u) := fun j u hu => by
      have hj : j < q.length := by
        rcases Nat.lt_or_ge j q.length with h | h
        · exact h
        · rw [List.getElem?_eq_none (by simpa using h)] at hu; simp at hu
      have := H8.out j hj
      rw [H4.out.cell]
      rw [List.getElem?_map, List.getElem?_eq_getElem hj] at hu
      simp only [Option.map_some, Option.some.injEq] at hu
      rw [← hu]
      simpa [List.getD_eq_getElem?_getD, hj] using this
    have holds : Hid (∀ j u, (q.map fun x : Nat => Value.int .i64 (x : Int))[j]? = some u → (w.alloc (.cells #[.int .i64 (x : Int)] 3 (0, 0))).cell? ⟨g, off + j, none⟩ = some u) := fun j u hu => by
      rw [World.cell?_alloc_lt _ _ ⟨g, off + j, none⟩ hgl]; exact olds.out j u hu
    have hspare : Hid (q.length + 1 ≤ c → ∀ j, j < [Value.int .i64 (x : Int)].length → ((w.alloc (.cells #[.int .i64 (x : Int)] 3 (0, 0))).cell? ⟨g, off + q.length * 1 + j, none⟩).isSome = true ∧ (w.alloc (.cells #[.int .i64 (x : Int)] 3 (0, 0))).frozen? ⟨g, off + q.length * 1 + j, none⟩ = false) := fun hr j hj => by
      simp at hj; subst hj
      rw [World.cell?_alloc_lt _ _ ⟨g, _, none⟩ hgl, World.frozen?_alloc_old _ _ ⟨g, _, none⟩ (Nat.ne_of_lt hgl)]
      have hlt : off + q.length * 1 + 0 < cur.length := by omega
      constructor
      · rw [H4.out.cell, List.getElem?_eq_getElem hlt]; rfl
      · exact H4.out.free _
    go_enter Try.func22, Try.ntmps22
    go_wp2_with (first | (at_builtin; go_loud (refine wpList_append_arg _ rfl _ _ 22 rfl 3 i0 (.int .i64 0) 1 8 Try.underlying22 hi hz0 hz1 hz2 rfl (by decide) g off q.length c (q.map fun x : Nat => Value.int .i64 (x : Int)) rfl (by simp) holds.out ⟨w.heap.size, 0, none⟩ 1 1 [.int .i64 x] rfl rfl (cell_one_new _ _ _) (by intro u hu; simp at hu; subst hu; rfl) hspare.out (by unfold maxLen; omega) (by omega) ?_ ?_)))
    · intro hr
      have hg0 : w.grownBy ((w.alloc (.cells #[.int .i64 (x : Int)] 3 (0, 0))).setCells g (off + q.length) [.int .i64 (x : Int)]) (some g) := grown_set (grown_any (World.grownBy_alloc w _ none)) _ _
      have hb0 : Obj ((w.alloc (.cells #[.int .i64 (x : Int)] 3 (0, 0))).setCells g (off + q.length) [.int .i64 (x : Int)]) g 3 (cur.set (off + q.length) (.int .i64 (x : Int))) := (H4.out.alloc (.cells #[.int .i64 (x : Int)] 3 (0, 0))).set _ _
      obtain ⟨w9, hw9⟩ : ∃ w9, w9 = (w.alloc (.cells #[.int .i64 (x : Int)] 3 (0, 0))).setCells g (off + q.length) [.int .i64 (x : Int)] := ⟨_, rfl⟩
      have hg2 : w.grownBy w9 (some g) := by rw [hw9]; exact hg0
      have hb9 : Obj w9 g 3 (cur.set (off + q.length) (.int .i64 (x : Int))) := by rw [hw9]; exact hb0
      have hqs : Qs w9 B (some ⟨g, off, none⟩) c (q ++ [x]) (some g) := .inr ⟨g, off, _, rfl, rfl, h3, hb9, by simp; omega, h6, by simpa using h7, fun j hj => by
        rw [List.getElem?_set]
        rcases Nat.lt_or_ge j q.length with hj2 | hj2
        · rw [if_neg (by omega)]
          have := H8.out j hj2
          rw [this]
          simp only [List.getD_eq_getElem?_getD]
          rw [List.getElem?_append_left hj2]
        · obtain rfl : j = q.length := by simp at hj; omega
          rw [if_pos rfl, if_pos (by omega)]
          simp⟩
      have HO9 : Hid (Obj w9 tb 41 [.slice (some ⟨g, off, none⟩) q.length c]) := HO.out.kept hg2 (by simpa using Ne.symm hgt)
      have d0 := HO9.out.cell 0
      have e0 := HO9.out.free 0
      simp only [List.getElem?_cons_zero] at d0
      have HG := Lib.hid hg2
      have HQ := Lib.hid hqs
      clear hg2 hqs hb9 c0 f0 hg0 hb0
      have hwd : (w.alloc (.cells #[.int .i64 (x : Int)] 3 (0, 0))).setCells g (off + q.length) [.int .i64 (x : Int)] = w9 := hw9.symm
      clear hw9
      go_wp2_with fail
      go_end0
      refine ⟨rfl, some g, w9, ⟨some ⟨g, off, none⟩, c, ?_, HQ.out.kept (r := some tb) (grown_set (grown_refl _ _) _ _) (fun g' e e' => hgt (by simp at e e'; omega))⟩, HG.out, grown_set (grown_refl _ _) _ _, .inl rfl⟩
      simpa using HO9.out.set 0 (.slice (some ⟨g, off, none⟩) (q.length + 1) c)
    · intro hr v9 w9 hown hgrow
      have hg2 : w.grownBy w9 none := (World.grownBy_alloc w _ none).trans hgrow
      obtain ⟨g9, c9, hv, hb9, hl9, hqs⟩ := qs_own (q := q ++ [x]) (B := B) (B' := w.heap.size + 1) (by simpa using hown) (by omega) (by simp)
      subst hv
      have HO9 : Hid (Obj w9 tb 41 [.slice (some ⟨g, off, none⟩) q.length c]) := HO.out.kept hg2 (by simp)
      have d0 := HO9.out.cell 0
      have e0 := HO9.out.free 0
      simp only [List.getElem?_cons_zero] at d0
      have HG := Lib.hid (show w.grownBy w9 (some g) from grown_any hg2)
      have HQ := Lib.hid hqs
      have hb9 : w.heap.size + 1 ≤ g9 := by simpa using hb9
      clear hown hgrow hg2 hqs c0 f0
      go_wp2_with fail
      go_end0
      have hne9 : g9 ≠ tb := by omega
      refine ⟨rfl, some g9, w9, ⟨_, _, ?_, HQ.out.kept (r := some tb) (grown_set (grown_refl _ _) _ _) (fun g' e e' => hne9 (by simp at e e'; omega))⟩, HG.out, grown_set (grown_refl _ _) _ _, .inr ⟨g9, rfl, by omega⟩⟩
      simpa using HO9.out.set 0 (.slice (some ⟨g9, 0, none⟩) (q.length + 1) c9)
end Go.Proofs.Ytnkcjkemhdigpaa
