/- A block of the call's own whose first cells are known. -/
import Derived.Test.YtmmoolcnpbebhaaDoorBase
import Derived.Deep.AppendLies
import Derived.Lib.BufferMore
namespace Go.Proofs.YtmmoolcnpbebhaaDoor
open Go.RowKit

/-- Block g begins with the cells xs (of type T), none frozen. -/
def Cel (w : World) (g : Nat) (T : TypeId) (xs : List Value) : Prop := ∃ cur : Array Value, w.heap[g]? = some (.cells cur T (0, 0)) ∧ cur.toList.take xs.length = xs
theorem Cel.own {w : World} {B T size n g c : Nat} {xs : List Value} (h : w.ownsRow B T size (.slice (some ⟨g, 0, none⟩) n c) n xs) : Cel w g T xs ∧ B ≤ g := by
  rcases h.2 with ⟨h', _⟩ | ⟨g', cap', cur, h', hb, hg, _, _, _, htake⟩
  · simp at h'
  · simp only [Value.slice.injEq, Option.some.injEq, Addr.mk.injEq, and_true, true_and] at h'
    obtain ⟨rfl, rfl⟩ := h'
    exact ⟨⟨cur, hg, by rw [h.1]; exact htake⟩, hb⟩
theorem Cel.form {w : World} {B T size n : Nat} {v : Value} {xs : List Value} (h : w.ownsRow B T size v n xs) (hn : 1 ≤ n) : ∃ g c, v = .slice (some ⟨g, 0, none⟩) n c ∧ Cel w g T xs ∧ B ≤ g := by
  rcases h.2 with ⟨_, h1⟩ | ⟨g, c, _, hv, _⟩
  · omega
  · subst hv; exact ⟨g, c, rfl, Cel.own h⟩
theorem Cel.obj {w : World} {g : Nat} {T : TypeId} {xs : List Value} (h : Obj w g T xs) : Cel w g T xs := ⟨xs.toArray, h, by simp⟩
theorem Cel.lt {w : World} {g : Nat} {T : TypeId} {xs : List Value} (h : Cel w g T xs) : g < w.heap.size := by
  obtain ⟨cur, h1, _⟩ := h
  exact lt_of_block h1
theorem Cel.cell {w : World} {g : Nat} {T : TypeId} {xs : List Value} (h : Cel w g T xs) (j : Nat) (hj : j < xs.length) : w.cell? ⟨g, j, none⟩ = xs[j]? := by
  obtain ⟨cur, hg, ht⟩ := h
  rw [cell_of_row w g j cur T (0, 0) hg, ← Array.getElem?_toList]
  have : (cur.toList.take xs.length)[j]? = cur.toList[j]? := List.getElem?_take_of_lt hj
  rw [← this, ht]
theorem Cel.free {w : World} {g : Nat} {T : TypeId} {xs : List Value} (h : Cel w g T xs) (j : Nat) : w.frozen? ⟨g, j, none⟩ = false := by
  obtain ⟨cur, hg, _⟩ := h
  exact frozen_of_row w g j cur T hg
theorem Cel.set {w : World} {g : Nat} {T : TypeId} {xs : List Value} (h : Cel w g T xs) (j : Nat) (u : Value) : Cel (w.setCell ⟨g, j, none⟩ u) g T (xs.set j u) := by
  obtain ⟨cur, hg, ht⟩ := h
  refine ⟨cur.setIfInBounds j u, heap_setCell_same w g j cur T u hg, ?_⟩
  rw [List.length_set, Array.toList_setIfInBounds, List.take_set, ht]
theorem Cel.alloc {w : World} {g : Nat} {T : TypeId} {xs : List Value} (h : Cel w g T xs) (o : Go.Obj) : Cel (w.alloc o) g T xs := by
  have hl := h.lt
  obtain ⟨cur, hg, ht⟩ := h
  refine ⟨cur, ?_, ht⟩
  show (w.heap.push o)[g]? = _
  rw [Array.getElem?_push, if_neg (by omega)]; exact hg
theorem Cel.drewN {w : World} {g : Nat} {T : TypeId} {xs : List Value} (h : Cel w g T xs) (n : Nat) : Cel (w.drewN n) g T xs := h
theorem Cel.drew {w : World} {g : Nat} {T : TypeId} {xs : List Value} (h : Cel w g T xs) : Cel w.drew g T xs := h
theorem Cel.kept {w w' : World} {g : Nat} {T : TypeId} {xs : List Value} {r : Option Nat} (h : Cel w g T xs) (hg : w.grownBy w' r) (hr : some g ≠ r) : Cel w' g T xs := by
  have hl := h.lt
  obtain ⟨cur, h1, ht⟩ := h
  exact ⟨cur, (hg.block g hl hr).trans h1, ht⟩
theorem Cel.below {w w' : World} {B g : Nat} {T : TypeId} {xs : List Value} (h : Cel w g T xs) (hb : Below B w w') (hg : g < B) : Cel w' g T xs := by
  obtain ⟨cur, h1, ht⟩ := h
  exact ⟨cur, (hb.block g hg).trans h1, ht⟩
theorem map_at {α : Type} (f : α → Value) (l : List α) (d : α) (k : Nat) (hk : k < l.length) : (l.map f)[k]? = some (f (l.getD k d)) := by
  rw [List.getElem?_map, List.getElem?_eq_getElem hk, List.getD_eq_getElem?_getD, List.getElem?_eq_getElem hk]; rfl
theorem set_map {α : Type} (f : α → Value) (l : List α) (k : Nat) (x : α) : (l.map f).set k (f x) = (l.set k x).map f := by
  rw [List.map_set]
/-- The row that an append leaves, read as integers. -/
theorem Cel.ints {w : World} {g : Nat} {T : TypeId} {zs : List Int} {n : Nat} (h : Cel w g T (zs.map (.int .i64))) (hl : zs.length = n) (hn : n ≤ 100000) (hf : ∀ k, -9223372036854775808 ≤ zs.getD k 0 ∧ zs.getD k 0 ≤ 9223372036854775807) : Ints w w.heap.size (some ⟨g, 0, none⟩) n zs :=
  ⟨hl, by omega, fun k hk => ⟨g, 0, rfl, h.lt, by rw [Nat.zero_add, h.cell k (by simpa using (by omega : k < zs.length))]; exact map_at _ _ _ _ (by omega)⟩, hf⟩
theorem below_row {B b : Nat} {w w' w'' : World} {v : Value} {e size n : Nat} {xs : List Value} (h : Below B w w') (hg : w'.grownBy w'' v.ownBlock) (hb : B ≤ b) (hB : B ≤ w'.heap.size) (ho : w'.ownsRow b e size v n xs) : Below B w w'' :=
  h.grown hg hB (fun k hk => by have := (ho.lt k hk).1; omega)
theorem own_drewN {b : Nat} {w : World} {v : Value} {e size n : Nat} {xs : List Value} (ho : w.ownsRow b e size v n xs) (m : Nat) : (w.drewN m).ownsRow b e size v n xs := ho
theorem own_ne {b g : Nat} {w : World} {v : Value} {e size n : Nat} {xs : List Value} (ho : w.ownsRow b e size v n xs) (hb : g < b) : some g ≠ v.ownBlock := fun h => by
  have := (ho.lt g h.symm).1; omega
end Go.Proofs.YtmmoolcnpbebhaaDoor
