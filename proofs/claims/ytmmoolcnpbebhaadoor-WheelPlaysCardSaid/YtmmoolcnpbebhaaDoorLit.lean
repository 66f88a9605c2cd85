/- A literal of integers as a slice. -/
import Derived.Test.YtmmoolcnpbebhaaDoorBase
namespace Go.Proofs.YtmmoolcnpbebhaaDoor
open Go.RowKit

theorem intsLit {w : World} {g : Nat} {T : TypeId} {zs : List Int} (h : Obj w g T (zs.map (Value.int .i64))) (hl : zs.length ≤ 100) (hf : ∀ k, -9223372036854775808 ≤ zs.getD k 0 ∧ zs.getD k 0 ≤ 9223372036854775807) : Ints w w.heap.size (some ⟨g, 0, none⟩) zs.length zs :=
  ⟨rfl, by omega, fun k hk => ⟨g, 0, rfl, h.lt, by rw [Nat.zero_add, h.cell]; simp only [List.getElem?_map, List.getD_eq_getElem?_getD]; rw [List.getElem?_eq_getElem hk]; rfl⟩, hf⟩
theorem fits_of {zs : List Int} {M : Int} (hM : M ≤ 9223372036854775807) (h : ∀ x ∈ zs, 0 ≤ x ∧ x ≤ M) (k : Nat) : -9223372036854775808 ≤ zs.getD k 0 ∧ zs.getD k 0 ≤ 9223372036854775807 := by
  rcases Nat.lt_or_ge k zs.length with h1 | h1
  · have := h _ (List.getElem_mem h1)
    rw [List.getD_eq_getElem?_getD, List.getElem?_eq_getElem h1]; simp only [Option.getD_some]; omega
  · rw [List.getD_eq_getElem?_getD, List.getElem?_eq_none h1]; simp
end Go.Proofs.YtmmoolcnpbebhaaDoor
