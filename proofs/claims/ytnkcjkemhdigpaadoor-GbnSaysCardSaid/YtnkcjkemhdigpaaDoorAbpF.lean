/- abp.Run where something is wrong; literals as slices; the closed fact. -/
import Derived.Test.YtnkcjkemhdigpaaDoorAbpRun
import Derived.Test.YtnkcjkemhdigpaaDoorInts
namespace Go.Proofs.YtnkcjkemhdigpaaDoor
open Go.RowKit
set_option linter.unusedSimpArgs false
set_option linter.unusedVariables false

theorem arun_no (a : Option Addr) (len cap : Nat) (af : Option Addr) (lf cf : Nat) (zs : List Int) (B : Nat) (w : World) (hI : Ints w B a len zs) (he : sentE zs lf ≠ 0) :
    Calls Tryd.prog 9 #[.slice a len cap, .slice af lf cf] w fun e w' => e = .returned (.tuple #[.slice none 0 0, .int .i64 0, errV (sentE zs lf)]) ∧ w = w' := by
  have C := Lib.hid (fun w' h => acheck_any a len cap af lf cf zs B w' h)
  have HI := Lib.hid hI; clear hI
  have hv : errOf (sentE zs lf) = errV (sentE zs lf) := by unfold errOf; rw [if_neg he]
  rw [hv] at C
  clear hv he
  generalize sentE zs lf = n at *
  go_enter Tryd.func9, Tryd.ntmps9
  go_wp2_with fail
  refine (C.out _ HI.out).mono ?_
  rintro e w' ⟨rfl, rfl⟩
  go_wp2
  go_ret3
  exact ⟨rfl, rfl⟩

theorem ints_lit {w : World} {g : Nat} {zs : List Int} (h : Obj w g 3 (zs.map (Value.int .i64))) (hl : zs.length ≤ 100) (hf : ∀ k, -9223372036854775808 ≤ zs.getD k 0 ∧ zs.getD k 0 ≤ 9223372036854775807) : Ints w w.heap.size (some ⟨g, 0, none⟩) zs.length zs :=
  ⟨rfl, by omega, fun k hk => ⟨g, 0, rfl, h.lt, by rw [Nat.zero_add, h.cell]; simp only [List.getElem?_map, List.getD_eq_getElem?_getD]; rw [List.getElem?_eq_getElem hk]; rfl⟩, hf⟩
/-- Pairs of bools, cell by cell. -/
def flat : List (Bool × Bool) → List Value
  | [] => []
  | f :: fs => .bool f.1 :: .bool f.2 :: flat fs
theorem flat_at (fs : List (Bool × Bool)) (k : Nat) (hk : k < fs.length) : (flat fs)[k * 2]? = some (.bool (fs.getD k (false, false)).1) ∧ (flat fs)[k * 2 + 1]? = some (.bool (fs.getD k (false, false)).2) := by
  induction fs generalizing k with
  | nil => simp at hk
  | cons f fs ih =>
    cases k with
    | zero => exact ⟨rfl, rfl⟩
    | succ k =>
      have := ih k (by simpa using hk)
      rw [show (k + 1) * 2 = k * 2 + 1 + 1 from by omega]
      exact this
theorem pairs_lit {w : World} {g : Nat} {fs : List (Bool × Bool)} (h : Obj w g 44 (flat fs)) (hl : fs.length ≤ 1000) : Pairs w w.heap.size (some ⟨g, 0, none⟩) fs.length fs :=
  ⟨rfl, by omega, fun k hk => ⟨g, 0, rfl, h.lt, by rw [Nat.zero_add, h.cell]; exact (flat_at fs k hk).1, by rw [Nat.zero_add, h.cell]; exact (flat_at fs k hk).2⟩⟩

theorem sent_ok {zs : List Int} {lf : Nat} (h1 : zs.length ≤ 20) (h2 : lf ≤ 200) (h : ∀ k, k < zs.length → 0 ≤ zs.getD k 0 ∧ zs.getD k 0 ≤ 1000) : sentE zs lf = 0 := by
  rcases sent_cases zs lf with ⟨h', e⟩ | ⟨_, _, ⟨k, hk, hz⟩, e⟩ | ⟨_, _, _, e⟩
  · omega
  · have := h k hk; omega
  · exact e
end Go.Proofs.YtnkcjkemhdigpaaDoor
