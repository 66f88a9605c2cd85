/- abp.Run where something is wrong; literals as slices; the closed fact. -/
import Derived.Test.YtnkcjkemhdigpaaAbpRun
import Derived.Test.YtnkcjkemhdigpaaInts
namespace Go.Proofs.Ytnkcjkemhdigpaa
open Go.RowKit
set_option linter.unusedSimpArgs false
set_option linter.unusedVariables false

theorem arun_no (a : Option Addr) (len cap : Nat) (af : Option Addr) (lf cf : Nat) (zs : List Int) (B : Nat) (w : World) (hI : Ints w B a len zs) (he : sentE zs lf ≠ 0) :
    Calls Try.prog 12 #[.slice a len cap, .slice af lf cf] w fun e w' => e = .returned (.tuple #[.slice none 0 0, .int .i64 0, errV (sentE zs lf)]) ∧ w = w' := by
  have C := Lib.hid (fun w' h => acheck_any a len cap af lf cf zs B w' h)
  have HI := Lib.hid hI; clear hI
  have hv : errOf (sentE zs lf) = errV (sentE zs lf) := by unfold errOf; rw [if_neg he]
  rw [hv] at C
  clear hv he
  generalize sentE zs lf = n at *
  go_enter Try.func12, Try.ntmps12
  go_wp2_with fail
  refine (C.out _ HI.out).mono ?_
  rintro e w' ⟨rfl, rfl⟩
  go_wp2
  go_ret3
  exact ⟨rfl, rfl⟩

theorem ints_lit {w : World} {g : Nat} {zs : List Int} (h : Obj w g 3 (zs.map (Value.int .i64))) (hl : zs.length ≤ 100) (hf : ∀ k, -9223372036854775808 ≤ zs.getD k 0 ∧ zs.getD k 0 ≤ 9223372036854775807) : Ints w w.heap.size (some ⟨g, 0, none⟩) zs.length zs :=
  ⟨rfl, by omega, fun k hk => ⟨g, 0, rfl, h.lt, by rw [Nat.zero_add, h.cell]; simp only [List.getElem?_map, List.getD_eq_getElem?_getD]; rw [List.getElem?_eq_getElem hk]; rfl⟩, hf⟩
/-- Pairs of bools, cell by cell. -/
def flat : List (Bool × Bool) → List Value
  | [] => []
  | f :: fs => .bool f.1 :: .bool f.2 :: flat fs
theorem flat_at (fs : List (Bool × Bool)) (k : Nat) (hk : k < fs.length) : (flat fs)[k * 2]? = some (.bool (fs.getD k (false, false)).1) ∧ (flat fs)[k * 2 + 1]? = some (.bool (fs.getD k (false, false)).2) := by
  induction fs generalizing k with
  | nil => simp at hk
  | cons f fs ih =>
    cases k with
    | zero => exact ⟨rfl, rfl⟩
    | succ k =>
      have := ih k (by simpa using hk)
      rw [show (k + 1) * 2 = k * 2 + 1 + 1 from by omega]
      exact this
theorem pairs_lit {w : World} {g : Nat} {fs : List (Bool × Bool)} (h : Obj w g 32 (flat fs)) (hl : fs.length ≤ 1000) : Pairs w w.heap.size (some ⟨g, 0, none⟩) fs.length fs :=
  ⟨rfl, by omega, fun k hk => ⟨g, 0, rfl, h.lt, by rw [Nat.zero_add, h.cell]; exact (flat_at fs k hk).1, by rw [Nat.zero_add, h.cell]; exact (flat_at fs k hk).2⟩⟩

theorem sent_ok {zs : List Int} {lf : Nat} (h1 : zs.length ≤ 20) (h2 : lf ≤ 200) (h : ∀ k, k < zs.length → 0 ≤ zs.getD k 0 ∧ zs.getD k 0 ≤ 1000) : sentE zs lf = 0 := by
  rcases sent_cases zs lf with ⟨h', e⟩ | ⟨_, _, ⟨k, hk, hz⟩, e⟩ | ⟨_, _, _, e⟩
  · omega
  · have := h k hk; omega
  · exact e
theorem afact_any (w : World) : Calls Try.prog 11 #[] w fun e w' => e = .returned (.bool true) ∧ Below w.heap.size w w' := by
  go_enter Try.func11, Try.ntmps11
  go_wp2_with fail
  have I1 : Hid (Ints ((w.alloc (.cells #[.int .i64 5, .int .i64 6] 3 (0, 0))).alloc (.cells (flat [(false, true), (false, false), (false, false)]).toArray 32 (0, 0))) ((w.alloc (.cells #[.int .i64 5, .int .i64 6] 3 (0, 0))).alloc (.cells (flat [(false, true), (false, false), (false, false)]).toArray 32 (0, 0))).heap.size (some ⟨w.heap.size, 0, none⟩) 2 [5, 6]) :=
    ints_lit (zs := [5, 6]) (Obj.alloc (Obj.new w [.int .i64 5, .int .i64 6] _) _) (by decide) (fun k => by rcases k with _ | _ | k <;> simp)
  have F1 : Hid (Pairs ((w.alloc (.cells #[.int .i64 5, .int .i64 6] 3 (0, 0))).alloc (.cells (flat [(false, true), (false, false), (false, false)]).toArray 32 (0, 0))) ((w.alloc (.cells #[.int .i64 5, .int .i64 6] 3 (0, 0))).alloc (.cells (flat [(false, true), (false, false), (false, false)]).toArray 32 (0, 0))).heap.size (some ⟨w.heap.size + 1, 0, none⟩) 3 [(false, true), (false, false), (false, false)]) :=
    pairs_lit (fs := [(false, true), (false, false), (false, false)]) (by have := Obj.new (w.alloc (.cells #[.int .i64 5, .int .i64 6] 3 (0, 0))) (flat [(false, true), (false, false), (false, false)]) 32; simpa using this) (by decide)
  refine (arun_yes _ 2 2 _ 3 3 [5, 6] [(false, true), (false, false), (false, false)] _ I1.out F1.out (sent_ok (by decide) (by decide) (fun k hk => by rcases k with _ | _ | k <;> simp at *))).mono ?_
  clear I1 F1
  rintro e w1 ⟨ga, gc, he, hgi, hB⟩
  have e1 : abpRun [5, 6] [(false, true), (false, false), (false, false)] = ([5, 6], 2) := by decide
  rw [e1] at he hgi
  clear e1
  subst he
  have hB1 : Hid (Below w.heap.size w w1) := (((Below.refl _ _).alloc (Nat.le_refl _) _).alloc (by simp) _).trans (hB.mono (by simp; omega))
  have G1 : Hid (Ints w1 w1.heap.size ga 2 [5, 6]) := hgi
  clear hB hgi
  go_wp2_with fail
  refine (same_yes _ _ 2 _ _ [5, 6] _ _ _ (G1.out.alloc _) (ints_lit (zs := [5, 6]) (Obj.new w1 [.int .i64 5, .int .i64 6] _) (by decide) (fun k => by rcases k with _ | _ | k <;> simp))).mono ?_
  rintro e w2 ⟨rfl, n, rfl⟩
  go_wp2
  go_ret
  exact ⟨by simp, below_drewN (hB1.out.alloc hB1.out.size _) _⟩
end Go.Proofs.Ytnkcjkemhdigpaa
