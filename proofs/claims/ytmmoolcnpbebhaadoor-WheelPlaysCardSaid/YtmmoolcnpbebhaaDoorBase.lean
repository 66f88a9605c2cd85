/- Small laws on worlds: an object of the call's own that lies in one block of cells; what a store makes of it; and that nothing else turned. No condition. -/
import Derived.Handy
import Derived.BigRegion
import Derived.BigQuiet
import Derived.StillTailTactics
import Derived.Lib.Hide
import Derived.Deep.LoopGhost
import Derived.Deep.Matrix
import Derived.Deep.RegionHeld3
import Derived.Deep.SlicePairs
namespace Go.Proofs.YtmmoolcnpbebhaaDoor
open Go.RowKit

/-- Block b holds the cells xs (of type T), none frozen. -/
def Obj (w : World) (b : Nat) (T : TypeId) (xs : List Value) : Prop := w.heap[b]? = some (.cells xs.toArray T (0, 0))

theorem Obj.cell {w : World} {b : Nat} {T : TypeId} {xs : List Value} (h : Obj w b T xs) (j : Nat) : w.cell? ⟨b, j, none⟩ = xs[j]? := by
  simp only [Obj] at h; simp [World.cell?, h]
theorem Obj.free {w : World} {b : Nat} {T : TypeId} {xs : List Value} (h : Obj w b T xs) (j : Nat) : w.frozen? ⟨b, j, none⟩ = false := by
  simp only [Obj] at h; simp [World.frozen?, h]
theorem Obj.lt {w : World} {b : Nat} {T : TypeId} {xs : List Value} (h : Obj w b T xs) : b < w.heap.size := lt_of_block h
theorem Obj.new (w : World) (xs : List Value) (T : TypeId) : Obj (w.alloc (.cells xs.toArray T)) w.heap.size T xs := by
  show (w.heap.push _)[w.heap.size]? = _
  simp
theorem Obj.alloc {w : World} {b : Nat} {T : TypeId} {xs : List Value} (h : Obj w b T xs) (o : Go.Obj) : Obj (w.alloc o) b T xs := by
  have := h.lt
  show (w.heap.push o)[b]? = _
  rw [Array.getElem?_push, if_neg (by omega)]; exact h
theorem Obj.drew {w : World} {b : Nat} {T : TypeId} {xs : List Value} (h : Obj w b T xs) : Obj w.drew b T xs := h
theorem Obj.set {w : World} {b : Nat} {T : TypeId} {xs : List Value} (h : Obj w b T xs) (j : Nat) (u : Value) : Obj (w.setCell ⟨b, j, none⟩ u) b T (xs.set j u) := by
  have hlt := h.lt
  have h' : w.heap[b] = .cells xs.toArray T (0, 0) := by simpa [Obj, Array.getElem?_eq_getElem hlt] using h
  show (w.heap.modify b _)[b]? = _
  rw [Array.getElem?_eq_getElem (by simpa using hlt), Array.getElem_modify_self, h']
  simp
theorem Obj.kept {w w' : World} {b : Nat} {T : TypeId} {xs : List Value} (h : Obj w b T xs) {r : Option Nat} (hg : w.grownBy w' r) (hr : some b ≠ r) : Obj w' b T xs :=
  (hg.block b h.lt hr).trans h

theorem grown_refl (w : World) (r : Option Nat) : w.grownBy w r := ⟨rfl, rfl, rfl, Nat.le_refl _, fun _ _ _ => rfl⟩
theorem grown_set {w w' : World} {b : Nat} (h : w.grownBy w' (some b)) (j : Nat) (u : Value) : w.grownBy (w'.setCell ⟨b, j, none⟩ u) (some b) :=
  ⟨h.os, h.tape, h.output, by simpa using h.size, fun k hk hne => (Below.heap_setCell _ _ _ _ (fun e => hne (by rw [e]))).trans (h.block k hk hne)⟩
theorem grown_drew {w w' : World} {r : Option Nat} (h : w.grownBy w' r) : w.grownBy w'.drew r := ⟨h.os, h.tape, h.output, h.size, h.block⟩
theorem grown_alloc {w w' : World} {r : Option Nat} (h : w.grownBy w' r) (o : Go.Obj) : w.grownBy (w'.alloc o) r :=
  ⟨h.os, h.tape, h.output, Nat.le_trans h.size (by simp), fun k hk hne => (Below.heap_alloc _ _ _ (Nat.lt_of_lt_of_le hk h.size)).trans (h.block k hk hne)⟩
theorem grown_trans {a b c : World} {r : Option Nat} (h : a.grownBy b r) (k : b.grownBy c r) : a.grownBy c r :=
  ⟨k.os.trans h.os, k.tape.trans h.tape, k.output.trans h.output, Nat.le_trans h.size k.size, fun i hi hne => (k.block i (Nat.lt_of_lt_of_le hi h.size) hne).trans (h.block i hi hne)⟩
theorem grown_any {w w' : World} {r : Option Nat} (h : w.grownBy w' none) : w.grownBy w' r :=
  ⟨h.os, h.tape, h.output, h.size, fun k hk _ => h.block k hk (by simp)⟩
theorem below_grown {B : Nat} {w w' : World} {b : Nat} (hg : w.grownBy w' (some b)) (hb : B ≤ b) (hs : b < w.heap.size) : Below B w w' :=
  ⟨hg.os, hg.tape, hg.output, hg.size, fun k hk => hg.block k (by omega) (fun e => by simp at e; omega)⟩
theorem grown_drewN {w w' : World} {r : Option Nat} (h : w.grownBy w' r) (n : Nat) : w.grownBy (w'.drewN n) r := ⟨h.os, h.tape, h.output, h.size, h.block⟩
theorem below_drewN {B : Nat} {w w' : World} (h : Below B w w') (n : Nat) : Below B w (w'.drewN n) := ⟨h.os, h.tape, h.output, h.size, h.block⟩
theorem below_new {w w' : World} (hg : w.grownBy w' none) : Below w.heap.size w w' := (Below.refl _ _).grown hg (Nat.le_refl _) (by simp)

theorem ret_int {k : IntKind} {a b : Int} (h : a = b) : Ending.returned (.int k a) = .returned (.int k b) := by rw [h]

/-- What a walk is told of a slice of integers that came in: its elements are zs; each fits; where there is one the slice leads to old memory that is there. -/
structure Ints (w : World) (B : Nat) (a : Option Addr) (len : Nat) (zs : List Int) : Prop where
  size : zs.length = len
  room : len ≤ 9223372036854775807
  cell : ∀ k, k < len → ∃ b off, a = some ⟨b, off, none⟩ ∧ b < B ∧ w.cell? ⟨b, off + k, none⟩ = some (.int .i64 (zs.getD k 0))
  fits : ∀ k, -9223372036854775808 ≤ zs.getD k 0 ∧ zs.getD k 0 ≤ 9223372036854775807

theorem Ints.below {w w' : World} {B : Nat} {a : Option Addr} {len : Nat} {zs : List Int} (h : Ints w B a len zs) (hb : Below B w w') : Ints w' B a len zs :=
  ⟨h.size, h.room, fun k hk => by obtain ⟨b, off, h1, h2, h3⟩ := h.cell k hk; exact ⟨b, off, h1, h2, (hb.cell h2).trans h3⟩, h.fits⟩

theorem Ints.mono {w : World} {B B' : Nat} {a : Option Addr} {len : Nat} {zs : List Int} (h : Ints w B a len zs) (hb : B ≤ B') : Ints w B' a len zs :=
  ⟨h.size, h.room, fun k hk => by obtain ⟨b, off, h1, h2, h3⟩ := h.cell k hk; exact ⟨b, off, h1, by omega, h3⟩, h.fits⟩
theorem Ints.alloc {w : World} {a : Option Addr} {len : Nat} {zs : List Int} (h : Ints w w.heap.size a len zs) (o : Go.Obj) : Ints (w.alloc o) (w.alloc o).heap.size a len zs :=
  (h.below ((Below.refl _ _).alloc (Nat.le_refl _) o)).mono (by simp)
theorem Ints.later {w w' : World} {a : Option Addr} {len : Nat} {zs : List Int} (h : Ints w w.heap.size a len zs) (hb : Below w.heap.size w w') : Ints w' w'.heap.size a len zs :=
  (h.below hb).mono hb.size
theorem Ints.take {w : World} {B : Nat} {a : Option Addr} {len n : Nat} {zs : List Int} (h : Ints w B a len zs) (hn : n ≤ len) : Ints w B a n (zs.take n) := by
  have hs := h.size
  refine ⟨by simp; omega, by have := h.room; omega, fun k hk => ?_, fun k => ?_⟩
  · obtain ⟨b, off, h1, h2, h3⟩ := h.cell k (by omega)
    refine ⟨b, off, h1, h2, h3.trans ?_⟩
    simp only [List.getD_eq_getElem?_getD, List.getElem?_take, if_pos hk]
  · rcases Nat.lt_or_ge k n with h1 | h1
    · have e : (zs.take n).getD k 0 = zs.getD k 0 := by simp only [List.getD_eq_getElem?_getD, List.getElem?_take, if_pos h1]
      rw [e]; exact h.fits k
    · rw [List.getD_eq_getElem?_getD, List.getElem?_eq_none (by simp; omega)]; simp

/-- What a walk is told of a slice of slices of integers that came in. -/
structure Grid (w : World) (B : Nat) (a : Option Addr) (len : Nat) (A : Nat → Option Addr) (L C : Nat → Nat) (Z : Nat → List Int) : Prop where
  room : len ≤ 9223372036854775807
  cell : ∀ r, r < len → ∃ b off, a = some ⟨b, off, none⟩ ∧ b < B ∧ w.cell? ⟨b, off + r, none⟩ = some (.slice (A r) (L r) (C r))
  row : ∀ r, r < len → Ints w B (A r) (L r) (Z r)
theorem Grid.below {w w' : World} {B : Nat} {a : Option Addr} {len : Nat} {A : Nat → Option Addr} {L C : Nat → Nat} {Z : Nat → List Int} (h : Grid w B a len A L C Z) (hb : Below B w w') : Grid w' B a len A L C Z :=
  ⟨h.room, fun k hk => by obtain ⟨b, off, h1, h2, h3⟩ := h.cell k hk; exact ⟨b, off, h1, h2, (hb.cell h2).trans h3⟩, fun r hr => (h.row r hr).below hb⟩

/-- What a walk is told of a slice of pairs of bools that came in. -/
structure Pairs (w : World) (B : Nat) (a : Option Addr) (len : Nat) (fs : List (Bool × Bool)) : Prop where
  size : fs.length = len
  room : len ≤ 9223372036854775807
  cell : ∀ k, k < len → ∃ b off, a = some ⟨b, off, none⟩ ∧ b < B ∧ w.cell? ⟨b, off + k * 2, none⟩ = some (.bool (fs.getD k (false, false)).1) ∧ w.cell? ⟨b, off + k * 2 + 1, none⟩ = some (.bool (fs.getD k (false, false)).2)
theorem Pairs.below {w w' : World} {B : Nat} {a : Option Addr} {len : Nat} {fs : List (Bool × Bool)} (h : Pairs w B a len fs) (hb : Below B w w') : Pairs w' B a len fs :=
  ⟨h.size, h.room, fun k hk => by obtain ⟨b, off, h1, h2, h3, h4⟩ := h.cell k hk; exact ⟨b, off, h1, h2, (hb.cell h2).trans h3, (hb.cell h2).trans h4⟩⟩
theorem Pairs.mono {w : World} {B B' : Nat} {a : Option Addr} {len : Nat} {fs : List (Bool × Bool)} (h : Pairs w B a len fs) (hb : B ≤ B') : Pairs w B' a len fs :=
  ⟨h.size, h.room, fun k hk => by obtain ⟨b, off, h1, h2, h3⟩ := h.cell k hk; exact ⟨b, off, h1, by omega, h3⟩⟩

theorem add_at {w : World} {a : Addr} {i : Nat} {u v : Value} (h0 : w.cell? (a.add 0) = some u) (h : w.cell? (a.add i) = some v) : ∃ b off, a = ⟨b, off, none⟩ ∧ b < w.heap.size ∧ w.cell? ⟨b, off + i, none⟩ = some v := by
  obtain ⟨b, off, spot⟩ := a
  have hspot : spot = none := by simpa [Addr.add] using World.cell?_spot h0
  subst hspot
  rw [Go.WideShapes.add_plain] at h
  exact ⟨b, off, rfl, World.block_lt_of_cell? w _ h, h⟩

theorem ints_nil (w : World) (B : Nat) : Ints w B none 0 [] := ⟨rfl, by omega, by intro k hk; omega, by intro k; simp⟩
theorem grid_nil (w : World) (B : Nat) : Grid w B none 0 (fun _ => none) (fun _ => 0) (fun _ => 0) (fun _ => []) := ⟨by omega, by intro k hk; omega, by intro k hk; omega⟩
theorem pairs_nil (w : World) (B : Nat) : Pairs w B none 0 [] := ⟨rfl, by omega, by intro k hk; omega⟩

theorem ints_of {w : World} {x : Addr} {len cap : Nat} {zs : List Int} (hl : len ≤ cap) (hm : cap ≤ maxLen) (hz : zs.length = cap)
    (hc : ∀ i, i < zs.length → w.cell? (x.add i) = some (.int .i64 (zs.getD i 0))) (hw : ∀ n ∈ zs, (Lit.int .i64 n).wf = true) : Ints w w.heap.size (some x) len (zs.take len) := by
  refine ⟨by simp; omega, by unfold maxLen at hm; omega, fun k hk => ?_, fun k => ?_⟩
  · obtain ⟨b, off, rfl, h2, h3⟩ := add_at (hc 0 (by omega)) (hc k (by omega))
    refine ⟨b, off, rfl, h2, h3.trans ?_⟩
    simp only [List.getD_eq_getElem?_getD, List.getElem?_take, if_pos hk]
  · simp only [List.getD_eq_getElem?_getD]
    rcases h : (zs.take len)[k]? with _ | z
    · simp
    · exact bounds_i64 (hw z (List.mem_of_mem_take (List.mem_of_getElem? h)))

theorem grid_of {w : World} {x : Addr} {len cap base : Nat} {A : Nat → Option Addr} {L C : Nat → Nat} {Z : Nat → List Int} (hl : len ≤ cap) (hm : cap ≤ maxLen)
    (h : ∀ r, r < cap → w.cell? (x.add r) = some (.slice (A r) (L r) (C r)) ∧ L r ≤ C r ∧ C r ≤ maxLen ∧ (Z r).length = C r ∧ (∀ n ∈ Z r, (Lit.int .i64 n).wf = true) ∧ (A r = none → C r = 0) ∧
        ∀ a', A r = some a' → base ≤ a'.block ∧ ∀ c, c < C r → w.cell? (a'.add c) = some (.int .i64 ((Z r).getD c 0))) :
    Grid w w.heap.size (some x) len A L C (fun r => (Z r).take (L r)) := by
  refine ⟨by unfold maxLen at hm; omega, fun k hk => ?_, fun r hr => ?_⟩
  · obtain ⟨b, off, rfl, h2, h3⟩ := add_at (h 0 (by omega)).1 (h k (by omega)).1
    exact ⟨b, off, rfl, h2, h3⟩
  · obtain ⟨_, h1, h2, h3, h4, h5, h6⟩ := h r (by omega)
    rcases hA : A r with _ | a'
    · have h0 := h5 hA
      have hL : L r = 0 := by omega
      rw [hL, List.take_zero]
      exact ints_nil _ _
    · exact ints_of h1 h2 h3 (fun i hi => (h6 a' hA).2 i (by omega)) h4

theorem pairs_of {w : World} {x : Addr} {len cap m : Nat} (hl : len ≤ cap) (hm : cap ≤ maxLen) (hmm : m = cap)
    (h : ∀ i, i < m → ∃ u v : Bool, w.cell? (x.add (i * 2)) = some (.bool u) ∧ w.cell? (x.add (i * 2 + 1)) = some (.bool v)) : ∃ fs, Pairs w w.heap.size (some x) len fs := by
  subst hmm
  have each : ∀ i, ∃ q : Bool × Bool, i < m → w.cell? (x.add (i * 2)) = some (.bool q.1) ∧ w.cell? (x.add (i * 2 + 1)) = some (.bool q.2) := fun i => by
    by_cases hi : i < m
    · obtain ⟨u, v, h1, h2⟩ := h i hi
      exact ⟨(u, v), fun _ => ⟨h1, h2⟩⟩
    · exact ⟨(false, false), fun h => absurd h hi⟩
  have ⟨q, hq⟩ := Classical.skolem.1 each
  refine ⟨(List.range len).map q, by simp, by unfold maxLen at hm; omega, fun k hk => ?_⟩
  have h0 := (hq 0 (by omega)).1
  have hk2 := hq k (by omega)
  obtain ⟨b, off, rfl, h2, h3⟩ := add_at (by simpa using h0) hk2.1
  have h4 := hk2.2
  rw [Go.WideShapes.add_plain] at h4
  refine ⟨b, off, rfl, h2, ?_⟩
  have hg : ((List.range len).map q).getD k (false, false) = q k := by simp [List.getD_eq_getElem?_getD, hk]
  rw [hg]
  exact ⟨h3, h4⟩
end Go.Proofs.YtmmoolcnpbebhaaDoor
