/- The leaking bucket as a plain function. -/
import Derived.Test.YtikclgfldfpbdaaDoorBase
namespace Go.Proofs.YtikclgfldfpbdaaDoor
open Go.RowKit
set_option linter.unusedSimpArgs false
set_option linter.unusedVariables false

structure LkS where
  level : Int
  last : Int
  out : List Bool
def lkLev (s : LkS) (t : Int) : Int := max 0 (s.level - (t - s.last))
def lkStep (st sl : Int) (s : LkS) (t : Int) : LkS := if lkLev s t ≤ sl then ⟨lkLev s t + st, t, s.out ++ [true]⟩ else ⟨lkLev s t, t, s.out ++ [false]⟩
def lkRun (st sl : Int) (ts : List Int) : LkS := ts.foldl (lkStep st sl) ⟨0, 0, []⟩
/-- What is wrong with times, from a last one on. -/
def tmE : Int → List Int → Int
  | _, [] => 0
  | l, t :: r => if t < 0 ∨ 1000 < t then 1 else if t < l then 7 else tmE t r
def leakE (st sl : Int) (ts : List Int) : Int := if (1 ≤ st ∧ st ≤ 20) ∧ (0 ≤ sl ∧ sl ≤ 100) then (if 200 < ts.length then 4 else tmE 0 ts) else 1

theorem lk_snoc (st sl : Int) (ts : List Int) (t : Int) : lkRun st sl (ts ++ [t]) = lkStep st sl (lkRun st sl ts) t := by
  unfold lkRun; rw [List.foldl_append]; rfl
structure LkI (st sl : Int) (n : Nat) (s : LkS) : Prop where
  v0 : 0 ≤ s.level
  v1 : s.level ≤ 120
  l0 : 0 ≤ s.last
  l1 : s.last ≤ 1000
  len : s.out.length = n
theorem lk_step {st sl t : Int} {n : Nat} {s : LkS} (h : LkI st sl n s) (h1 : 1 ≤ st ∧ st ≤ 20) (h2 : 0 ≤ sl ∧ sl ≤ 100) (ht : 0 ≤ t ∧ t ≤ 1000) (hl : s.last ≤ t) : LkI st sl (n + 1) (lkStep st sl s t) := by
  obtain ⟨a, b, c, d, e⟩ := h
  have hv : 0 ≤ lkLev s t ∧ lkLev s t ≤ s.level := by unfold lkLev; omega
  unfold lkStep
  split
  · exact ⟨by show 0 ≤ lkLev s t + st; omega, by show lkLev s t + st ≤ 120; omega, ht.1, ht.2, by simp [e]⟩
  · exact ⟨hv.1, by show lkLev s t ≤ 120; omega, ht.1, ht.2, by simp [e]⟩
theorem take_succ_int (ts : List Int) (k : Nat) (h : k < ts.length) : ts.take (k + 1) = ts.take k ++ [ts.getD k 0] := by
  rw [List.take_succ_eq_append_getElem h]
  simp [List.getD_eq_getElem?_getD, h]
theorem drop_cons_int (ts : List Int) (k : Nat) (h : k < ts.length) : ts.drop k = ts.getD k 0 :: ts.drop (k + 1) := by
  rw [List.drop_eq_getElem_cons h]
  simp [List.getD_eq_getElem?_getD, h]
theorem tm_nonneg (l : Int) (ts : List Int) : tmE l ts = 0 ∨ tmE l ts = 1 ∨ tmE l ts = 7 := by
  induction ts generalizing l with
  | nil => exact .inl rfl
  | cons t r ih => unfold tmE; (repeat' split) <;> first | omega | exact ih _

/-- What a walk is told of a slice of bools. -/
structure Bools (w : World) (B : Nat) (a : Option Addr) (len : Nat) (bs : List Bool) : Prop where
  size : bs.length = len
  room : len ≤ 9223372036854775807
  cell : ∀ k, k < len → ∃ b off, a = some ⟨b, off, none⟩ ∧ b < B ∧ w.cell? ⟨b, off + k, none⟩ = some (.bool (bs.getD k false))
theorem Bools.below {w w' : World} {B : Nat} {a : Option Addr} {len : Nat} {bs : List Bool} (h : Bools w B a len bs) (hb : Below B w w') : Bools w' B a len bs :=
  ⟨h.size, h.room, fun k hk => by obtain ⟨b, off, h1, h2, h3⟩ := h.cell k hk; exact ⟨b, off, h1, h2, (hb.cell h2).trans h3⟩⟩
theorem Bools.mono {w : World} {B B' : Nat} {a : Option Addr} {len : Nat} {bs : List Bool} (h : Bools w B a len bs) (hb : B ≤ B') : Bools w B' a len bs :=
  ⟨h.size, h.room, fun k hk => by obtain ⟨b, off, h1, h2, h3⟩ := h.cell k hk; exact ⟨b, off, h1, by omega, h3⟩⟩
theorem Bools.later {w w' : World} {a : Option Addr} {len : Nat} {bs : List Bool} (h : Bools w w.heap.size a len bs) (hb : Below w.heap.size w w') : Bools w' w'.heap.size a len bs := (h.below hb).mono hb.size
theorem Bools.alloc {w : World} {a : Option Addr} {len : Nat} {bs : List Bool} (h : Bools w w.heap.size a len bs) (o : Go.Obj) : Bools (w.alloc o) (w.alloc o).heap.size a len bs := h.later ((Below.refl _ _).alloc (Nat.le_refl _) o)
theorem bools_own {w : World} {base n e : Nat} {v : Value} {bs : List Bool} (h : w.ownsRow base e 1 v n (bs.map Value.bool)) (hl : bs.length = n) :
    ∃ a c, v = .slice a n c ∧ Bools w w.heap.size a n bs := by
  rcases Nat.eq_zero_or_pos n with h0 | h0
  · rcases h.2 with ⟨hv, _⟩ | ⟨g, cap, cur, hv, _⟩
    · subst h0; exact ⟨none, 0, hv, hl, by omega, by intro k hk; omega⟩
    · exact ⟨_, _, hv, hl, by omega, by intro k hk; omega⟩
  · rcases h.2 with ⟨_, h1⟩ | ⟨g, cap, cur, hv, hb, hg, hc, hm, _⟩
    · omega
    · refine ⟨some ⟨g, 0, none⟩, cap, hv, hl, by unfold maxLen at hm; omega, fun k hk => ⟨g, 0, rfl, lt_of_block hg, ?_⟩⟩
      subst hv
      rw [Nat.zero_add, h.cellAt k (by omega)]
      simp only [List.getElem?_map, List.getD_eq_getElem?_getD]
      rw [List.getElem?_eq_getElem (by omega)]
      rfl
theorem bools_lit {w : World} {g T : Nat} {bs : List Bool} (h : Obj w g T (bs.map Value.bool)) (hl : bs.length ≤ 100) : Bools w w.heap.size (some ⟨g, 0, none⟩) bs.length bs :=
  ⟨rfl, by omega, fun k hk => ⟨g, 0, rfl, h.lt, by rw [Nat.zero_add, h.cell]; simp only [List.getElem?_map, List.getD_eq_getElem?_getD]; rw [List.getElem?_eq_getElem hk]; rfl⟩⟩
end Go.Proofs.YtikclgfldfpbdaaDoor
