/- The contracts of package aimd: Check. -/
import Derived.Test.YtkpflghhmnkjmaaAll
import Derived.Test.YtkpflghhmnkjmaaInts
import Derived.Test.YtkpflghhmnkjmaaAimdPlain
import Derived.Deep.AppendLies
import Derived.Lib.BufferMore
namespace Go.Proofs.Ytkpflghhmnkjmaa
open Go.RowKit
set_option linter.unusedSimpArgs false
set_option linter.unusedVariables false

/-- What is wrong with what they have: the number of the error, 0 for none. -/
noncomputable def aiE (zs : List Int) (room : Int) : Int := if zs.length = 0 then 5 else if 5 < zs.length then 4 else
  @ite _ ((∃ k, k < zs.length ∧ (zs.getD k 0 < 0 ∨ 1000 < zs.getD k 0)) ∨ (room < 1 ∨ 1000 < room)) (Classical.propDecidable _) 1 0
def aiErr (n : Int) : Value := if n = 0 then .nilIface else errV n

theorem ai_cases (zs : List Int) (room : Int) : (zs.length = 0 ∧ aiE zs room = 5) ∨ (5 < zs.length ∧ aiE zs room = 4) ∨
    (1 ≤ zs.length ∧ zs.length ≤ 5 ∧ (∃ k, k < zs.length ∧ (zs.getD k 0 < 0 ∨ 1000 < zs.getD k 0)) ∧ aiE zs room = 1) ∨
    (1 ≤ zs.length ∧ zs.length ≤ 5 ∧ (∀ k, k < zs.length → 0 ≤ zs.getD k 0 ∧ zs.getD k 0 ≤ 1000) ∧ (room < 1 ∨ 1000 < room) ∧ aiE zs room = 1) ∨
    (1 ≤ zs.length ∧ zs.length ≤ 5 ∧ (∀ k, k < zs.length → 0 ≤ zs.getD k 0 ∧ zs.getD k 0 ≤ 1000) ∧ (1 ≤ room ∧ room ≤ 1000) ∧ aiE zs room = 0) := by
  unfold aiE
  by_cases h1 : zs.length = 0
  · left; rw [if_pos h1]; exact ⟨h1, rfl⟩
  rw [if_neg h1]
  by_cases h2 : 5 < zs.length
  · right; left; rw [if_pos h2]; exact ⟨h2, rfl⟩
  rw [if_neg h2]
  by_cases h3 : ∃ k, k < zs.length ∧ (zs.getD k 0 < 0 ∨ 1000 < zs.getD k 0)
  · right; right; left
    exact ⟨by omega, by omega, h3, by rw [if_pos (Or.inl h3)]⟩
  have h3' : ∀ k, k < zs.length → 0 ≤ zs.getD k 0 ∧ zs.getD k 0 ≤ 1000 := fun k hk => by
    by_cases hz : zs.getD k 0 < 0 ∨ 1000 < zs.getD k 0
    · exact absurd ⟨k, hk, hz⟩ h3
    · omega
  by_cases h4 : room < 1 ∨ 1000 < room
  · right; right; right; left
    exact ⟨by omega, by omega, h3', h4, by rw [if_pos (Or.inr h4)]⟩
  · right; right; right; right
    exact ⟨by omega, by omega, h3', by omega, by rw [if_neg (fun h => h.elim h3 h4)]⟩

theorem info3 : (Try.prog.info? 3).map (fun i => (i.zero, i.size, i.bytes)) = some (some (.int .i64 0), 1, 8) := by kernel_rfl

theorem grown_below {B b : Nat} {w w' w'' : World} {v : Value} {e size n : Nat} {xs : List Value} (h : Below B w w') (hg : w'.grownBy w'' v.ownBlock) (hb : B ≤ b) (hB : B ≤ w'.heap.size) (ho : w'.ownsRow b e size v n xs) : Below B w w'' :=
  h.grown hg hB (fun k hk => by have := (ho.lt k hk).1; omega)

theorem clone_some (b off : Nat) (len cap : Nat) (zs : List Int) (w : World) (hI : Ints w w.heap.size (some ⟨b, off, none⟩) len zs) (h1 : 1 ≤ len) (hl : len ≤ 1000) :
    Calls Try.prog 25 #[.slice (some ⟨b, off, none⟩) len cap] w fun e w' => ∃ v, e = .returned v ∧ w'.ownsRow w.heap.size 3 1 v len (zs.map (.int .i64)) ∧ Below w.heap.size w w' := by
  have hlz := Lib.hid hI.size
  have hcs : ∀ j u, (zs.map (Value.int .i64))[j]? = some u → w.cell? ((⟨b, off, none⟩ : Addr).add j) = some u := by
    intro j u hj
    have hjl : j < zs.length := by
      rcases Nat.lt_or_ge j zs.length with h | h
      · exact h
      · rw [List.getElem?_eq_none (by simpa using h)] at hj; exact absurd hj (by simp)
    obtain ⟨b, off, e1, e2, e3⟩ := hI.cell j (by rw [← hlz.out]; exact hjl)
    cases e1
    rw [List.getElem?_map, List.getElem?_eq_getElem hjl] at hj
    simp only [Option.map_some, Option.some.injEq] at hj
    have e4 : zs.getD j 0 = zs[j] := by simp [List.getD_eq_getElem?_getD, hjl]
    rw [e4, hj] at e3
    rw [show (⟨b, off, none⟩ : Addr).add j = ⟨b, off + j, none⟩ from by unfold Addr.add; split <;> simp [*]]
    exact e3
  have hab : b < w.heap.size := by
    obtain ⟨b, off, e1, e2, e3⟩ := hI.cell 0 (by omega)
    cases e1
    exact e2
  have hbl : ∀ j : Nat, ((⟨b, off, none⟩ : Addr).add j).block < w.heap.size := fun j => by
    rw [show (⟨b, off, none⟩ : Addr).add j = ⟨b, off + j, none⟩ from by unfold Addr.add; split <;> simp [*]]
    exact hab
  have HBL := Lib.hid hbl; clear hbl
  have HC := Lib.hid hcs; clear hcs hI
  obtain ⟨i0, hi, hz0, hz1, hz2⟩ := info_parts info3
  have hnil := fun W => Lib.run_eql_slice_some_nil (P := Try.prog) W ⟨b, off, none⟩ len cap Try.underlying22
  go_enter Try.func25, Try.ntmps25
  have HE : Hid ((w.alloc (.cells #[] 3 (0, 0))).ownsRow w.heap.size 3 1 (.slice (some ⟨w.heap.size, 0, none⟩) 0 0) 0 []) :=
    ⟨rfl, Or.inr ⟨w.heap.size, 0, #[], rfl, Nat.le_refl _, Obj.new w [] 3, Nat.le_refl _, by unfold maxLen; omega, rfl, rfl⟩⟩
  go_wp2_with (first | (at_builtin; go_loud (refine wpList_append_lies _ rfl (.tmp 5) (.tmp 6) 22 rfl w.heap.size 3 i0 (.int .i64 0) 1 8 Try.underlying22 hi hz0 hz1 hz2 rfl (by decide) _ _ _ rfl HE.out ⟨b, off, none⟩ len cap (zs.map (.int .i64)) rfl (by simp [hlz.out]) (fun j u hj => (World.cell?_alloc_lt _ _ _ (HBL.out j)).trans (HC.out j u hj)) (by intro u hu; simp at hu; obtain ⟨x, _, rfl⟩ := hu; rfl) (by omega) (by unfold maxLen; omega) (by omega) (by simp) _ rfl ?_)))
  intro g c w4 hown hgrow hat hlt
  have HO := Lib.hid hown
  have HB : Hid (Below w.heap.size w w4) := grown_below ((Below.refl _ _).alloc (Nat.le_refl _) _) hgrow (Nat.le_refl _) (by simp) HE.out
  go_wp2_with fail
  go_ret
  exact ⟨_, rfl, by simpa using HO.out, HB.out⟩

end Go.Proofs.Ytkpflghhmnkjmaa
