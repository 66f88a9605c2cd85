/- The contracts of package abp: Check and Run. -/
import Derived.Test.YtnkcjkemhdigpaaAll
import Derived.Test.YtnkcjkemhdigpaaAbpPlain
import Derived.Deep.AppendLies
namespace Go.Proofs.Ytnkcjkemhdigpaa
open Go.RowKit
set_option linter.unusedSimpArgs false
set_option linter.unusedVariables false

theorem info3 : (Try.prog.info? 3).map (fun i => (i.zero, i.size, i.bytes)) = some (some (.int .i64 0), 1, 8) := by kernel_rfl

theorem acheck_full (a : Option Addr) (len cap : Nat) (af : Option Addr) (lf cf : Nat) (w : World) (h : 20 < len ∨ 200 < lf) :
    Calls Try.prog 20 #[.slice a len cap, .slice af lf cf] w fun e w' => e = .returned (errV 4) ∧ w = w' := by
  by_cases h1 : 20 < len
  · clear h
    go_enter Try.func20, Try.ntmps20
    go_wp2
    go_ret
    exact ⟨rfl, rfl⟩
  · have h2 : 200 < lf := by omega
    have h1' : len ≤ 20 := by omega
    clear h h1
    go_enter Try.func20, Try.ntmps20
    go_wp2
    go_ret
    exact ⟨rfl, rfl⟩
theorem acheck_range (a : Option Addr) (len cap : Nat) (af : Option Addr) (lf cf : Nat) (zs : List Int) (B : Nat) (w : World) (hI : Ints w B a len zs) (h1 : len ≤ 20) (h2 : lf ≤ 200) (h : ∃ k, k < len ∧ (zs.getD k 0 < 0 ∨ 1000 < zs.getD k 0)) :
    Calls Try.prog 20 #[.slice a len cap, .slice af lf cf] w fun e w' => e = .returned (errV 1) ∧ w = w' := by
  have HI := Lib.hid hI; clear hI
  have HH := Lib.hid h; clear h
  go_enter Try.func20, Try.ntmps20
  go_wp2_with fail
  refine (all_no _ _ _ _ _ _ _ _ HI.out HH.out).mono ?_
  rintro e w' ⟨rfl, rfl⟩
  go_wp2
  go_ret
  exact ⟨rfl, rfl⟩
theorem acheck_ok (a : Option Addr) (len cap : Nat) (af : Option Addr) (lf cf : Nat) (zs : List Int) (B : Nat) (w : World) (hI : Ints w B a len zs) (h1 : len ≤ 20) (h2 : lf ≤ 200) (h : ∀ k, k < len → 0 ≤ zs.getD k 0 ∧ zs.getD k 0 ≤ 1000) :
    Calls Try.prog 20 #[.slice a len cap, .slice af lf cf] w fun e w' => e = .returned .nilIface ∧ w = w' := by
  have HI := Lib.hid hI; clear hI
  have HH := Lib.hid h; clear h
  go_enter Try.func20, Try.ntmps20
  go_wp2_with fail
  refine (all_yes _ _ _ _ _ _ _ _ HI.out HH.out).mono ?_
  rintro e w' ⟨rfl, rfl⟩
  go_wp2
  go_ret
  exact ⟨rfl, rfl⟩

/-- What Check gives: the number of the error, 0 for none. -/
noncomputable def sentE (zs : List Int) (lf : Nat) : Int := if 20 < zs.length ∨ 200 < lf then 4 else @ite _ (∃ k, k < zs.length ∧ (zs.getD k 0 < 0 ∨ 1000 < zs.getD k 0)) (Classical.propDecidable _) 1 0
/-- An error by its number. -/
def errOf (n : Int) : Value := if n = 0 then .nilIface else errV n

theorem sent_cases (zs : List Int) (lf : Nat) : ((20 < zs.length ∨ 200 < lf) ∧ sentE zs lf = 4) ∨ (zs.length ≤ 20 ∧ lf ≤ 200 ∧ (∃ k, k < zs.length ∧ (zs.getD k 0 < 0 ∨ 1000 < zs.getD k 0)) ∧ sentE zs lf = 1) ∨
    (zs.length ≤ 20 ∧ lf ≤ 200 ∧ (∀ k, k < zs.length → 0 ≤ zs.getD k 0 ∧ zs.getD k 0 ≤ 1000) ∧ sentE zs lf = 0) := by
  unfold sentE
  by_cases h1 : 20 < zs.length ∨ 200 < lf
  · left; rw [if_pos h1]; exact ⟨h1, rfl⟩
  · right
    rw [if_neg h1]
    by_cases h2 : ∃ k, k < zs.length ∧ (zs.getD k 0 < 0 ∨ 1000 < zs.getD k 0)
    · left; rw [if_pos h2]; exact ⟨by omega, by omega, h2, rfl⟩
    · right; rw [if_neg h2]
      refine ⟨by omega, by omega, fun k hk => ?_, rfl⟩
      have : ¬ (zs.getD k 0 < 0 ∨ 1000 < zs.getD k 0) := fun h => h2 ⟨k, hk, h⟩
      omega

theorem acheck_any (a : Option Addr) (len cap : Nat) (af : Option Addr) (lf cf : Nat) (zs : List Int) (B : Nat) (w : World) (hI : Ints w B a len zs) :
    Calls Try.prog 20 #[.slice a len cap, .slice af lf cf] w fun e w' => e = .returned (errOf (sentE zs lf)) ∧ w = w' := by
  have hs := hI.size
  rcases sent_cases zs lf with ⟨h, e⟩ | ⟨h1, h2, h3, e⟩ | ⟨h1, h2, h3, e⟩
  · rw [e]; exact acheck_full a len cap af lf cf w (by omega)
  · rw [e]; exact acheck_range a len cap af lf cf zs B w hI (by omega) h2 (by rw [← hs]; exact h3)
  · rw [e]; exact acheck_ok a len cap af lf cf zs B w hI (by omega) h2 (by rw [← hs]; exact h3)

/-- What Run leaves behind: a new slice that holds what was got; nothing that was there has turned. -/
def GotPost (B : Nat) (got : List Int) (known : Nat) (w : World) (e : Ending) (w' : World) : Prop :=
  ∃ a c, e = .returned (.tuple #[.slice a got.length c, .int .i64 known, .nilIface]) ∧ Ints w' w'.heap.size a got.length got ∧ Below B w w'

/-- An owned row of integers, as a slice to be read. -/
theorem ints_own {w : World} {base n : Nat} {v : Value} {zs : List Int} (h : w.ownsRow base 3 1 v n (zs.map (Value.int .i64))) (hl : zs.length = n) (hf : ∀ k, -9223372036854775808 ≤ zs.getD k 0 ∧ zs.getD k 0 ≤ 9223372036854775807) :
    ∃ a c, v = .slice a n c ∧ Ints w w.heap.size a n zs := by
  rcases Nat.eq_zero_or_pos n with h0 | h0
  · rcases h.2 with ⟨hv, _⟩ | ⟨g, cap, cur, hv, _⟩
    · subst h0; exact ⟨none, 0, hv, hl, by omega, by intro k hk; omega, hf⟩
    · exact ⟨_, _, hv, hl, by omega, by intro k hk; omega, hf⟩
  · rcases h.2 with ⟨_, h1⟩ | ⟨g, cap, cur, hv, hb, hg, hc, hm, _⟩
    · omega
    · refine ⟨some ⟨g, 0, none⟩, cap, hv, hl, by unfold maxLen at hm; omega, fun k hk => ⟨g, 0, rfl, lt_of_block hg, ?_⟩, hf⟩
      subst hv
      rw [Nat.zero_add, h.cellAt k (by omega)]
      simp only [List.getElem?_map, List.getD_eq_getElem?_getD]
      rw [List.getElem?_eq_getElem (by omega)]
      rfl
theorem grown_below {B b : Nat} {w w' w'' : World} {v : Value} {e size n : Nat} {xs : List Value} (h : Below B w w') (hg : w'.grownBy w'' v.ownBlock) (hb : B ≤ b) (hB : B ≤ w'.heap.size) (ho : w'.ownsRow b e size v n xs) : Below B w w'' :=
  h.grown hg hB (fun k hk => by have := (ho.lt k hk).1; omega)
end Go.Proofs.Ytnkcjkemhdigpaa
