/- Stop, said of what is due when. -/
import Derived.Test.YtmmoolcnpbebhaaDoorKpStop3
import Derived.Test.YtmmoolcnpbebhaaDoorTold
namespace Go.Proofs.YtmmoolcnpbebhaaDoor
open Go.RowKit Go.Maps
set_option linter.unusedSimpArgs false
set_option linter.unusedVariables false
theorem grown_of_below {w w' : World} (h : Below w.heap.size w w') : w.grownBy w' none := ⟨h.os, h.tape, h.output, h.size, fun k hk _ => h.block k hk⟩
section
variable {w0 : Rf} {w w' : World} {wb mb B T nm : Nat} {d : Nat → Option Nat} {x : Value} {xl : List Nat}
theorem wdstop_yes (h : WD w0 wb mb B w d T nm x xl) (id : Nat) (hd : Wl.after d T id ≠ none) :
    Calls Tryd.prog 10 #[.pointer (some ⟨wb, 0, none⟩), .int .i64 id] w fun e w' => e = .returned .nilIface ∧ WD w0 wb mb B w' (Wl.upd d id none) T nm x xl := by
  obtain ⟨vs, s, D, h1, h2, h3, h4⟩ := h
  refine (wstop_yes id h1 h2 (by rw [h4]; exact hd)).mono ?_
  rintro e w' ⟨rfl, vs', D', h'⟩
  refine ⟨rfl, vs', _, D', h', Wl.stop_ok h2 id, h3, fun y => ?_⟩
  show Wl.upd s.due id none y = _
  rw [show s.due = Wl.after d T from funext h4]
  exact Wl.after_del y
theorem wdstop_no (h : WD w0 wb mb B w d T nm x xl) (id : Int) (hid : -9223372036854775808 ≤ id ∧ id ≤ 9223372036854775807) (hd : id < 0 ∨ Wl.after d T id.toNat = none) :
    Calls Tryd.prog 10 #[.pointer (some ⟨wb, 0, none⟩), .int .i64 id] w fun e w' => e = .returned (errV 5) ∧ w.grownBy w' none := by
  obtain ⟨vs, s, D, h1, h2, h3, h4⟩ := h
  refine wstop_no id hid h1 ?_
  by_cases h0 : id < 0
  · exact h1.dm.2 id h0
  · rcases hd with hd | hd
    · exact absurd hd h0
    · obtain ⟨i, rfl⟩ : ∃ i : Nat, id = (i : Int) := ⟨id.toNat, by omega⟩
      rw [(h1.dm.1 i).1, h4]
      rw [show ((i : Int)).toNat = i from by omega] at hd
      rw [hd]; rfl
end
end Go.Proofs.YtmmoolcnpbebhaaDoor
