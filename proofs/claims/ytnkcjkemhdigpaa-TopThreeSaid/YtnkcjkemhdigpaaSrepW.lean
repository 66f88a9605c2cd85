/- What lies in memory while srep.Run goes; what each of its operations makes of it; the contract of find. -/
import Derived.Test.YtnkcjkemhdigpaaQueue
import Derived.Test.YtnkcjkemhdigpaaSrepPlain3
import Derived.Maps.OwnSet
import Derived.Maps.OwnOps
namespace Go.Proofs.Ytnkcjkemhdigpaa
open Go.RowKit Go.Maps
set_option linter.unusedSimpArgs false
set_option linter.unusedVariables false

theorem find_any (u k num R : Nat) (x : Int) (w : World) (hx : x = (num : Int)) (hu : u ≤ 100000) (hk : k ≤ 100000) (hR : 1 ≤ R) :
    Calls Try.prog 24 #[.int .i64 u, .int .i64 k, .int .i64 x, .int .i64 R] w fun e w' => e = .returned (.tuple #[.int .i64 (((Sr.find num R u k).getD 0 : Nat) : Int), .bool (Sr.find num R u k).isSome]) ∧ w = w' := by
  subst hx
  go_enter Try.func24, Try.ntmps24
  go_wp2_with fail
  go_loop [10] (fun v10 => ∃ j : Nat, u ≤ j ∧ j ≤ u + k ∧ v10 = .int .i64 j ∧ Hid (Sr.find num R u k = Sr.find num R j (u + k - j))) (fun v10 => u + k - (intOf v10).toNat)
  case atStart => exact ⟨u, by omega, by omega, rfl, by rw [show u + k - u = k from by omega]; exact rfl⟩
  case round =>
    obtain ⟨j, hj1, hj2, rfl, HF⟩ := hrel
    by_cases hlt : j < u + k
    · have e : u + k - j = (u + k - (j + 1)) + 1 := by omega
      by_cases hm : j % R = num
      · have HF2 : Hid (Sr.find num R u k = some j) := by show _ = _; rw [HF.out, e]; simp only [Sr.find]; rw [if_pos hm]
        have ht : ((j : Int) % (R : Int) == (num : Int)) = true := by rw [beq_iff_eq]; exact_mod_cast hm
        clear hm e HF
        go_wp2_with fail
        go_ret2
        rw [HF2.out]
        exact ⟨rfl, rfl⟩
      · have HF2 : Hid (Sr.find num R u k = Sr.find num R (j + 1) (u + k - (j + 1))) := by show _ = _; rw [HF.out, e]; simp only [Sr.find]; rw [if_neg hm]
        have ht : ((j : Int) % (R : Int) == (num : Int)) = false := by rw [beq_eq_false_iff_ne]; intro h; exact hm (by exact_mod_cast h)
        clear hm e HF
        go_wp2_with fail
        go_round
        case rel => exact ⟨j + 1, by omega, by omega, by go_num, HF2⟩
        case measure => simp [intOf]; omega
    · have HF2 : Hid (Sr.find num R u k = none) := by show _ = _; rw [HF.out, show u + k - j = 0 from by omega]; rfl
      clear HF
      go_wp2_with fail
      go_ret2
      rw [HF2.out]
      exact ⟨rfl, rfl⟩

/-! The map of what is held. -/
theorem lawK : Keyed Try.prog 3 := int_keyed Try.underlying3
theorem zeroK (w : World) : (zeroValue 3).run Try.prog w = .ok (.int .i64 0) w := by kernel_rfl
def ky (i : Nat) : Lit := .int .i64 (i : Int)
theorem ky_key (i : Nat) : WideAt.IsKeyLit (ky i) := by simp [ky, WideAt.IsKeyLit]
theorem ky_ne {i j : Nat} (h : j ≠ i) : ky j ≠ ky i := fun e => by simp [ky] at e; omega
theorem ky_of {i : Nat} (h : i ≤ 100000) : keyOf Try.prog 3 (.int .i64 (i : Int)) = some (ky i) := keyOf_int_mk Try.underlying3 (WalkArith.wf_i64 (by omega))
def Hm (D : DataW Unit) (h : Nat → Option Int) : Prop := ∀ i : Nat, Maps.has D (ky i) = (h i).isSome ∧ ∀ v, h i = some v → D.atKey (ky i) (.lit (.int .i64 0)) = .lit (.int .i64 v)
theorem hm_empty : Hm (.map []) (fun _ => none) := fun i => ⟨by simp [Maps.has], fun v h => by simp at h⟩
theorem hm_put {D : DataW Unit} {h : Nat → Option Int} (hm : Hm D h) (hD : IsMap D) (i : Nat) (v : Int) : Hm (D.put (ky i) (.lit (.int .i64 v))) (Sr.put h i (some v)) := fun j => by
  by_cases e : j = i
  · subst e
    refine ⟨?_, fun u hu => ?_⟩
    · rw [has_put_same hD (ky_key j)]; simp [Sr.put]
    · simp only [Sr.put, if_true, Option.some.injEq] at hu
      rw [atKey_put_same hD (ky_key j), hu]
  · refine ⟨?_, fun u hu => ?_⟩
    · rw [has_put_other (ky_ne e)]; simp only [Sr.put, if_neg e]; exact (hm j).1
    · simp only [Sr.put, if_neg e] at hu
      rw [atKey_put_other (ky_ne e)]; exact (hm j).2 u hu
theorem hm_del {D : DataW Unit} {h : Nat → Option Int} (hm : Hm D h) (i : Nat) : Hm (D.del (ky i)) (Sr.put h i none) := fun j => by
  by_cases e : j = i
  · subst e
    refine ⟨?_, fun u hu => ?_⟩
    · rw [has_del_same]; simp [Sr.put]
    · simp [Sr.put] at hu
  · refine ⟨?_, fun u hu => ?_⟩
    · rw [has_del_other (ky_ne e)]; simp only [Sr.put, if_neg e]; exact (hm j).1
    · simp only [Sr.put, if_neg e] at hu
      rw [atKey_del_other (ky_ne e)]; exact (hm j).2 u hu

/-! All of it. -/
structure SrS (w0 : World) (tb db mb B : Nat) (wr : World) (v : Value) (gs : List Int) (q : List Nat) (dn : List Bool) (h : Nat → Option Int) (nm : Nat) (ar : Option Nat) (D : DataW Unit) : Prop where
  b1 : w0.heap.size ≤ tb
  b2 : tb < db
  b3 : db < mb
  b4 : mb < B
  b5 : B ≤ wr.heap.size
  qu : Qu wr tb B q ar
  dn : Cel wr db 4 (dn.map .bool)
  mp : wr.ownsMap Try.prog 3 (plainElem (H := Unit) Try.prog 3) mb nm D
  hm : Hm D h
  go : wr.ownsRow B 3 1 v gs.length (gs.map (.int .i64))
  ga : ∀ g, ar = some g → v.ownBlock ≠ some g
  bl : Below w0.heap.size w0 wr

section
variable {w0 wr w1 w' : World} {tb db mb B : Nat} {v v' : Value} {gs : List Int} {q q' : List Nat} {dn : List Bool} {h : Nat → Option Int} {nm : Nat} {ar ar' : Option Nat} {D : DataW Unit}
theorem SrS.arB (s : SrS w0 tb db mb B wr v gs q dn h nm ar D) : ∀ g, ar = some g → B ≤ g ∧ g < wr.heap.size := fun g e => ⟨(s.qu.lt g e).2, (s.qu.lt g e).1⟩
theorem SrS.artb (s : SrS w0 tb db mb B wr v gs q dn h nm ar D) : ar ≠ some tb := fun e => by
  have := s.arB tb e; have := s.b2; have := s.b3; have := s.b4; omega
/-- Whatever writes nothing of it. -/
theorem SrS.fresh (s : SrS w0 tb db mb B wr v gs q dn h nm ar D) (hg : wr.grownBy w' none) : SrS w0 tb db mb B w' v gs q dn h nm ar D :=
  ⟨s.b1, s.b2, s.b3, s.b4, Nat.le_trans s.b5 hg.size, s.qu.kept hg (fun _ _ => by simp) (by simp), s.dn.kept hg (by simp), s.mp.kept hg (by simp), s.hm, s.go.kept hg (by cases hv : v.ownBlock <;> simp), s.ga,
    s.bl.grown hg s.bl.size (fun _ e => by simp at e)⟩
theorem SrS.alloc (s : SrS w0 tb db mb B wr v gs q dn h nm ar D) (o : Go.Obj) : SrS w0 tb db mb B (wr.alloc o) v gs q dn h nm ar D := s.fresh (World.grownBy_alloc wr o none)
theorem SrS.drewN (s : SrS w0 tb db mb B wr v gs q dn h nm ar D) (n : Nat) : SrS w0 tb db mb B (wr.drewN n) v gs q dn h nm ar D := s.fresh (grown_drewN (grown_refl _ _) n)
theorem SrS.goB (s : SrS w0 tb db mb B wr v gs q dn h nm ar D) : ∀ g, v.ownBlock = some g → B ≤ g ∧ g < wr.heap.size := s.go.lt
theorem SrS.pop (s : SrS w0 tb db mb B wr v gs q dn h nm ar D) (hQ : Qu w' tb B q' ar) (hg : wr.grownBy w' (some tb)) : SrS w0 tb db mb B w' v gs q' dn h nm ar D := by
  have h1 := s.b1; have h2 := s.b2; have h3 := s.b3; have h4 := s.b4; have h5 := s.b5
  refine ⟨h1, h2, h3, h4, Nat.le_trans h5 hg.size, hQ, s.dn.kept hg (by simp; omega), s.mp.kept hg (by simp; omega), s.hm, s.go.kept hg ?_, s.ga, s.bl.grown hg s.bl.size (fun k e => by simp at e; omega)⟩
  right; intro e
  have := s.goB tb e; omega
theorem SrS.push (s : SrS w0 tb db mb B wr v gs q dn h nm ar D) (hQ : Qu w' tb B q' ar') (hg : wr.grownBy w1 ar) (hg2 : w1.grownBy w' (some tb)) (har : ar' = ar ∨ ∃ g, ar' = some g ∧ wr.heap.size ≤ g) : SrS w0 tb db mb B w' v gs q' dn h nm ar' D := by
  have h1 := s.b1; have h2 := s.b2; have h3 := s.b3; have h4 := s.b4; have h5 := s.b5
  have hs := hg.size
  have ne : ∀ k, k < B → some k ≠ ar := fun k hk e => by have := s.arB k e.symm; omega
  refine ⟨h1, h2, h3, h4, Nat.le_trans h5 (Nat.le_trans hs hg2.size), hQ, (s.dn.kept hg (ne db (by omega))).kept hg2 (by simp; omega), (s.mp.kept hg (ne mb h4)).kept hg2 (by simp; omega), s.hm, (s.go.kept hg ?_).kept hg2 ?_, fun g e e' => ?_, (s.bl.grown hg s.bl.size (fun k e => by have := s.arB k e; omega)).grown hg2 (Nat.le_trans s.bl.size hs) (fun k e => by simp at e; omega)⟩
  · cases hv : v.ownBlock with
    | none => exact .inl rfl
    | some g => right; intro e; exact s.ga g e.symm hv
  · right; intro e
    have := s.goB tb e; omega
  · rcases har with har | ⟨g', har, hge⟩
    · rw [har] at e; exact s.ga g e e'
    · rw [har] at e; simp only [Option.some.injEq] at e; subst e
      have := s.goB g' e'; omega
/-- Something is got. -/
theorem SrS.app (s : SrS w0 tb db mb B wr v gs q dn h nm ar D) (x : Int) {o : Go.Obj} {g9 c9 n9 : Nat} (ho : w'.ownsRow B 3 1 (.slice (some ⟨g9, 0, none⟩) n9 c9) (gs.length + 1) (gs.map (.int .i64) ++ [.int .i64 x])) (hg : (wr.alloc o).grownBy w' v.ownBlock)
    (hl : v.ownBlock = some g9 ∨ g9 = wr.heap.size + 1) : SrS w0 tb db mb B w' (.slice (some ⟨g9, 0, none⟩) n9 c9) (gs ++ [x]) q dn h nm ar D := by
  have s := s.alloc o
  have h1 := s.b1; have h2 := s.b2; have h3 := s.b3; have h4 := s.b4; have h5 := s.b5
  have ne : ∀ k, k < B → some k ≠ v.ownBlock := fun k hk e => by have := s.goB k e.symm; omega
  refine ⟨h1, h2, h3, h4, Nat.le_trans h5 hg.size, s.qu.kept hg (fun g e e' => s.ga g e e') (fun e => ne tb (by omega) e.symm), s.dn.kept hg (ne db (by omega)), s.mp.kept hg (ne mb h4), s.hm, by simpa using ho, fun g e e' => ?_, s.bl.grown hg s.bl.size (fun k e => by have := s.goB k e; omega)⟩
  have e2 : g9 = g := by simpa [Value.ownBlock] using e'
  subst e2
  rcases hl with hl | hl
  · exact s.ga g9 e hl
  · have := s.arB g9 e; simp at this; omega
theorem SrS.store (s : SrS w0 tb db mb B wr v gs q dn h nm ar D) (i : Nat) (x : Int) (hM : w'.ownsMap Try.prog 3 (plainElem (H := Unit) Try.prog 3) mb (nm + 1) (D.put (ky i) (.lit (.int .i64 x)))) (hg : wr.grownBy w' (some mb)) : SrS w0 tb db mb B w' v gs q dn (Sr.put h i (some x)) (nm + 1) ar (D.put (ky i) (.lit (.int .i64 x))) := by
  have h1 := s.b1; have h2 := s.b2; have h3 := s.b3; have h4 := s.b4; have h5 := s.b5
  refine ⟨h1, h2, h3, h4, Nat.le_trans h5 hg.size, s.qu.kept hg (fun g e e' => by have := s.arB g e; simp at e'; omega) (by simp; omega), s.dn.kept hg (by simp; omega), hM, hm_put s.hm s.mp.isMap i x, s.go.kept hg ?_, s.ga, s.bl.grown hg s.bl.size (fun k e => by simp at e; omega)⟩
  right; intro e
  have := s.goB mb e; omega
theorem SrS.drop (s : SrS w0 tb db mb B wr v gs q dn h nm ar D) (i : Nat) (hM : w'.ownsMap Try.prog 3 (plainElem (H := Unit) Try.prog 3) mb nm (D.del (ky i))) (hg : wr.grownBy w' (some mb)) : SrS w0 tb db mb B w' v gs q dn (Sr.put h i none) nm ar (D.del (ky i)) := by
  have h1 := s.b1; have h2 := s.b2; have h3 := s.b3; have h4 := s.b4; have h5 := s.b5
  refine ⟨h1, h2, h3, h4, Nat.le_trans h5 hg.size, s.qu.kept hg (fun g e e' => by have := s.arB g e; simp at e'; omega) (by simp; omega), s.dn.kept hg (by simp; omega), hM, hm_del s.hm i, s.go.kept hg ?_, s.ga, s.bl.grown hg s.bl.size (fun k e => by simp at e; omega)⟩
  right; intro e
  have := s.goB mb e; omega
theorem SrS.mark (s : SrS w0 tb db mb B wr v gs q dn h nm ar D) (i : Nat) : SrS w0 tb db mb B (wr.setCell ⟨db, i, none⟩ (.bool true)) v gs q (dn.set i true) h nm ar D := by
  have h1 := s.b1; have h2 := s.b2; have h3 := s.b3; have h4 := s.b4; have h5 := s.b5
  have hg : wr.grownBy (wr.setCell ⟨db, i, none⟩ (.bool true)) (some db) := grown_set (grown_refl _ _) _ _
  refine ⟨h1, h2, h3, h4, Nat.le_trans h5 hg.size, s.qu.kept hg (fun g e e' => by have := s.arB g e; simp at e'; omega) (by simp; omega), ?_, s.mp.kept hg (by simp; omega), s.hm, s.go.kept hg ?_, s.ga, s.bl.grown hg s.bl.size (fun k e => by simp at e; omega)⟩
  · have := s.dn.set i (.bool true)
    rwa [set_map] at this
  · right; intro e
    have := s.goB db e; omega
theorem SrS.cellD (s : SrS w0 tb db mb B wr v gs q dn h nm ar D) (i : Nat) (hi : i < dn.length) : wr.cell? ⟨db, i, none⟩ = some (.bool (dn.getD i false)) := by
  rw [s.dn.cell i (by simpa using hi)]
  exact map_at _ _ _ _ hi
theorem SrS.freeD (s : SrS w0 tb db mb B wr v gs q dn h nm ar D) (i : Nat) : wr.frozen? ⟨db, i, none⟩ = false := s.dn.free i
theorem SrS.form (s : SrS w0 tb db mb B wr v gs q dn h nm ar D) : ∃ a c, v = .slice a gs.length c := by
  rcases s.go.2 with ⟨h1, h2⟩ | ⟨g, c, cur, h1, _⟩
  · exact ⟨none, 0, by rw [h1, h2]⟩
  · exact ⟨_, c, h1⟩
end
end Go.Proofs.Ytnkcjkemhdigpaa
