/- What lies in memory while a wheel turns. -/
import Derived.Test.YtmmoolcnpbebhaaDoorCore
import Derived.Test.YtmmoolcnpbebhaaDoorCel
import Derived.Test.YtmmoolcnpbebhaaDoorWheelPlain
import Derived.Maps.OwnSet
import Derived.Maps.OwnOps
import Derived.Deep.RegionLaw
import Derived.Deep.AppendLies
import Derived.BigQuiet
import Derived.Deep.QuietTactic
namespace Go.Proofs.YtmmoolcnpbebhaaDoor
open Go.RowKit Go.Maps
set_option linter.unusedSimpArgs false
set_option linter.unusedVariables false

theorem infoW : (Tryd.prog.info? 3).map (fun i => (i.zero, i.size, i.bytes)) = some (some (.int .i64 0), 1, 8) := by kernel_rfl
theorem span_is (l : Nat) (w : World) (h : l ≤ 2) : Calls Tryd.prog 17 #[.int .i64 l] w fun e w' => e = .returned (.int .i64 (Wl.spanN l : Nat)) ∧ w = w' := by
  have hc : l = 0 ∨ l = 1 ∨ l = 2 := by omega
  rcases hc with rfl | rfl | rfl
  · go_enter Tryd.func17, Tryd.ntmps17
    go_wp2
    refine wp_loop_rounds 1 ?_
    rw [rounds_succ]
    go_wp2
    go_ret
    exact ⟨rfl, rfl⟩
  · go_enter Tryd.func17, Tryd.ntmps17
    go_wp2
    refine wp_loop_rounds 2 ?_
    rw [rounds_succ]
    go_wp2
    rw [rounds_succ]
    go_wp2
    go_ret
    exact ⟨rfl, rfl⟩
  · go_enter Tryd.func17, Tryd.ntmps17
    go_wp2
    refine wp_loop_rounds 3 ?_
    rw [rounds_succ]
    go_wp2
    rw [rounds_succ]
    go_wp2
    rw [rounds_succ]
    go_wp2
    go_ret
    exact ⟨rfl, rfl⟩

/-! The map of when each is due. -/
theorem lawK : Keyed Tryd.prog 3 := int_keyed Tryd.underlying3
theorem zeroK (w : World) : (zeroValue 3).run Tryd.prog w = .ok (.int .i64 0) w := by kernel_rfl
def ky (i : Int) : Lit := .int .i64 i
theorem ky_key (i : Int) : WideAt.IsKeyLit (ky i) := by simp [ky, WideAt.IsKeyLit]
theorem ky_ne {i j : Int} (h : j ≠ i) : ky j ≠ ky i := fun e => by simp [ky] at e; omega
theorem ky_of {i : Int} (h : -9223372036854775808 ≤ i ∧ i ≤ 9223372036854775807) : keyOf Tryd.prog 3 (.int .i64 i) = some (ky i) := keyOf_int_mk Tryd.underlying3 (WalkArith.wf_i64 (by omega))
def Dm (D : DataW Unit) (h : Nat → Option Nat) : Prop :=
  (∀ i : Nat, Maps.has D (ky i) = (h i).isSome ∧ ∀ v, h i = some v → D.atKey (ky i) (.lit (.int .i64 0)) = .lit (.int .i64 v)) ∧ ∀ i : Int, i < 0 → Maps.has D (ky i) = false
theorem dm_empty : Dm (.map []) (fun _ => none) := ⟨fun i => ⟨by simp [Maps.has], fun v h => by simp at h⟩, fun i _ => by simp [Maps.has]⟩
theorem dm_put {D : DataW Unit} {h : Nat → Option Nat} (hm : Dm D h) (hD : IsMap D) (i : Nat) (v : Nat) : Dm (D.put (ky i) (.lit (.int .i64 v))) (Wl.upd h i (some v)) := by
  refine ⟨fun j => ?_, fun j hj => ?_⟩
  · by_cases e : j = i
    · subst e
      refine ⟨?_, fun u hu => ?_⟩
      · rw [has_put_same hD (ky_key _), Wl.upd_same]; rfl
      · rw [Wl.upd_same] at hu
        simp only [Option.some.injEq] at hu
        rw [atKey_put_same hD (ky_key _), hu]
    · refine ⟨?_, fun u hu => ?_⟩
      · rw [has_put_other (ky_ne (by omega)), Wl.upd_other e]; exact (hm.1 j).1
      · rw [Wl.upd_other e] at hu
        rw [atKey_put_other (ky_ne (by omega))]; exact (hm.1 j).2 u hu
  · rw [has_put_other (ky_ne (by omega))]; exact hm.2 j hj
theorem dm_del {D : DataW Unit} {h : Nat → Option Nat} (hm : Dm D h) (i : Nat) : Dm (D.del (ky i)) (Wl.upd h i none) := by
  refine ⟨fun j => ?_, fun j hj => ?_⟩
  · by_cases e : j = i
    · subst e
      refine ⟨?_, fun u hu => ?_⟩
      · rw [has_del_same, Wl.upd_same]; rfl
      · rw [Wl.upd_same] at hu; simp at hu
    · refine ⟨?_, fun u hu => ?_⟩
      · rw [has_del_other (ky_ne (by omega)), Wl.upd_other e]; exact (hm.1 j).1
      · rw [Wl.upd_other e] at hu
        rw [atKey_del_other (ky_ne (by omega))]; exact (hm.1 j).2 u hu
  · rw [has_del_other (ky_ne (by omega))]; exact hm.2 j hj

def nats (l : List Nat) : List Value := l.map fun x : Nat => Value.int .i64 (x : Int)
/-- The wheel's block: now, the 24 slots, the map. -/
def cellsW (now : Nat) (vs : Nat → Value) (mb : Nat) : List Value := .int .i64 (now : Int) :: ((List.range 24).map vs ++ [.map (some mb)])
theorem cellsW_0 (now : Nat) (vs : Nat → Value) (mb : Nat) : (cellsW now vs mb)[0]? = some (.int .i64 (now : Int)) := rfl
theorem cellsW_s (now : Nat) (vs : Nat → Value) (mb : Nat) {i : Nat} (h : i < 24) : (cellsW now vs mb)[1 + i]? = some (vs i) := by
  unfold cellsW
  rw [show 1 + i = i + 1 from by omega, List.getElem?_cons_succ, List.getElem?_append_left (by simpa using h)]
  simp [h]
theorem cellsW_m (now : Nat) (vs : Nat → Value) (mb : Nat) : (cellsW now vs mb)[25]? = some (.map (some mb)) := by
  unfold cellsW
  rw [List.getElem?_cons_succ, List.getElem?_append_right (by simp)]
  rfl
theorem cellsW_set0 (now now' : Nat) (vs : Nat → Value) (mb : Nat) : (cellsW now vs mb).set 0 (.int .i64 (now' : Int)) = cellsW now' vs mb := rfl
theorem cellsW_set (now : Nat) (vs : Nat → Value) (mb : Nat) {i : Nat} (h : i < 24) (u : Value) : (cellsW now vs mb).set (1 + i) u = cellsW now (Wl.upd vs i u) mb := by
  apply List.ext_getElem?
  intro j
  rw [List.getElem?_set]
  have hlen : ∀ f, (cellsW now f mb).length = 26 := fun f => by simp [cellsW]
  by_cases e : 1 + i = j
  · subst e
    rw [if_pos rfl, if_pos (by rw [hlen]; omega), cellsW_s _ _ _ h, Wl.upd_same]
  · rw [if_neg e]
    rcases Nat.lt_or_ge j 1 with h1 | h1
    · obtain rfl : j = 0 := by omega
      rfl
    · rcases Nat.lt_or_ge j 25 with h2 | h2
      · obtain ⟨k, rfl⟩ : ∃ k, j = 1 + k := ⟨j - 1, by omega⟩
        rw [cellsW_s _ _ _ (by omega), cellsW_s _ _ _ (by omega), Wl.upd_other (by omega)]
      · rcases Nat.lt_or_ge j 26 with h3 | h3
        · obtain rfl : j = 25 := by omega
          rw [cellsW_m, cellsW_m]
        · rw [List.getElem?_eq_none (by rw [hlen]; exact h3), List.getElem?_eq_none (by rw [hlen]; exact h3)]

/-- A reference: a world, and which of its blocks are kept. -/
structure Rf where
  w : World
  K : Nat → Prop
  lt : ∀ k, K k → k < w.heap.size
structure Kp (r : Rf) (w : World) : Prop where
  os : w.os = r.w.os
  tape : w.tape = r.w.tape
  output : w.output = r.w.output
  size : r.w.heap.size ≤ w.heap.size
  block : ∀ k, r.K k → w.heap[k]? = r.w.heap[k]?
theorem Kp.grown {r : Rf} {w w' : World} {row : Option Nat} (h : Kp r w) (hg : w.grownBy w' row) (hr : ∀ k, row = some k → ¬ r.K k) : Kp r w' :=
  ⟨hg.os.trans h.os, hg.tape.trans h.tape, hg.output.trans h.output, Nat.le_trans h.size hg.size, fun k hk => (hg.block k (Nat.lt_of_lt_of_le (r.lt k hk) h.size) (fun e => hr k e.symm hk)).trans (h.block k hk)⟩
theorem Kp.refl (r : Rf) : Kp r r.w := ⟨rfl, rfl, rfl, Nat.le_refl _, fun _ _ => rfl⟩
/-! All of it. x: a row that has left its slot (or nil). -/
structure WS (w0 : Rf) (wb mb B : Nat) (wr : World) (vs : Nat → Value) (s : Wl.St) (nm : Nat) (D : DataW Unit) (x : Value) (xl : List Nat) : Prop where
  b1 : ¬ w0.K wb
  b5 : ¬ w0.K mb
  b2 : mb < wb
  b3 : wb < B
  b4 : B ≤ wr.heap.size
  ob : Obj wr wb 42 (cellsW s.now vs mb)
  rows : ∀ i, i < 24 → wr.ownsRow B 3 1 (vs i) (s.hs i).length (nats (s.hs i))
  dj : ∀ i j, i < 24 → j < 24 → i ≠ j → ∀ g, (vs i).ownBlock = some g → (vs j).ownBlock ≠ some g
  xr : wr.ownsRow B 3 1 x xl.length (nats xl)
  xd : ∀ i, i < 24 → ∀ g, (vs i).ownBlock = some g → x.ownBlock ≠ some g
  mp : wr.ownsMap Tryd.prog 3 (plainElem (H := Unit) Tryd.prog 3) mb nm D
  dm : Dm D s.due
  fr : ∀ i, i < 24 → ∀ g, (vs i).ownBlock = some g → ¬ w0.K g
  fx : ∀ g, x.ownBlock = some g → ¬ w0.K g
  bl : Kp w0 wr
section
variable {w0 : Rf} {wr w' : World} {wb mb B nm : Nat} {vs : Nat → Value} {s : Wl.St} {D : DataW Unit} {x : Value} {xl : List Nat}
theorem own_keep {w w' : World} {b e size n : Nat} {v : Value} {xs : List Value} {r : Option Nat} (h : w.ownsRow b e size v n xs) (hg : w.grownBy w' r) (hr : ∀ g, v.ownBlock = some g → r ≠ some g) : w'.ownsRow b e size v n xs := by
  refine h.kept hg ?_
  cases hv : v.ownBlock with
  | none => exact .inl rfl
  | some g => right; intro e; exact hr g hv e.symm
theorem WS.fresh (h : WS w0 wb mb B wr vs s nm D x xl) (hg : wr.grownBy w' none) : WS w0 wb mb B w' vs s nm D x xl :=
  ⟨h.b1, h.b5, h.b2, h.b3, Nat.le_trans h.b4 hg.size, h.ob.kept hg (by simp), fun i hi => own_keep (h.rows i hi) hg (fun _ _ => by simp), h.dj, own_keep h.xr hg (fun _ _ => by simp), h.xd, h.mp.kept hg (by simp), h.dm, h.fr, h.fx, h.bl.grown hg (fun _ e => by simp at e)⟩
theorem WS.alloc (h : WS w0 wb mb B wr vs s nm D x xl) (o : Go.Obj) : WS w0 wb mb B (wr.alloc o) vs s nm D x xl := h.fresh (World.grownBy_alloc wr o none)
theorem WS.drewN (h : WS w0 wb mb B wr vs s nm D x xl) (n : Nat) : WS w0 wb mb B (wr.drewN n) vs s nm D x xl := h.fresh (grown_drewN (grown_refl _ _) n)
theorem WS.drew (h : WS w0 wb mb B wr vs s nm D x xl) : WS w0 wb mb B wr.drew vs s nm D x xl := h.fresh (grown_drew (grown_refl _ _))
/-- Only the wheel's own block is written. -/
theorem WS.cell (h : WS w0 wb mb B wr vs s nm D x xl) (hg : wr.grownBy w' (some wb)) {vs' : Nat → Value} {s' : Wl.St} {x' : Value} {xl' : List Nat} (ho : Obj w' wb 42 (cellsW s'.now vs' mb)) (hd : s'.due = s.due)
    (hr : ∀ i, i < 24 → wr.ownsRow B 3 1 (vs' i) (s'.hs i).length (nats (s'.hs i))) (hj : ∀ i j, i < 24 → j < 24 → i ≠ j → ∀ g, (vs' i).ownBlock = some g → (vs' j).ownBlock ≠ some g)
    (hx : wr.ownsRow B 3 1 x' xl'.length (nats xl')) (hxd : ∀ i, i < 24 → ∀ g, (vs' i).ownBlock = some g → x'.ownBlock ≠ some g) (hfr : ∀ i, i < 24 → ∀ g, (vs' i).ownBlock = some g → ¬ w0.K g) (hfx : ∀ g, x'.ownBlock = some g → ¬ w0.K g) : WS w0 wb mb B w' vs' s' nm D x' xl' := by
  have b1 := h.b1; have b2 := h.b2; have b3 := h.b3; have b4 := h.b4
  have ne : ∀ (v : Value) (l : List Nat), wr.ownsRow B 3 1 v l.length (nats l) → ∀ g, v.ownBlock = some g → some wb ≠ some g := fun v l hv g e e' => by
    have := (hv.lt g e).1; simp at e'; omega
  exact ⟨b1, h.b5, b2, b3, Nat.le_trans b4 hg.size, ho, fun i hi => own_keep (hr i hi) hg (ne _ _ (hr i hi)), hj, own_keep hx hg (ne _ _ hx), hxd, h.mp.kept hg (by simp; omega), by rw [hd]; exact h.dm, hfr, hfx, h.bl.grown hg (fun k e => by simp at e; subst e; exact b1)⟩
theorem WS.setNow (h : WS w0 wb mb B wr vs s nm D x xl) (n : Nat) : WS w0 wb mb B (wr.setCell ⟨wb, 0, none⟩ (.int .i64 (n : Int))) vs ⟨n, s.due, s.hs⟩ nm D x xl :=
  h.cell (grown_set (grown_refl _ _) _ _) (by rw [← cellsW_set0 s.now]; exact h.ob.set 0 _) rfl h.rows h.dj h.xr h.xd h.fr h.fx
/-- A slot's row leaves it. -/
theorem WS.take (h : WS w0 wb mb B wr vs s nm D x xl) {i : Nat} (hi : i < 24) : WS w0 wb mb B (wr.setCell ⟨wb, 1 + i, none⟩ (.slice none 0 0)) (Wl.upd vs i (.slice none 0 0)) ⟨s.now, s.due, Wl.upd s.hs i []⟩ nm D (vs i) (s.hs i) := by
  refine h.cell (grown_set (grown_refl _ _) _ _) (by rw [← cellsW_set s.now vs mb hi]; exact h.ob.set _ _) rfl (fun j hj => ?_) (fun j k hj hk hne g e e' => ?_) (h.rows i hi) (fun j hj g e e' => ?_) (fun j hj g e => ?_) (h.fr i hi)
  · by_cases e : j = i
    · subst e; simp only [Wl.upd_same]; exact World.ownsRow_nil _ _ _ _
    · simp only [Wl.upd_other e]; exact h.rows j hj
  · by_cases h1 : j = i
    · rw [h1, Wl.upd_same] at e; simp [Value.ownBlock] at e
    · by_cases h2 : k = i
      · rw [h2, Wl.upd_same] at e'; simp [Value.ownBlock] at e'
      · rw [Wl.upd_other h1] at e; rw [Wl.upd_other h2] at e'; exact h.dj j k hj hk hne g e e'
  · by_cases h1 : j = i
    · rw [h1, Wl.upd_same] at e; simp [Value.ownBlock] at e
    · rw [Wl.upd_other h1] at e; exact h.dj j i hj hi h1 g e e'
  · by_cases h1 : j = i
    · rw [h1, Wl.upd_same] at e; simp [Value.ownBlock] at e
    · rw [Wl.upd_other h1] at e; exact h.fr j hj g e
theorem WS.bare (h : WS w0 wb mb B wr vs s nm D x xl) : WS w0 wb mb B wr vs s nm D (.slice none 0 0) [] :=
  ⟨h.b1, h.b5, h.b2, h.b3, h.b4, h.ob, h.rows, h.dj, World.ownsRow_nil _ _ _ _, fun i hi g e e' => by simp [Value.ownBlock] at e', h.mp, h.dm, h.fr, fun g e => by simp [Value.ownBlock] at e, h.bl⟩
/-- A timer is put into a slot: the append, then the store. -/
theorem WS.putIn (h : WS w0 wb mb B wr vs s nm D x xl) {o : Go.Obj} {i : Nat} (hi : i < 24) (id : Nat) {w5 : World} {g9 c9 : Nat}
    (ho : w5.ownsRow B 3 1 (.slice (some ⟨g9, 0, none⟩) ((s.hs i).length + 1) c9) ((s.hs i).length + 1) (nats (s.hs i) ++ [.int .i64 (id : Int)])) (hg : (wr.alloc o).grownBy w5 (vs i).ownBlock) (hl : (vs i).ownBlock = some g9 ∨ g9 = wr.heap.size + 1) :
    WS w0 wb mb B (w5.setCell ⟨wb, 1 + i, none⟩ (.slice (some ⟨g9, 0, none⟩) ((s.hs i).length + 1) c9)) (Wl.upd vs i (.slice (some ⟨g9, 0, none⟩) ((s.hs i).length + 1) c9)) ⟨s.now, s.due, Wl.upd s.hs i (s.hs i ++ [id])⟩ nm D x xl := by
  have h := h.alloc o
  have b1 := h.b1; have b2 := h.b2; have b3 := h.b3; have b4 := h.b4
  have hlt := (h.rows i hi).lt
  have h5 : WS w0 wb mb B w5 (Wl.upd vs i (.slice (some ⟨g9, 0, none⟩) ((s.hs i).length + 1) c9)) ⟨s.now, s.due, Wl.upd s.hs i (s.hs i ++ [id])⟩ nm D x xl → True := fun _ => trivial
  have hob : Obj w5 wb 42 (cellsW s.now vs mb) := h.ob.kept hg (fun e => by have := (hlt wb e.symm).1; omega)
  have hrow : ∀ j, j < 24 → j ≠ i → w5.ownsRow B 3 1 (vs j) (s.hs j).length (nats (s.hs j)) := fun j hj hne => own_keep (h.rows j hj) hg (fun g e e' => h.dj j i hj hi hne g e e')
  have hxr : w5.ownsRow B 3 1 x xl.length (nats xl) := own_keep h.xr hg (fun g e e' => h.xd i hi g e' e)
  have hnew : ∀ g, g9 = g → ∀ v (l : List Nat), (wr.alloc o).ownsRow B 3 1 v l.length (nats l) → (∀ g', (vs i).ownBlock = some g' → v.ownBlock ≠ some g') → v.ownBlock ≠ some g := fun g e v l hv hd e' => by
    subst e
    rcases hl with hl | hl
    · exact hd g9 hl e'
    · have := (hv.lt g9 e').2; simp at this; omega
  have hown : ∀ g, Value.ownBlock (.slice (some ⟨g9, 0, none⟩) ((s.hs i).length + 1) c9) = some g → g9 = g := fun g e => by simpa [Value.ownBlock] using e
  have hg2 : w5.grownBy (w5.setCell ⟨wb, 1 + i, none⟩ (.slice (some ⟨g9, 0, none⟩) ((s.hs i).length + 1) c9)) (some wb) := grown_set (grown_refl _ _) _ _
  have hsz := hg.size
  refine ⟨b1, h.b5, b2, b3, Nat.le_trans (Nat.le_trans b4 hsz) hg2.size, by rw [← cellsW_set s.now vs mb hi]; exact hob.set _ _, fun j hj => ?_, fun j k hj hk hne g e e' => ?_, own_keep hxr hg2 (fun g e e' => by have := (hxr.lt g e).1; simp at e'; omega), fun j hj g e => ?_, (h.mp.kept hg (fun e => by have := (hlt mb e.symm).1; omega)).kept hg2 (by simp; omega), h.dm, fun j hj g e => ?_, h.fx, (h.bl.grown hg (fun k e => h.fr i hi k e)).grown hg2 (fun k e => by simp at e; subst e; exact b1)⟩
  · by_cases e : j = i
    · subst e
      simp only [Wl.upd_same, List.length_append, List.length_cons, List.length_nil, Nat.zero_add]
      refine own_keep (by simpa [nats] using ho) hg2 (fun g e e' => ?_)
      have := (ho.lt g e).1; simp at e'; omega
    · simp only [Wl.upd_other e]
      exact own_keep (hrow j hj e) hg2 (fun g e2 e' => by have := ((hrow j hj e).lt g e2).1; simp at e'; omega)
  · by_cases h1 : j = i
    · rw [h1, Wl.upd_same] at e
      have hki : k ≠ i := fun e2 => hne (by rw [h1, e2])
      rw [Wl.upd_other hki] at e'
      exact hnew g (hown g e) _ _ (h.rows k hk) (fun g' e3 => h.dj i k hi hk (Ne.symm hki) g' e3) e'
    · rw [Wl.upd_other h1] at e
      by_cases h2 : k = i
      · rw [h2, Wl.upd_same] at e'
        exact hnew g (hown g e') _ _ (h.rows j hj) (fun g' e3 => h.dj i j hi hj (Ne.symm h1) g' e3) e
      · rw [Wl.upd_other h2] at e'; exact h.dj j k hj hk hne g e e'
  · by_cases h1 : j = i
    · rw [h1, Wl.upd_same] at e
      exact hnew g (hown g e) _ _ h.xr (fun g' e3 => h.xd i hi g' e3)
    · rw [Wl.upd_other h1] at e; exact h.xd j hj g e
  · by_cases h1 : j = i
    · rw [h1, Wl.upd_same] at e
      have e2 := hown g e
      subst e2
      rcases hl with hl | hl
      · exact h.fr i hi g9 hl
      · intro hK
        have h8 := w0.lt _ hK
        have h9 := h.bl.size
        simp at h9
        omega
    · rw [Wl.upd_other h1] at e; exact h.fr j hj g e
theorem WS.map (h : WS w0 wb mb B wr vs s nm D x xl) {due' : Nat → Option Nat} {nm' : Nat} {D' : DataW Unit} (hM : w'.ownsMap Tryd.prog 3 (plainElem (H := Unit) Tryd.prog 3) mb nm' D') (hg : wr.grownBy w' (some mb)) (hd : Dm D' due') : WS w0 wb mb B w' vs ⟨s.now, due', s.hs⟩ nm' D' x xl := by
  have b1 := h.b1; have b2 := h.b2; have b3 := h.b3; have b4 := h.b4
  have ne : ∀ (v : Value) (l : List Nat), wr.ownsRow B 3 1 v l.length (nats l) → ∀ g, v.ownBlock = some g → some mb ≠ some g := fun v l hv g e e' => by
    have := (hv.lt g e).1; simp at e'; omega
  exact ⟨b1, h.b5, b2, b3, Nat.le_trans b4 hg.size, h.ob.kept hg (by simp; omega), fun i hi => own_keep (h.rows i hi) hg (ne _ _ (h.rows i hi)), h.dj, own_keep h.xr hg (ne _ _ h.xr), h.xd, hM, hd, h.fr, h.fx, h.bl.grown hg (fun k e => by simp at e; subst e; exact h.b5)⟩
/-- Another reference, behind a call that writes a block of its own that is kept. -/
theorem WS.move (h : WS w0 wb mb B wr vs s nm D x xl) {rb : Option Nat} (hg : wr.grownBy w' rb) (hb : ∀ k, rb = some k → w0.K k) (r : Rf) (hw : r.w = w') (hK : ∀ k, r.K k → w0.K k ∨ wr.heap.size ≤ k) : WS r wb mb B w' vs s nm D x xl := by
  have b2 := h.b2; have b3 := h.b3; have b4 := h.b4
  refine ⟨fun hk => ?_, fun hk => ?_, b2, b3, Nat.le_trans b4 hg.size, h.ob.kept hg (fun e => h.b1 (hb _ e.symm)), fun i hi => own_keep (h.rows i hi) hg (fun g e e' => h.fr i hi g e (hb _ e')), h.dj, own_keep h.xr hg (fun g e e' => h.fx g e (hb _ e')), h.xd, h.mp.kept hg (fun e => h.b5 (hb _ e.symm)), h.dm, fun i hi g e hk => ?_, fun g e hk => ?_, by subst hw; exact Kp.refl r⟩
  · rcases hK _ hk with h1 | h1
    · exact h.b1 h1
    · omega
  · rcases hK _ hk with h1 | h1
    · exact h.b5 h1
    · omega
  · rcases hK _ hk with h1 | h1
    · exact h.fr i hi g e h1
    · have := ((h.rows i hi).lt g e).2; omega
  · rcases hK _ hk with h1 | h1
    · exact h.fx g e h1
    · have := (h.xr.lt g e).2; omega
theorem WS.cell0 (h : WS w0 wb mb B wr vs s nm D x xl) : wr.cell? ⟨wb, 0, none⟩ = some (.int .i64 (s.now : Int)) := by rw [h.ob.cell]; rfl
theorem WS.cellS (h : WS w0 wb mb B wr vs s nm D x xl) {i : Nat} (hi : i < 24) : wr.cell? ⟨wb, 1 + i, none⟩ = some (vs i) := by rw [h.ob.cell, cellsW_s _ _ _ hi]
theorem WS.cellM (h : WS w0 wb mb B wr vs s nm D x xl) : wr.cell? ⟨wb, 25, none⟩ = some (.map (some mb)) := by rw [h.ob.cell, cellsW_m]
theorem WS.free (h : WS w0 wb mb B wr vs s nm D x xl) (j : Nat) : wr.frozen? ⟨wb, j, none⟩ = false := h.ob.free j
theorem WS.form (h : WS w0 wb mb B wr vs s nm D x xl) {i : Nat} (hi : i < 24) : ∃ a c, vs i = .slice a (s.hs i).length c := by
  rcases (h.rows i hi).2 with ⟨h1, h2⟩ | ⟨g, c, cur, h1, _⟩
  · exact ⟨none, 0, by rw [h1, h2]⟩
  · exact ⟨_, c, h1⟩
end
end Go.Proofs.YtmmoolcnpbebhaaDoor
