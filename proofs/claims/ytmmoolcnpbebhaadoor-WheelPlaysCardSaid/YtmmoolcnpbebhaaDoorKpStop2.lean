/- The contract of Stop. -/
import Derived.Test.YtmmoolcnpbebhaaDoorKpStop
namespace Go.Proofs.YtmmoolcnpbebhaaDoor
open Go.RowKit Go.Maps
set_option linter.unusedSimpArgs false
set_option linter.unusedVariables false

namespace Wl
/-- The slots ahead of K have lost a timer. -/
def del (s : St) (id K : Nat) : St := ⟨s.now, s.due, fun i => if i < K then (s.hs i).erase id else s.hs i⟩
def stop (s : St) (id : Nat) : St := ⟨s.now, upd s.due id none, fun i => if i < 24 then (s.hs i).erase id else s.hs i⟩
theorem del_zero (s : St) (id : Nat) : del s id 0 = s := by
  unfold del
  have : (fun i => if i < 0 then (s.hs i).erase id else s.hs i) = s.hs := funext fun i => if_neg (by omega)
  rw [this]
theorem del_at (s : St) (id K : Nat) : (del s id K).hs K = s.hs K := if_neg (Nat.lt_irrefl _)
theorem del_step (s : St) (id K : Nat) : (⟨s.now, s.due, upd (del s id K).hs K ((s.hs K).erase id)⟩ : St) = del s id (K + 1) := by
  unfold del
  have : upd (fun i => if i < K then (s.hs i).erase id else s.hs i) K ((s.hs K).erase id) = fun i => if i < K + 1 then (s.hs i).erase id else s.hs i := by
    funext i
    unfold upd
    by_cases e : i = K
    · subst e; rw [if_pos rfl, if_pos (by omega)]
    · rw [if_neg e]
      show (if i < K then (s.hs i).erase id else s.hs i) = _
      by_cases h : i < K
      · rw [if_pos h, if_pos (by omega)]
      · rw [if_neg h, if_neg (by omega)]
  show (⟨s.now, s.due, upd (fun i => if i < K then (s.hs i).erase id else s.hs i) K ((s.hs K).erase id)⟩ : St) = _
  rw [this]
theorem stop_ok {s : St} (h : Ok s 1 1 1 []) (id : Nat) : Ok (stop s id) 1 1 1 [] := by
  have hs : ∀ i, i < 24 → (stop s id).hs i = (s.hs i).erase id := fun i hi => if_pos hi
  have hm : ∀ i, i < 24 → ∀ x, x ∈ (stop s id).hs i ↔ x ≠ id ∧ x ∈ s.hs i := fun i hi x => by
    rw [hs i hi]; exact (h.nd i hi).mem_erase_iff
  have hd : ∀ x, x ≠ id → (stop s id).due x = s.due x := fun x hx => upd_other hx
  have hd0 : (stop s id).due id = none := upd_same _ _ _
  refine ⟨fun x a ha => ?_, fun i x hi hx => ?_, fun i hi => ?_, fun i j x hi hj h1 h2 => ?_, fun x a ha => ?_, by simp, fun x hx => by simp at hx, fun x hx => by simp at hx⟩
  · by_cases e : x = id
    · subst e; rw [hd0] at ha; simp at ha
    · rw [hd x e] at ha; exact h.ids x a ha
  · obtain ⟨h1, h2⟩ := (hm i hi x).1 hx
    rw [hd x h1]
    exact h.at_ i x hi h2
  · rw [hs i hi]; exact (h.nd i hi).erase id
  · exact h.one i j x hi hj ((hm i hi x).1 h1).2 ((hm j hj x).1 h2).2
  · by_cases e : x = id
    · subst e; rw [hd0] at ha; simp at ha
    · rw [hd x e] at ha
      rcases h.all x a ha with h1 | ⟨i, hi, h1⟩
      · simp at h1
      · right; exact ⟨i, hi, (hm i hi x).2 ⟨e, h1⟩⟩
end Wl

section
variable {w0 : Rf} {wr : World} {wb mb B nm : Nat} {vs : Nat → Value} {s : Wl.St} {D : DataW Unit} {x : Value} {xl : List Nat}
theorem WS.look (h : WS w0 wb mb B wr vs s nm D x xl) (id : Int) (hid : -9223372036854775808 ≤ id ∧ id ≤ 9223372036854775807) : ∃ c : Int, ∀ n, (Instr.lookup 38 (.map (some mb)) (.int .i64 id) true).run Tryd.prog (wr.drewN n) = .ok (.tuple #[.int .i64 c, .bool (Maps.has D (ky id))]) (wr.drewN n) := by
  have key : ∀ n, ∃ c : Int, (Instr.lookup 38 (.map (some mb)) (.int .i64 id) true).run Tryd.prog (wr.drewN n) = .ok (.tuple #[.int .i64 c, .bool (Maps.has D (ky id))]) (wr.drewN n) ∧ D.atKey (ky id) (.lit (.int .i64 0)) = .lit (.int .i64 c) := fun n => by
    obtain ⟨v, ps, h1, h2⟩ := World.ownsMap.look_ok (h.drewN n).mp lawK Tryd.underlying38 (z := .int .i64 0) (zeroK _) (zd := .lit (.int .i64 0)) (zp := []) (plainElem_int Tryd.underlying3 (by decide)) (ky_of hid)
    obtain ⟨c, rfl, hc, _⟩ := plainElem_int_inv Tryd.underlying3 h2
    exact ⟨c, h1, congrArg Prod.fst hc⟩
  obtain ⟨c, _, hc⟩ := key 0
  refine ⟨c, fun n => ?_⟩
  obtain ⟨c', h1, hc'⟩ := key n
  rw [hc] at hc'
  simp only [DataW.lit.injEq, Lit.int.injEq, true_and] at hc'
  rw [hc']; exact h1

theorem wstop_no (id : Int) (hid : -9223372036854775808 ≤ id ∧ id ≤ 9223372036854775807) (h : WS w0 wb mb B wr vs s nm D x xl) (hn : Maps.has D (ky id) = false) :
    Calls Tryd.prog 10 #[.pointer (some ⟨wb, 0, none⟩), .int .i64 id] wr fun e w' => e = .returned (errV 5) ∧ wr.grownBy w' none := by
  have h1 := h.alloc (.cells #[.int .i64 id] 3 (0, 0))
  have cm := h1.cellM
  obtain ⟨c, hlk⟩ := h1.look id hid
  rw [hn] at hlk
  have ck := (Obj.new wr [.int .i64 id] 3).cell 0
  have G1 : Hid (wr.grownBy (wr.alloc (.cells #[.int .i64 id] 3 (0, 0))) none) := World.grownBy_alloc wr _ none
  clear h hn h1
  go_enter Tryd.func10, Tryd.ntmps10
  go_wp2_with fail
  have ck : (wr.alloc (.cells #[.int .i64 id] 3 (0, 0))).cell? ⟨wr.heap.size, 0, none⟩ = some (.int .i64 id) := ck
  generalize wr.alloc (.cells #[.int .i64 id] 3 (0, 0)) = w1 at *
  go_quiet (fail)
  clear hlk
  go_wp2_with fail
  go_ret
  exact ⟨rfl, grown_drewN G1.out nq⟩

theorem WS.swap (h : WS w0 wb mb B wr vs s nm D x xl) {i : Nat} (hi : i < 24) {w5 : World} {v' : Value} {l' : List Nat}
    (hg : wr.grownBy w5 (vs i).ownBlock) (ho : w5.ownsRow B 3 1 v' l'.length (nats l')) (hb : v'.ownBlock = (vs i).ownBlock) :
    WS w0 wb mb B (w5.setCell ⟨wb, 1 + i, none⟩ v') (Wl.upd vs i v') ⟨s.now, s.due, Wl.upd s.hs i l'⟩ nm D x xl := by
  have b1 := h.b1; have b2 := h.b2; have b3 := h.b3; have b4 := h.b4
  have hlt := (h.rows i hi).lt
  have hob : Obj w5 wb 42 (cellsW s.now vs mb) := h.ob.kept hg (fun e => by have := (hlt wb e.symm).1; omega)
  have hrow : ∀ j, j < 24 → j ≠ i → w5.ownsRow B 3 1 (vs j) (s.hs j).length (nats (s.hs j)) := fun j hj hne => own_keep (h.rows j hj) hg (fun g e e' => h.dj j i hj hi hne g e e')
  have hxr : w5.ownsRow B 3 1 x xl.length (nats xl) := own_keep h.xr hg (fun g e e' => h.xd i hi g e' e)
  have hg2 : w5.grownBy (w5.setCell ⟨wb, 1 + i, none⟩ v') (some wb) := grown_set (grown_refl _ _) _ _
  have hsz := hg.size
  refine ⟨b1, h.b5, b2, b3, Nat.le_trans (Nat.le_trans b4 hsz) hg2.size, by rw [← cellsW_set s.now vs mb hi]; exact hob.set _ _, fun j hj => ?_, fun j k hj hk hne g e e' => ?_, own_keep hxr hg2 (fun g e e' => by have := (hxr.lt g e).1; simp at e'; omega), fun j hj g e => ?_, (h.mp.kept hg (fun e => by have := (hlt mb e.symm).1; omega)).kept hg2 (by simp; omega), h.dm, fun j hj g e => ?_, h.fx, (h.bl.grown hg (fun k e => h.fr i hi k e)).grown hg2 (fun k e => by simp at e; subst e; exact b1)⟩
  · by_cases e : j = i
    · subst e
      simp only [Wl.upd_same]
      refine own_keep ho hg2 (fun g e e' => ?_)
      have := (ho.lt g e).1; simp at e'; omega
    · simp only [Wl.upd_other e]
      exact own_keep (hrow j hj e) hg2 (fun g e2 e' => by have := ((hrow j hj e).lt g e2).1; simp at e'; omega)
  · by_cases h1 : j = i
    · rw [h1, Wl.upd_same, hb] at e
      have hki : k ≠ i := fun e2 => hne (by rw [h1, e2])
      rw [Wl.upd_other hki] at e'
      exact h.dj i k hi hk (Ne.symm hki) g e e'
    · rw [Wl.upd_other h1] at e
      by_cases h2 : k = i
      · rw [h2, Wl.upd_same, hb] at e'
        exact h.dj j i hj hi h1 g e e'
      · rw [Wl.upd_other h2] at e'; exact h.dj j k hj hk hne g e e'
  · by_cases h1 : j = i
    · rw [h1, Wl.upd_same, hb] at e
      exact h.xd i hi g e
    · rw [Wl.upd_other h1] at e; exact h.xd j hj g e
  · by_cases h1 : j = i
    · rw [h1, Wl.upd_same, hb] at e
      exact h.fr i hi g e
    · rw [Wl.upd_other h1] at e; exact h.fr j hj g e

theorem wdel (h : WS w0 wb mb B wr vs s nm D x xl) {i : Nat} (hi : i < 24) (id kb : Nat) (hnd : (s.hs i).Nodup) (hl : (s.hs i).length ≤ 1000) (hm : ∀ y ∈ s.hs i, y ≤ 1000) (hk : Obj wr kb 3 [.int .i64 (id : Int)]) (hne : (vs i).ownBlock ≠ some kb) :
    Calls Tryd.prog 19 #[vs i, clsV kb] wr fun e w' => ∃ v', e = .returned v' ∧ wr.grownBy w' (vs i).ownBlock ∧ w'.ownsRow B 3 1 v' ((s.hs i).erase id).length (nats ((s.hs i).erase id)) ∧ v'.ownBlock = (vs i).ownBlock := by
  have hr := h.rows i hi
  by_cases hid : id ∈ s.hs i
  · obtain ⟨pre, rest, he⟩ := List.append_of_mem hid
    rw [he] at hnd hm hl hr ⊢
    have h1 : id ∉ pre := fun hp => by
      rw [List.nodup_append] at hnd
      exact hnd.2.2 id hp id (by simp) rfl
    have h2 : id ∉ rest := fun hp => by
      rw [List.nodup_append] at hnd
      have := hnd.2.1
      rw [List.nodup_cons] at this
      exact this.1 hp
    obtain ⟨g, c, hv, _, _⟩ := Cel.form hr (by simp; omega)
    rw [hv] at hr hne ⊢
    have hne' : kb ≠ g := fun e => hne (by rw [e]; rfl)
    have e2 : (pre ++ id :: rest).erase id = pre ++ rest := by
      rw [List.erase_append_right _ h1, List.erase_cons_head]
    refine (delf_yes pre rest id _ c g kb B wr rfl hr h1 h2 hl hm hk hne').mono ?_
    rintro e w' ⟨rfl, h3, h4⟩
    rw [e2]
    exact ⟨_, rfl, h4, h3, rfl⟩
  · obtain ⟨a, c, hv⟩ := h.form hi
    rw [hv] at hr ⊢
    rw [List.erase_of_not_mem hid]
    have hI := nats_ints hr (by omega) (fun x hx => by have := hm x hx; omega)
    refine (delf_no a (s.hs i).length c _ (id : Int) kb _ wr hI (hk.cell 0) (fun j hj e => ?_)).mono ?_
    · rw [nats_getD] at e
      have e2 : (s.hs i).getD j 0 = id := by omega
      exact hid (e2 ▸ getD_in hj)
    · rintro e w' ⟨rfl, rfl⟩
      exact ⟨_, rfl, grown_refl _ _, hr, rfl⟩
end
end Go.Proofs.YtmmoolcnpbebhaaDoor
