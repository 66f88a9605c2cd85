/- The contracts of wheel.New and of put. -/
import Derived.Test.YtmmoolcnpbebhaaDoorKpW
namespace Go.Proofs.YtmmoolcnpbebhaaDoor
open Go.RowKit Go.Maps
set_option linter.unusedSimpArgs false
set_option linter.unusedVariables false

theorem wnew_any (r : Rf) : Calls Tryd.prog 6 #[] r.w fun e w' => e = .returned (.pointer (some ⟨r.w.heap.size + 1, 0, none⟩)) ∧ WS r (r.w.heap.size + 1) r.w.heap.size (r.w.heap.size + 2) w' (fun _ => .slice none 0 0) Wl.new 0 (.map []) (.slice none 0 0) [] := by
  have n1 : ¬ r.K (r.w.heap.size + 1) := fun h => by have := r.lt _ h; omega
  have n2 : ¬ r.K r.w.heap.size := fun h => by have := r.lt _ h; omega
  have hkp := Kp.refl r
  obtain ⟨w, hw⟩ : ∃ w, w = r.w := ⟨_, rfl⟩
  rw [← hw] at n1 n2 hkp ⊢
  have N1 := Lib.hid n1
  have N2 := Lib.hid n2
  have HKP := Lib.hid hkp
  clear n1 n2 hkp hw
  have hmm := @run_makeMap Tryd.prog
  go_enter Tryd.func6, Tryd.ntmps6
  go_wp2
  go_ret
  refine ⟨rfl, N1.out, N2.out, by omega, by omega, by simp, ?_, fun i hi => World.ownsRow_nil _ _ _ _, fun i j _ _ _ g e => by simp [Value.ownBlock] at e, World.ownsRow_nil _ _ _ _, fun i _ g e => by simp [Value.ownBlock] at e, (World.ownsMap_made w Tryd.prog _ _).alloc _, dm_empty, fun i _ g e => by simp [Value.ownBlock] at e, fun g e => by simp [Value.ownBlock] at e, (HKP.out.grown (World.grownBy_alloc _ _ none) (fun _ e => by simp at e)).grown (World.grownBy_alloc _ _ none) (fun _ e => by simp at e)⟩
  have := Obj.new (w.alloc (.map #[] 0)) (cellsW 0 (fun _ => .slice none 0 0) w.heap.size) 42
  rw [show (w.alloc (.map #[] 0)).heap.size = w.heap.size + 1 from by simp] at this
  exact this
theorem WS.behind {w0 : Rf} {wr w5 : World} {wb mb B nm : Nat} {vs : Nat → Value} {s : Wl.St} {D : DataW Unit} {x : Value} {xl : List Nat} {o : Go.Obj} {i : Nat} (h : WS w0 wb mb B wr vs s nm D x xl) (hi : i < 24) (hg : (wr.alloc o).grownBy w5 (vs i).ownBlock) : w5.cell? ⟨wb, 1 + i, none⟩ = some (vs i) ∧ w5.frozen? ⟨wb, 1 + i, none⟩ = false := by
  have h := h.alloc o
  have b3 := h.b3
  have hlt := (h.rows i hi).lt
  have hob : Obj w5 wb 42 (cellsW s.now vs mb) := h.ob.kept hg (fun e => by have := (hlt wb e.symm).1; omega)
  exact ⟨by rw [hob.cell, cellsW_s _ _ _ hi], hob.free _⟩
theorem span0 (w : World) : Calls Tryd.prog 17 #[.int .i64 0] w fun e w' => e = .returned (.int .i64 1) ∧ w = w' := span_is 0 w (by decide)
theorem span1 (w : World) : Calls Tryd.prog 17 #[.int .i64 1] w fun e w' => e = .returned (.int .i64 8) ∧ w = w' := span_is 1 w (by decide)
theorem span2 (w : World) : Calls Tryd.prog 17 #[.int .i64 2] w fun e w' => e = .returned (.int .i64 64) ∧ w = w' := span_is 2 w (by decide)

set_option maxHeartbeats 8000000 in
set_option maxRecDepth 100000 in
theorem wput {w0 : Rf} {wr : World} {wb mb B nm : Nat} {vs : Nat → Value} {s : Wl.St} {D : DataW Unit} {x : Value} {xl : List Nat} (id a : Nat) (h : WS w0 wb mb B wr vs s nm D x xl) (ha : s.due id = some a) (h1 : s.now ≤ a) (h2 : a ≤ s.now + 400) (h3 : s.now ≤ 100000) (hid : id ≤ 1000) (hlen : ∀ i, i < 24 → (s.hs i).length ≤ 1000) :
    Calls Tryd.prog 16 #[.pointer (some ⟨wb, 0, none⟩), .int .i64 id] wr fun e w' => e = .returned (.tuple #[]) ∧ ∃ vs', WS w0 wb mb B w' vs' (Wl.put s id) nm D x xl := by
  obtain ⟨i0, hi, hz0, hz1, hz2⟩ := info_parts infoW
  have hp : Wl.put s id = ⟨s.now, s.due, Wl.upd s.hs (Wl.place s.now a) (s.hs (Wl.place s.now a) ++ [id])⟩ := by
    unfold Wl.put; rw [ha]; rfl
  have HP := Lib.hid hp; clear hp
  have H := Lib.hid h
  have c0 := h.cell0
  have cm := h.cellM
  have hat := (h.dm.1 id).2 a ha
  have HAT := Lib.hid hat; clear hat
  have hky : keyOf Tryd.prog 3 (.int .i64 (id : Int)) = some (ky (id : Int)) := ky_of (by omega)
  clear h ha
  obtain ⟨n, hn⟩ : ∃ n, s.now = n := ⟨_, rfl⟩
  rw [hn] at h1 h2 h3 c0 HP
  have HN := Lib.hid hn
  clear hn
  by_cases q0 : a - n < 8
  · have HPL := Lib.hid (Wl.place0 q0)
    go_enter Tryd.func16, Tryd.ntmps16
    go_wp2_with (first | (at_lookup; go_loud (refine wpList_lookup_own_int _ rfl _ _ 38 rfl 3 3 .i64 lawK Tryd.underlying38 Tryd.underlying3 (zeroK _) mb nm D rfl H.out.mp _ _ rfl hky ?_)))
    intro c hc hwc
    have hca : c = (a : Int) := by rw [HAT.out] at hc; simpa using hc.symm
    subst hca
    clear hc hwc
    have p1 : IntKind.i64.wrap ((a : Int) - (n : Int)) = (a : Int) - (n : Int) := IntWalk.i64_in _ (by omega)
    have p2 : IntKind.i64.wrap ((a : Int) / 8 - (n : Int) / 8) = (a : Int) / 8 - (n : Int) / 8 := IntWalk.i64_in _ (by omega)
    have g0 : decide ((8 : Int) ≤ (a : Int) - (n : Int)) = false := by simp; omega
    go_wp2_with fail
    refine wp_loop_rounds 1 ?_
    rw [rounds_succ]
    go_wp2_with fail
    go_quiet ((first | (go_at_call 17; exact Calls.quiet_of_same ((span0 _).mono fun _ _ h => ⟨h.1, h.2.symm⟩))))
    have H1 := Lib.hid (H.out.drewN nq)
    clear c0
    generalize wr.drewN nq = wr1 at *
    have c0 := H1.out.cell0
    rw [HN.out] at c0
    go_wp2_with fail
    refine (span0 _).mono ?_
    rintro e w' ⟨rfl, rfl⟩
    go_wp2_with fail
    obtain ⟨sl, hsl⟩ : ∃ sl : Nat, a / 1 % 8 = sl := ⟨_, rfl⟩
    have hs8 : sl < 8 := by omega
    have hsi : (sl : Int) < 8 := by omega
    have hi24 : sl < 24 := by omega
    have hm8 : ((a : Int) % 8) = (sl : Int) := by omega
    rw [hm8]
    have HPL2 : Hid (Wl.place n a = sl) := Lib.hid (by rw [HPL.out]; omega)
    clear hm8 hsl HPL
    have HLEN : Hid ((s.hs (sl)).length ≤ 1000) := Lib.hid (hlen _ hi24)
    clear hlen
    have eix : 1 + (sl) = 1 + sl := by omega
    have cS := H1.out.cellS hi24
    have fS := H1.out.free (1 + (sl))
    have cA := (H1.out.alloc (.cells #[.int .i64 id] 3 (0, 0))).cellS hi24
    rw [eix] at cS fS cA
    go_region_law ((refine step_append_lies _ (by rfl) _ _ _ (by rfl) B 3 i0 (.int .i64 0) 1 8 Tryd.underlying29 hi hz0 hz1 hz2 (by rfl) (by decide) _ _ _ (by rfl) ((H1.out.drew.alloc _).rows _ hi24) ⟨wr1.heap.size, 0, none⟩ 1 1 [.int .i64 id] (by rfl) (by rfl) (cell_one_new wr1.drew _ _) (by intro u hu; simp at hu; subst hu; rfl) (by decide) (by unfold maxLen; have := HLEN.out; omega) (by have := HLEN.out; omega) (by have := H1.out.b4; simp; omega) (wr1.heap.size + 1) (by simp) ?_; intro g c w5 hown hgrow hat hlt; have HW := Lib.hid hown; have HG := Lib.hid hgrow; have HA := Lib.hid hat; clear hown hgrow hat; obtain ⟨c5, f5⟩ := H1.out.drew.behind hi24 HG.out; rw [eix] at c5 f5))
    all_goals (go_wp2_with fail; go_end0; have Z := H1.out.drew.putIn hi24 id HW.out HG.out HA.out; rw [show 1 + (sl) = 1 + sl from by omega, HN.out] at Z; exact ⟨rfl, _, by rw [HP.out, HPL2.out]; exact Z⟩)
  · by_cases q1 : a / 8 - n / 8 < 8
    · have HPL := Lib.hid (Wl.place1 q0 q1)
      go_enter Tryd.func16, Tryd.ntmps16
      go_wp2_with (first | (at_lookup; go_loud (refine wpList_lookup_own_int _ rfl _ _ 38 rfl 3 3 .i64 lawK Tryd.underlying38 Tryd.underlying3 (zeroK _) mb nm D rfl H.out.mp _ _ rfl hky ?_)))
      intro c hc hwc
      have hca : c = (a : Int) := by rw [HAT.out] at hc; simpa using hc.symm
      subst hca
      clear hc hwc
      have p1 : IntKind.i64.wrap ((a : Int) - (n : Int)) = (a : Int) - (n : Int) := IntWalk.i64_in _ (by omega)
      have p2 : IntKind.i64.wrap ((a : Int) / 8 - (n : Int) / 8) = (a : Int) / 8 - (n : Int) / 8 := IntWalk.i64_in _ (by omega)
      have g0 : decide ((8 : Int) ≤ (a : Int) - (n : Int)) = true := by simp; omega
      have g1 : decide ((8 : Int) ≤ (a : Int) / 8 - (n : Int) / 8) = false := by simp; omega
      go_wp2_with fail
      refine wp_loop_rounds 2 ?_
      rw [rounds_succ]
      go_wp2_with fail
      go_quiet ((first | (go_at_call 17; exact Calls.quiet_of_same ((span0 _).mono fun _ _ h => ⟨h.1, h.2.symm⟩))))
      have H1 := Lib.hid (H.out.drewN nq)
      clear c0
      generalize wr.drewN nq = wr1 at *
      have c0 := H1.out.cell0
      rw [HN.out] at c0
      go_wp2_with fail
      rw [rounds_succ]
      go_wp2_with fail
      go_quiet ((first | (go_at_call 17; exact Calls.quiet_of_same ((span1 _).mono fun _ _ h => ⟨h.1, h.2.symm⟩))))
      have H2 := Lib.hid (H1.out.drewN nq)
      clear c0
      generalize wr1.drewN nq = wr2 at *
      have c0 := H2.out.cell0
      rw [HN.out] at c0
      go_wp2_with fail
      refine (span1 _).mono ?_
      rintro e w' ⟨rfl, rfl⟩
      go_wp2_with fail
      obtain ⟨sl, hsl⟩ : ∃ sl : Nat, a / 8 % 8 = sl := ⟨_, rfl⟩
      have hs8 : sl < 8 := by omega
      have hsi : (sl : Int) < 8 := by omega
      have hi24 : 8 + sl < 24 := by omega
      have hm8 : ((a : Int) / 8 % 8) = (sl : Int) := by omega
      rw [hm8]
      have HPL2 : Hid (Wl.place n a = 8 + sl) := Lib.hid (by rw [HPL.out]; omega)
      clear hm8 hsl HPL
      have HLEN : Hid ((s.hs (8 + sl)).length ≤ 1000) := Lib.hid (hlen _ hi24)
      clear hlen
      have eix : 1 + (8 + sl) = 9 + sl := by omega
      have cS := H2.out.cellS hi24
      have fS := H2.out.free (1 + (8 + sl))
      have cA := (H2.out.alloc (.cells #[.int .i64 id] 3 (0, 0))).cellS hi24
      rw [eix] at cS fS cA
      go_region_law ((refine step_append_lies _ (by rfl) _ _ _ (by rfl) B 3 i0 (.int .i64 0) 1 8 Tryd.underlying29 hi hz0 hz1 hz2 (by rfl) (by decide) _ _ _ (by rfl) ((H2.out.drew.alloc _).rows _ hi24) ⟨wr2.heap.size, 0, none⟩ 1 1 [.int .i64 id] (by rfl) (by rfl) (cell_one_new wr2.drew _ _) (by intro u hu; simp at hu; subst hu; rfl) (by decide) (by unfold maxLen; have := HLEN.out; omega) (by have := HLEN.out; omega) (by have := H2.out.b4; simp; omega) (wr2.heap.size + 1) (by simp) ?_; intro g c w5 hown hgrow hat hlt; have HW := Lib.hid hown; have HG := Lib.hid hgrow; have HA := Lib.hid hat; clear hown hgrow hat; obtain ⟨c5, f5⟩ := H2.out.drew.behind hi24 HG.out; rw [eix] at c5 f5))
      all_goals (go_wp2_with fail; go_end0; have Z := H2.out.drew.putIn hi24 id HW.out HG.out HA.out; rw [show 1 + (8 + sl) = 9 + sl from by omega, HN.out] at Z; exact ⟨rfl, _, by rw [HP.out, HPL2.out]; exact Z⟩)
    · have HPL := Lib.hid (Wl.place2 q0 q1)
      go_enter Tryd.func16, Tryd.ntmps16
      go_wp2_with (first | (at_lookup; go_loud (refine wpList_lookup_own_int _ rfl _ _ 38 rfl 3 3 .i64 lawK Tryd.underlying38 Tryd.underlying3 (zeroK _) mb nm D rfl H.out.mp _ _ rfl hky ?_)))
      intro c hc hwc
      have hca : c = (a : Int) := by rw [HAT.out] at hc; simpa using hc.symm
      subst hca
      clear hc hwc
      have p1 : IntKind.i64.wrap ((a : Int) - (n : Int)) = (a : Int) - (n : Int) := IntWalk.i64_in _ (by omega)
      have p2 : IntKind.i64.wrap ((a : Int) / 8 - (n : Int) / 8) = (a : Int) / 8 - (n : Int) / 8 := IntWalk.i64_in _ (by omega)
      have g0 : decide ((8 : Int) ≤ (a : Int) - (n : Int)) = true := by simp; omega
      have g1 : decide ((8 : Int) ≤ (a : Int) / 8 - (n : Int) / 8) = true := by simp; omega
      go_wp2_with fail
      refine wp_loop_rounds 3 ?_
      rw [rounds_succ]
      go_wp2_with fail
      go_quiet ((first | (go_at_call 17; exact Calls.quiet_of_same ((span0 _).mono fun _ _ h => ⟨h.1, h.2.symm⟩))))
      have H1 := Lib.hid (H.out.drewN nq)
      clear c0
      generalize wr.drewN nq = wr1 at *
      have c0 := H1.out.cell0
      rw [HN.out] at c0
      go_wp2_with fail
      rw [rounds_succ]
      go_wp2_with fail
      go_quiet ((first | (go_at_call 17; exact Calls.quiet_of_same ((span1 _).mono fun _ _ h => ⟨h.1, h.2.symm⟩))))
      have H2 := Lib.hid (H1.out.drewN nq)
      clear c0
      generalize wr1.drewN nq = wr2 at *
      have c0 := H2.out.cell0
      rw [HN.out] at c0
      go_wp2_with fail
      rw [rounds_succ]
      go_wp2_with fail
      go_quiet (fail)
      have H3 := Lib.hid (H2.out.drewN nq)
      clear c0
      generalize wr2.drewN nq = wr3 at *
      have c0 := H3.out.cell0
      rw [HN.out] at c0
      go_wp2_with fail
      refine (span2 _).mono ?_
      rintro e w' ⟨rfl, rfl⟩
      go_wp2_with fail
      obtain ⟨sl, hsl⟩ : ∃ sl : Nat, a / 64 % 8 = sl := ⟨_, rfl⟩
      have hs8 : sl < 8 := by omega
      have hsi : (sl : Int) < 8 := by omega
      have hi24 : 16 + sl < 24 := by omega
      have hm8 : ((a : Int) / 64 % 8) = (sl : Int) := by omega
      rw [hm8]
      have HPL2 : Hid (Wl.place n a = 16 + sl) := Lib.hid (by rw [HPL.out]; omega)
      clear hm8 hsl HPL
      have HLEN : Hid ((s.hs (16 + sl)).length ≤ 1000) := Lib.hid (hlen _ hi24)
      clear hlen
      have eix : 1 + (16 + sl) = 17 + sl := by omega
      have cS := H3.out.cellS hi24
      have fS := H3.out.free (1 + (16 + sl))
      have cA := (H3.out.alloc (.cells #[.int .i64 id] 3 (0, 0))).cellS hi24
      rw [eix] at cS fS cA
      go_region_law ((refine step_append_lies _ (by rfl) _ _ _ (by rfl) B 3 i0 (.int .i64 0) 1 8 Tryd.underlying29 hi hz0 hz1 hz2 (by rfl) (by decide) _ _ _ (by rfl) ((H3.out.drew.alloc _).rows _ hi24) ⟨wr3.heap.size, 0, none⟩ 1 1 [.int .i64 id] (by rfl) (by rfl) (cell_one_new wr3.drew _ _) (by intro u hu; simp at hu; subst hu; rfl) (by decide) (by unfold maxLen; have := HLEN.out; omega) (by have := HLEN.out; omega) (by have := H3.out.b4; simp; omega) (wr3.heap.size + 1) (by simp) ?_; intro g c w5 hown hgrow hat hlt; have HW := Lib.hid hown; have HG := Lib.hid hgrow; have HA := Lib.hid hat; clear hown hgrow hat; obtain ⟨c5, f5⟩ := H3.out.drew.behind hi24 HG.out; rw [eix] at c5 f5))
      all_goals (go_wp2_with fail; go_end0; have Z := H3.out.drew.putIn hi24 id HW.out HG.out HA.out; rw [show 1 + (16 + sl) = 17 + sl from by omega, HN.out] at Z; exact ⟨rfl, _, by rw [HP.out, HPL2.out]; exact Z⟩)
end Go.Proofs.YtmmoolcnpbebhaaDoor
