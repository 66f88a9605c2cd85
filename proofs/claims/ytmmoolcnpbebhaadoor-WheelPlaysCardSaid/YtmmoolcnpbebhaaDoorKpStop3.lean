/- The contract of Stop, where the timer runs. -/
import Derived.Test.YtmmoolcnpbebhaaDoorKpStop2
namespace Go.Proofs.YtmmoolcnpbebhaaDoor
open Go.RowKit Go.Maps
set_option linter.unusedSimpArgs false
set_option linter.unusedVariables false

theorem WS.behind2 {w0 : Rf} {wr w5 : World} {wb mb B nm : Nat} {vs : Nat → Value} {s : Wl.St} {D : DataW Unit} {x : Value} {xl : List Nat} {i : Nat} (h : WS w0 wb mb B wr vs s nm D x xl) (hi : i < 24) (hg : wr.grownBy w5 (vs i).ownBlock) : w5.cell? ⟨wb, 1 + i, none⟩ = some (vs i) ∧ w5.frozen? ⟨wb, 1 + i, none⟩ = false := by
  have b3 := h.b3
  have hlt := (h.rows i hi).lt
  have hob : Obj w5 wb 42 (cellsW s.now vs mb) := h.ob.kept hg (fun e => by have := (hlt wb e.symm).1; omega)
  exact ⟨by rw [hob.cell, cellsW_s _ _ _ hi], hob.free _⟩
theorem form_of {w : World} {B T size n : Nat} {v : Value} {xs : List Value} (h : w.ownsRow B T size v n xs) : ∃ a c, v = .slice a n c := by
  rcases h.2 with ⟨h1, h2⟩ | ⟨g, c, cur, h1, _⟩
  · exact ⟨none, 0, by rw [h1, h2]⟩
  · exact ⟨_, c, h1⟩
theorem idx_agg {arr : Array Value} {k : Nat} {v : Value} (w : World) (hk : k < 8) (h : arr[k]? = some v) : (Instr.index 39 (.agg arr) (.int .i64 (k : Int))).run Tryd.prog w = .ok v w := by
  have hn : (0 : Int) ≤ (k : Int) ∧ (k : Int) < 8 := by omega
  simp [Instr.index, run_underlying Tryd.underlying39, asIntOf, hn, hk, h, go_sem]
set_option maxHeartbeats 16000000 in
set_option maxRecDepth 100000 in
theorem wstop_yes {w0 : Rf} {wr : World} {wb mb B nm : Nat} {vs : Nat → Value} {s : Wl.St} {D : DataW Unit} {x : Value} {xl : List Nat} (id : Nat) (h : WS w0 wb mb B wr vs s nm D x xl) (hok : Wl.Ok s 1 1 1 []) (hd : s.due id ≠ none) :
    Calls Tryd.prog 10 #[.pointer (some ⟨wb, 0, none⟩), .int .i64 id] wr fun e w' => e = .returned .nilIface ∧ ∃ vs' D', WS w0 wb mb B w' vs' (Wl.stop s id) nm D' x xl := by
  have hid : id ≤ 19 := by
    cases e : s.due id with
    | none => exact absurd e hd
    | some a => have := (hok.ids id a e).1; omega
  have h1 := h.alloc (.cells #[.int .i64 (id : Int)] 3 (0, 0))
  have cm := h1.cellM
  obtain ⟨c, hlk⟩ := h1.look (id : Int) (by omega)
  have hn : Maps.has D (ky (id : Int)) = true := by rw [(h.dm.1 id).1]; cases e : s.due id with | none => exact absurd e hd | some _ => rfl
  rw [hn] at hlk
  have hk0 := Obj.new wr [.int .i64 (id : Int)] 3
  have ck := hk0.cell 0
  have S1 := Lib.hid h1
  have K1 := Lib.hid hk0
  obtain ⟨kb, hkb⟩ : ∃ kb, kb = wr.heap.size := ⟨_, rfl⟩
  have N1 : Hid (∀ i, i < 24 → (vs i).ownBlock ≠ some kb) := Lib.hid (fun i hi e => by have := ((h.rows i hi).lt kb e).2; omega)
  have hBk : B ≤ kb := by have := h.b4; omega
  have hwk : wb < kb := by have := h.b3; omega
  have hmk : mb < kb := by have := h.b2; omega
  have HOK := Lib.hid hok
  clear h h1 hn hk0 hd hok
  go_enter Tryd.func10, Tryd.ntmps10
  go_wp2_with fail
  have ck : (wr.alloc (.cells #[.int .i64 (id : Int)] 3 (0, 0))).cell? ⟨wr.heap.size, 0, none⟩ = some (.int .i64 (id : Int)) := ck
  have K1 : Hid (Obj (wr.alloc (.cells #[.int .i64 (id : Int)] 3 (0, 0))) wr.heap.size 3 [.int .i64 (id : Int)]) := K1
  rw [← hkb] at ck K1 ⊢
  generalize wr.alloc (.cells #[.int .i64 (id : Int)] 3 (0, 0)) = w1 at *
  clear hkb
  go_quiet (fail)
  have S2 : Hid (WS w0 wb mb B (w1.drewN nq) vs (Wl.del s id (8 * 0)) nm D x xl) := Lib.hid (by rw [Nat.mul_zero, Wl.del_zero]; exact S1.out.drewN nq)
  have K2 : Hid (Obj (w1.drewN nq) kb 3 [.int .i64 (id : Int)]) := K1.out
  clear hlk cm ck S1 K1
  generalize w1.drewN nq = w2 at *
  go_wp2_with fail
  go_loopw [22] (fun v22 wx => ∃ (L : Nat) (vs' : Nat → Value), (L = 0 ∧ v22 = .int .i64 0 ∨ L = 1 ∧ v22 = .int .i64 1 ∨ L = 2 ∧ v22 = .int .i64 2 ∨ L = 3 ∧ v22 = .int .i64 3) ∧ WS w0 wb mb B wx vs' (Wl.del s id (8 * L)) nm D x xl ∧ Obj wx kb 3 [.int .i64 (id : Int)] ∧ ∀ i, i < 24 → (vs' i).ownBlock ≠ some kb) (fun v22 _ => 3 - (intOf v22).toNat)
  case atStart => exact ⟨0, vs, .inl ⟨rfl, rfl⟩, S2.out, K2.out, N1.out⟩
  case round =>
    clear S2 K2 N1
    obtain ⟨L, vs1, hL, hS, hK, hN⟩ := hrel
    have S0 := Lib.hid hS
    have K0 := Lib.hid hK
    have N0 := Lib.hid hN
    clear hS hK hN
    rcases hL with ⟨rfl, rfl⟩ | ⟨rfl, rfl⟩ | ⟨rfl, rfl⟩ | ⟨rfl, rfl⟩
    · have cc0 : wr.cell? ⟨wb, 1, none⟩ = some (vs1 0) := S0.out.cellS (i := 0) (by omega)
      have cc1 : wr.cell? ⟨wb, 2, none⟩ = some (vs1 1) := S0.out.cellS (i := 1) (by omega)
      have cc2 : wr.cell? ⟨wb, 3, none⟩ = some (vs1 2) := S0.out.cellS (i := 2) (by omega)
      have cc3 : wr.cell? ⟨wb, 4, none⟩ = some (vs1 3) := S0.out.cellS (i := 3) (by omega)
      have cc4 : wr.cell? ⟨wb, 5, none⟩ = some (vs1 4) := S0.out.cellS (i := 4) (by omega)
      have cc5 : wr.cell? ⟨wb, 6, none⟩ = some (vs1 5) := S0.out.cellS (i := 5) (by omega)
      have cc6 : wr.cell? ⟨wb, 7, none⟩ = some (vs1 6) := S0.out.cellS (i := 6) (by omega)
      have cc7 : wr.cell? ⟨wb, 8, none⟩ = some (vs1 7) := S0.out.cellS (i := 7) (by omega)
      go_wp2_with fail
      clear cc0 cc1 cc2 cc3 cc4 cc5 cc6 cc7
      obtain ⟨arr, harr⟩ : ∃ arr : Array Value, arr = #[vs1 0, vs1 1, vs1 2, vs1 3, vs1 4, vs1 5, vs1 6, vs1 7] := ⟨_, rfl⟩
      have HARR : Hid (∀ k, k < 8 → arr[k]? = some (vs1 (k))) := Lib.hid (fun k hk => by
        subst harr
        rcases (by omega : k = 0 ∨ k = 1 ∨ k = 2 ∨ k = 3 ∨ k = 4 ∨ k = 5 ∨ k = 6 ∨ k = 7) with rfl | rfl | rfl | rfl | rfl | rfl | rfl | rfl <;> rfl)
      have hasz : arr.size = 8 := by rw [harr]; rfl
      rw [← harr]
      have HASZ := Lib.hid hasz
      clear harr hasz
      go_loopw [31] (fun v31 wx => ∃ (k : Nat) (vs2 : Nat → Value), k ≤ 8 ∧ v31 = .int .i64 (k : Int) ∧ WS w0 wb mb B wx vs2 (Wl.del s id (k)) nm D x xl ∧ (∀ i, k ≤ i → vs2 i = vs1 i) ∧ Obj wx kb 3 [.int .i64 (id : Int)] ∧ ∀ i, i < 24 → (vs2 i).ownBlock ≠ some kb) (fun v31 _ => 8 - (intOf v31).toNat)
      case atStart => exact ⟨0, vs1, by omega, rfl, S0.out, fun i _ => rfl, K0.out, N0.out⟩
      case round =>
        clear S0 K0 N0
        obtain ⟨k, vs2, hk8, rfl, hS, hE, hK, hN⟩ := hrel
        by_cases hlt : k < 8
        · have hi24 : k < 24 := by omega
          have hak : arr[k]? = some (vs2 (k)) := by rw [HARR.out k hlt, hE (k) (Nat.le_refl _)]
          have hki : (k : Int) < 8 := by omega
          have hix := idx_agg wr hlt hak
          clear hak
          have HD : Hid (Calls Tryd.prog 19 #[vs2 (k), clsV kb] wr.drew fun e w' => ∃ v', e = .returned v' ∧ wr.drew.grownBy w' (vs2 (k)).ownBlock ∧ w'.ownsRow B 3 1 v' ((s.hs (k)).erase id).length (nats ((s.hs (k)).erase id)) ∧ v'.ownBlock = (vs2 (k)).ownBlock) := Lib.hid (by
            have e := Wl.del_at s id (k)
            have Z := wdel hS.drew hi24 id kb (by rw [e]; exact HOK.out.nd _ hi24) (by rw [e]; have := HOK.out.short hi24; omega) (fun y hy => by rw [e] at hy; have := (HOK.out.sits hi24 hy).1; omega) hK (hN _ hi24)
            rw [e] at Z
            exact Z)
          have S := Lib.hid hS
          have HE := Lib.hid hE
          have K0 := Lib.hid hK
          have N0 := Lib.hid hN
          clear hS hE hK hN

          go_wp2_with fail
          clear hix
          go_region_law ((go_simp; go_at_call 19; refine HD.out.mono ?_; rintro e w5 ⟨v', rfl, hg5, ho5, hb5⟩; obtain ⟨va, vc, rfl⟩ := form_of ho5; have G5 := Lib.hid hg5; have O5 := Lib.hid ho5; have B5 := Lib.hid hb5; clear hg5 ho5 hb5; obtain ⟨c5, f5⟩ := S.out.drew.behind2 hi24 G5.out; rw [show 1 + (k) = 1 + k from by omega] at c5 f5))
          all_goals (
            go_wp2_with fail
            have SZ := Lib.hid (S.out.drew.swap hi24 G5.out O5.out B5.out)
            have KZ : Hid (Obj (w5.setCell ⟨wb, 1 + (k), none⟩ (.slice va ((s.hs (k)).erase id).length vc)) kb 3 [.int .i64 (id : Int)]) := Lib.hid ((K0.out.drew.kept G5.out (fun e => N0.out _ hi24 e.symm)).kept (grown_set (grown_refl _ _) _ _) (by simp; omega))
            rw [show 1 + (k) = 1 + k from by omega] at SZ KZ
            go_roundw
            case rel => exact ⟨k + 1, _, by omega, by first | go_num | rfl | simp, (by have Z := SZ.out; rw [show (Wl.del s id (k)).now = s.now from rfl, show (Wl.del s id (k)).due = s.due from rfl, Wl.del_step] at Z; exact Z), fun i hi => by rw [Wl.upd_other (by omega)]; exact HE.out i (by omega), KZ.out, fun i hi => by
              by_cases e : i = k
              · subst e; rw [Wl.upd_same, B5.out]; exact N0.out _ hi
              · rw [Wl.upd_other e]; exact N0.out i hi⟩
            case measure => simp [intOf]; omega)
        · obtain rfl : k = 8 := by omega
          have S := Lib.hid hS
          have K0 := Lib.hid hK
          have N0 := Lib.hid hN
          clear hS hE hK hN
          go_wp2_with fail
          go_roundw
          case rel => exact ⟨1, _, .inr (.inl ⟨rfl, rfl⟩), S.out, K0.out, N0.out⟩
          case measure => decide
    · have cc0 : wr.cell? ⟨wb, 9, none⟩ = some (vs1 8) := S0.out.cellS (i := 8) (by omega)
      have cc1 : wr.cell? ⟨wb, 10, none⟩ = some (vs1 9) := S0.out.cellS (i := 9) (by omega)
      have cc2 : wr.cell? ⟨wb, 11, none⟩ = some (vs1 10) := S0.out.cellS (i := 10) (by omega)
      have cc3 : wr.cell? ⟨wb, 12, none⟩ = some (vs1 11) := S0.out.cellS (i := 11) (by omega)
      have cc4 : wr.cell? ⟨wb, 13, none⟩ = some (vs1 12) := S0.out.cellS (i := 12) (by omega)
      have cc5 : wr.cell? ⟨wb, 14, none⟩ = some (vs1 13) := S0.out.cellS (i := 13) (by omega)
      have cc6 : wr.cell? ⟨wb, 15, none⟩ = some (vs1 14) := S0.out.cellS (i := 14) (by omega)
      have cc7 : wr.cell? ⟨wb, 16, none⟩ = some (vs1 15) := S0.out.cellS (i := 15) (by omega)
      go_wp2_with fail
      clear cc0 cc1 cc2 cc3 cc4 cc5 cc6 cc7
      obtain ⟨arr, harr⟩ : ∃ arr : Array Value, arr = #[vs1 8, vs1 9, vs1 10, vs1 11, vs1 12, vs1 13, vs1 14, vs1 15] := ⟨_, rfl⟩
      have HARR : Hid (∀ k, k < 8 → arr[k]? = some (vs1 (8 + k))) := Lib.hid (fun k hk => by
        subst harr
        rcases (by omega : k = 0 ∨ k = 1 ∨ k = 2 ∨ k = 3 ∨ k = 4 ∨ k = 5 ∨ k = 6 ∨ k = 7) with rfl | rfl | rfl | rfl | rfl | rfl | rfl | rfl <;> rfl)
      have hasz : arr.size = 8 := by rw [harr]; rfl
      rw [← harr]
      have HASZ := Lib.hid hasz
      clear harr hasz
      go_loopw [31] (fun v31 wx => ∃ (k : Nat) (vs2 : Nat → Value), k ≤ 8 ∧ v31 = .int .i64 (k : Int) ∧ WS w0 wb mb B wx vs2 (Wl.del s id (8 + k)) nm D x xl ∧ (∀ i, 8 + k ≤ i → vs2 i = vs1 i) ∧ Obj wx kb 3 [.int .i64 (id : Int)] ∧ ∀ i, i < 24 → (vs2 i).ownBlock ≠ some kb) (fun v31 _ => 8 - (intOf v31).toNat)
      case atStart => exact ⟨0, vs1, by omega, rfl, S0.out, fun i _ => rfl, K0.out, N0.out⟩
      case round =>
        clear S0 K0 N0
        obtain ⟨k, vs2, hk8, rfl, hS, hE, hK, hN⟩ := hrel
        by_cases hlt : k < 8
        · have hi24 : 8 + k < 24 := by omega
          have hak : arr[k]? = some (vs2 (8 + k)) := by rw [HARR.out k hlt, hE (8 + k) (Nat.le_refl _)]
          have hki : (k : Int) < 8 := by omega
          have hix := idx_agg wr hlt hak
          clear hak
          have HD : Hid (Calls Tryd.prog 19 #[vs2 (8 + k), clsV kb] wr.drew fun e w' => ∃ v', e = .returned v' ∧ wr.drew.grownBy w' (vs2 (8 + k)).ownBlock ∧ w'.ownsRow B 3 1 v' ((s.hs (8 + k)).erase id).length (nats ((s.hs (8 + k)).erase id)) ∧ v'.ownBlock = (vs2 (8 + k)).ownBlock) := Lib.hid (by
            have e := Wl.del_at s id (8 + k)
            have Z := wdel hS.drew hi24 id kb (by rw [e]; exact HOK.out.nd _ hi24) (by rw [e]; have := HOK.out.short hi24; omega) (fun y hy => by rw [e] at hy; have := (HOK.out.sits hi24 hy).1; omega) hK (hN _ hi24)
            rw [e] at Z
            exact Z)
          have S := Lib.hid hS
          have HE := Lib.hid hE
          have K0 := Lib.hid hK
          have N0 := Lib.hid hN
          clear hS hE hK hN

          go_wp2_with fail
          clear hix
          go_region_law ((go_simp; go_at_call 19; refine HD.out.mono ?_; rintro e w5 ⟨v', rfl, hg5, ho5, hb5⟩; obtain ⟨va, vc, rfl⟩ := form_of ho5; have G5 := Lib.hid hg5; have O5 := Lib.hid ho5; have B5 := Lib.hid hb5; clear hg5 ho5 hb5; obtain ⟨c5, f5⟩ := S.out.drew.behind2 hi24 G5.out; rw [show 1 + (8 + k) = 9 + k from by omega] at c5 f5))
          all_goals (
            go_wp2_with fail
            have SZ := Lib.hid (S.out.drew.swap hi24 G5.out O5.out B5.out)
            have KZ : Hid (Obj (w5.setCell ⟨wb, 1 + (8 + k), none⟩ (.slice va ((s.hs (8 + k)).erase id).length vc)) kb 3 [.int .i64 (id : Int)]) := Lib.hid ((K0.out.drew.kept G5.out (fun e => N0.out _ hi24 e.symm)).kept (grown_set (grown_refl _ _) _ _) (by simp; omega))
            rw [show 1 + (8 + k) = 9 + k from by omega] at SZ KZ
            go_roundw
            case rel => exact ⟨k + 1, _, by omega, by first | go_num | rfl | simp, (by have Z := SZ.out; rw [show (Wl.del s id (8 + k)).now = s.now from rfl, show (Wl.del s id (8 + k)).due = s.due from rfl, Wl.del_step] at Z; exact Z), fun i hi => by rw [Wl.upd_other (by omega)]; exact HE.out i (by omega), KZ.out, fun i hi => by
              by_cases e : i = 8 + k
              · subst e; rw [Wl.upd_same, B5.out]; exact N0.out _ hi
              · rw [Wl.upd_other e]; exact N0.out i hi⟩
            case measure => simp [intOf]; omega)
        · obtain rfl : k = 8 := by omega
          have S := Lib.hid hS
          have K0 := Lib.hid hK
          have N0 := Lib.hid hN
          clear hS hE hK hN
          go_wp2_with fail
          go_roundw
          case rel => exact ⟨2, _, .inr (.inr (.inl ⟨rfl, rfl⟩)), S.out, K0.out, N0.out⟩
          case measure => decide
    · have cc0 : wr.cell? ⟨wb, 17, none⟩ = some (vs1 16) := S0.out.cellS (i := 16) (by omega)
      have cc1 : wr.cell? ⟨wb, 18, none⟩ = some (vs1 17) := S0.out.cellS (i := 17) (by omega)
      have cc2 : wr.cell? ⟨wb, 19, none⟩ = some (vs1 18) := S0.out.cellS (i := 18) (by omega)
      have cc3 : wr.cell? ⟨wb, 20, none⟩ = some (vs1 19) := S0.out.cellS (i := 19) (by omega)
      have cc4 : wr.cell? ⟨wb, 21, none⟩ = some (vs1 20) := S0.out.cellS (i := 20) (by omega)
      have cc5 : wr.cell? ⟨wb, 22, none⟩ = some (vs1 21) := S0.out.cellS (i := 21) (by omega)
      have cc6 : wr.cell? ⟨wb, 23, none⟩ = some (vs1 22) := S0.out.cellS (i := 22) (by omega)
      have cc7 : wr.cell? ⟨wb, 24, none⟩ = some (vs1 23) := S0.out.cellS (i := 23) (by omega)
      go_wp2_with fail
      clear cc0 cc1 cc2 cc3 cc4 cc5 cc6 cc7
      obtain ⟨arr, harr⟩ : ∃ arr : Array Value, arr = #[vs1 16, vs1 17, vs1 18, vs1 19, vs1 20, vs1 21, vs1 22, vs1 23] := ⟨_, rfl⟩
      have HARR : Hid (∀ k, k < 8 → arr[k]? = some (vs1 (16 + k))) := Lib.hid (fun k hk => by
        subst harr
        rcases (by omega : k = 0 ∨ k = 1 ∨ k = 2 ∨ k = 3 ∨ k = 4 ∨ k = 5 ∨ k = 6 ∨ k = 7) with rfl | rfl | rfl | rfl | rfl | rfl | rfl | rfl <;> rfl)
      have hasz : arr.size = 8 := by rw [harr]; rfl
      rw [← harr]
      have HASZ := Lib.hid hasz
      clear harr hasz
      go_loopw [31] (fun v31 wx => ∃ (k : Nat) (vs2 : Nat → Value), k ≤ 8 ∧ v31 = .int .i64 (k : Int) ∧ WS w0 wb mb B wx vs2 (Wl.del s id (16 + k)) nm D x xl ∧ (∀ i, 16 + k ≤ i → vs2 i = vs1 i) ∧ Obj wx kb 3 [.int .i64 (id : Int)] ∧ ∀ i, i < 24 → (vs2 i).ownBlock ≠ some kb) (fun v31 _ => 8 - (intOf v31).toNat)
      case atStart => exact ⟨0, vs1, by omega, rfl, S0.out, fun i _ => rfl, K0.out, N0.out⟩
      case round =>
        clear S0 K0 N0
        obtain ⟨k, vs2, hk8, rfl, hS, hE, hK, hN⟩ := hrel
        by_cases hlt : k < 8
        · have hi24 : 16 + k < 24 := by omega
          have hak : arr[k]? = some (vs2 (16 + k)) := by rw [HARR.out k hlt, hE (16 + k) (Nat.le_refl _)]
          have hki : (k : Int) < 8 := by omega
          have hix := idx_agg wr hlt hak
          clear hak
          have HD : Hid (Calls Tryd.prog 19 #[vs2 (16 + k), clsV kb] wr.drew fun e w' => ∃ v', e = .returned v' ∧ wr.drew.grownBy w' (vs2 (16 + k)).ownBlock ∧ w'.ownsRow B 3 1 v' ((s.hs (16 + k)).erase id).length (nats ((s.hs (16 + k)).erase id)) ∧ v'.ownBlock = (vs2 (16 + k)).ownBlock) := Lib.hid (by
            have e := Wl.del_at s id (16 + k)
            have Z := wdel hS.drew hi24 id kb (by rw [e]; exact HOK.out.nd _ hi24) (by rw [e]; have := HOK.out.short hi24; omega) (fun y hy => by rw [e] at hy; have := (HOK.out.sits hi24 hy).1; omega) hK (hN _ hi24)
            rw [e] at Z
            exact Z)
          have S := Lib.hid hS
          have HE := Lib.hid hE
          have K0 := Lib.hid hK
          have N0 := Lib.hid hN
          clear hS hE hK hN

          go_wp2_with fail
          clear hix
          go_region_law ((go_simp; go_at_call 19; refine HD.out.mono ?_; rintro e w5 ⟨v', rfl, hg5, ho5, hb5⟩; obtain ⟨va, vc, rfl⟩ := form_of ho5; have G5 := Lib.hid hg5; have O5 := Lib.hid ho5; have B5 := Lib.hid hb5; clear hg5 ho5 hb5; obtain ⟨c5, f5⟩ := S.out.drew.behind2 hi24 G5.out; rw [show 1 + (16 + k) = 17 + k from by omega] at c5 f5))
          all_goals (
            go_wp2_with fail
            have SZ := Lib.hid (S.out.drew.swap hi24 G5.out O5.out B5.out)
            have KZ : Hid (Obj (w5.setCell ⟨wb, 1 + (16 + k), none⟩ (.slice va ((s.hs (16 + k)).erase id).length vc)) kb 3 [.int .i64 (id : Int)]) := Lib.hid ((K0.out.drew.kept G5.out (fun e => N0.out _ hi24 e.symm)).kept (grown_set (grown_refl _ _) _ _) (by simp; omega))
            rw [show 1 + (16 + k) = 17 + k from by omega] at SZ KZ
            go_roundw
            case rel => exact ⟨k + 1, _, by omega, by first | go_num | rfl | simp, (by have Z := SZ.out; rw [show (Wl.del s id (16 + k)).now = s.now from rfl, show (Wl.del s id (16 + k)).due = s.due from rfl, Wl.del_step] at Z; exact Z), fun i hi => by rw [Wl.upd_other (by omega)]; exact HE.out i (by omega), KZ.out, fun i hi => by
              by_cases e : i = 16 + k
              · subst e; rw [Wl.upd_same, B5.out]; exact N0.out _ hi
              · rw [Wl.upd_other e]; exact N0.out i hi⟩
            case measure => simp [intOf]; omega)
        · obtain rfl : k = 8 := by omega
          have S := Lib.hid hS
          have K0 := Lib.hid hK
          have N0 := Lib.hid hN
          clear hS hE hK hN
          go_wp2_with fail
          go_roundw
          case rel => exact ⟨3, _, .inr (.inr (.inr ⟨rfl, rfl⟩)), S.out, K0.out, N0.out⟩
          case measure => decide
    · have cm := S0.out.cellM
      have ck : wr.cell? ⟨kb, 0, none⟩ = some (.int .i64 (id : Int)) := K0.out.cell 0
      have hky : keyOf Tryd.prog 3 (.int .i64 (id : Int)) = some (ky (id : Int)) := ky_of (by omega)
      go_wp2_with fail
      go_still_tail 5, (by kernel_rfl)
      change wpList _ _ _ _ _ wr.drew
      have SD := Lib.hid S0.out.drew
      generalize wr.drew = w3 at *
      clear cm ck S0 K0 N0
      go_wp2_with (first | (at_delete; go_loud (refine wpList_delete_own _ rfl _ _ 38 3 rfl 3 lawK Tryd.underlying38 _ mb nm D rfl SD.out.mp (.int .i64 (id : Int)) (ky (id : Int)) (by simp [Act.eval]) hky ?_)))
      intro w6 hM6 hturn
      have S6 := Lib.hid (SD.out.map hM6 hturn.grown (dm_del SD.out.dm id))
      clear hM6 hturn hky
      go_wp2_with fail
      go_ret
      exact ⟨rfl, vs1, _, S6.out⟩
end Go.Proofs.YtmmoolcnpbebhaaDoor
