/- The contracts of Start and Left. -/
import Derived.Test.YtmmoolcnpbebhaaDoorKpPut
import Derived.StillTail
import Derived.StillTailTactics
namespace Go.Proofs.YtmmoolcnpbebhaaDoor
open Go.RowKit Go.Maps
set_option linter.unusedSimpArgs false
set_option linter.unusedVariables false

theorem wstart_no (p : Option Addr) (id ahead : Int) (w : World) (h : (id < 0 ∨ 19 < id) ∨ ahead < 1 ∨ 400 < ahead) : Calls Tryd.prog 7 #[.pointer p, .int .i64 id, .int .i64 ahead] w fun e w' => e = .returned (errV 1) ∧ w = w' := by
  by_cases h1 : id < 0 ∨ 19 < id
  · clear h
    have H := Lib.hid h1; clear h1
    go_enter Tryd.func7, Tryd.ntmps7
    go_wp2_with fail
    refine (within_out _ _ _ _ H.out).mono ?_
    rintro e w' ⟨rfl, rfl⟩
    go_wp2
    go_ret
    exact ⟨rfl, rfl⟩
  · have n1 : 0 ≤ id := by omega
    have n2 : id ≤ 19 := by omega
    have H : Hid (ahead < 1 ∨ 400 < ahead) := Lib.hid (by omega)
    clear h h1
    go_enter Tryd.func7, Tryd.ntmps7
    go_wp2_with fail
    refine (within_in _ _ _ _ n1 n2).mono ?_
    rintro e w' ⟨rfl, rfl⟩
    go_wp2_with fail
    refine (within_out _ _ _ _ H.out).mono ?_
    rintro e w' ⟨rfl, rfl⟩
    go_wp2
    go_ret
    exact ⟨rfl, rfl⟩

theorem wstart_clash {w0 : Rf} {wr : World} {wb mb B nm : Nat} {vs : Nat → Value} {s : Wl.St} {D : DataW Unit} {x : Value} {xl : List Nat} (id ahead : Nat) (h : WS w0 wb mb B wr vs s nm D x xl) (hid : id ≤ 19) (a1 : 1 ≤ ahead) (a2 : ahead ≤ 400) (hd : s.due id ≠ none) :
    Calls Tryd.prog 7 #[.pointer (some ⟨wb, 0, none⟩), .int .i64 id, .int .i64 ahead] wr fun e w' => e = .returned (errV 6) ∧ wr = w' := by
  have H := Lib.hid h
  have cm := h.cellM
  have hhas : Maps.has D (ky (id : Int)) = true := by rw [(h.dm.1 id).1]; cases hq : s.due id with | none => exact absurd hq hd | some _ => rfl
  have hky : keyOf Tryd.prog 3 (.int .i64 (id : Int)) = some (ky (id : Int)) := ky_of (by omega)
  clear h hd
  go_enter Tryd.func7, Tryd.ntmps7
  go_wp2_with fail
  refine (within_in _ _ _ _ (by omega) (by omega)).mono ?_
  rintro e w' ⟨rfl, rfl⟩
  go_wp2_with fail
  refine (within_in _ _ _ _ (by omega) (by omega)).mono ?_
  rintro e w' ⟨rfl, rfl⟩
  go_wp2_with (first | (at_lookup; go_loud (refine wpList_lookup_own_ok_int _ rfl _ _ 38 rfl 3 3 .i64 lawK Tryd.underlying38 Tryd.underlying3 (zeroK _) mb nm D rfl H.out.mp _ _ rfl hky ?_)))
  intro c hc hwc
  clear hc hwc hky
  go_wp2_with fail
  go_ret
  exact ⟨rfl, rfl⟩

theorem wleft_yes {w0 : Rf} {wr : World} {wb mb B nm : Nat} {vs : Nat → Value} {s : Wl.St} {D : DataW Unit} {x : Value} {xl : List Nat} (id a : Nat) (h : WS w0 wb mb B wr vs s nm D x xl) (hid : id ≤ 1000) (hd : s.due id = some a) (h1 : s.now ≤ a) (h2 : a ≤ s.now + 400) (h3 : s.now ≤ 100000) :
    Calls Tryd.prog 12 #[.pointer (some ⟨wb, 0, none⟩), .int .i64 id] wr fun e w' => e = .returned (.int .i64 ((a : Int) - s.now)) ∧ wr = w' := by
  have H := Lib.hid h
  have cm := h.cellM
  have c0 := h.cell0
  have hhas : Maps.has D (ky (id : Int)) = true := by rw [(h.dm.1 id).1, hd]; rfl
  have HAT := Lib.hid ((h.dm.1 id).2 a hd)
  have hky : keyOf Tryd.prog 3 (.int .i64 (id : Int)) = some (ky (id : Int)) := ky_of (by omega)
  have hwr : IntKind.i64.wrap ((a : Int) - (s.now : Int)) = (a : Int) - (s.now : Int) := IntWalk.i64_in _ (by omega)
  clear h hd
  go_enter Tryd.func12, Tryd.ntmps12
  go_wp2_with (first | (at_lookup; go_loud (refine wpList_lookup_own_ok_int _ rfl _ _ 38 rfl 3 3 .i64 lawK Tryd.underlying38 Tryd.underlying3 (zeroK _) mb nm D rfl H.out.mp _ _ rfl hky ?_)))
  intro c hc hwc
  have hca : c = (a : Int) := by rw [HAT.out] at hc; simpa using hc.symm
  subst hca
  clear hc hwc hky
  go_wp2_with fail
  go_ret
  exact ⟨rfl, rfl⟩

theorem wleft_no {w0 : Rf} {wr : World} {wb mb B nm : Nat} {vs : Nat → Value} {s : Wl.St} {D : DataW Unit} {x : Value} {xl : List Nat} (id : Nat) (h : WS w0 wb mb B wr vs s nm D x xl) (hid : id ≤ 1000) (hd : s.due id = none) :
    Calls Tryd.prog 12 #[.pointer (some ⟨wb, 0, none⟩), .int .i64 id] wr fun e w' => e = .returned (.int .i64 (-1)) ∧ wr = w' := by
  have H := Lib.hid h
  have cm := h.cellM
  have hhas : Maps.has D (ky (id : Int)) = false := by rw [(h.dm.1 id).1, hd]; rfl
  have hky : keyOf Tryd.prog 3 (.int .i64 (id : Int)) = some (ky (id : Int)) := ky_of (by omega)
  clear h hd
  go_enter Tryd.func12, Tryd.ntmps12
  go_wp2_with (first | (at_lookup; go_loud (refine wpList_lookup_own_ok_int _ rfl _ _ 38 rfl 3 3 .i64 lawK Tryd.underlying38 Tryd.underlying3 (zeroK _) mb nm D rfl H.out.mp _ _ rfl hky ?_)))
  intro c hc hwc
  clear hc hwc hky
  go_wp2_with fail
  go_ret
  exact ⟨rfl, rfl⟩

set_option maxHeartbeats 4000000 in
set_option maxRecDepth 100000 in
theorem wstart_yes {w0 : Rf} {wr : World} {wb mb B nm : Nat} {vs : Nat → Value} {s : Wl.St} {D : DataW Unit} {x : Value} {xl : List Nat} (id ahead : Nat) (h : WS w0 wb mb B wr vs s nm D x xl) (hid : id ≤ 19) (a1 : 1 ≤ ahead) (a2 : ahead ≤ 400) (hd : s.due id = none) (h3 : s.now ≤ 100000) (hnm : nm ≤ 100000) (hlen : ∀ i, i < 24 → (s.hs i).length ≤ 1000) :
    Calls Tryd.prog 7 #[.pointer (some ⟨wb, 0, none⟩), .int .i64 id, .int .i64 ahead] wr fun e w' => e = .returned .nilIface ∧ ∃ vs' D', WS w0 wb mb B w' vs' (Wl.start s id ahead) (nm + 1) D' x xl := by
  have H := Lib.hid h
  have HLEN := Lib.hid hlen
  have cm := h.cellM
  have c0 := h.cell0
  have hhas : Maps.has D (ky (id : Int)) = false := by rw [(h.dm.1 id).1, hd]; rfl
  have hky : keyOf Tryd.prog 3 (.int .i64 (id : Int)) = some (ky (id : Int)) := ky_of (by omega)
  clear h hd hlen
  go_enter Tryd.func7, Tryd.ntmps7
  go_wp2_with fail
  refine (within_in _ _ _ _ (by omega) (by omega)).mono ?_
  rintro e w' ⟨rfl, rfl⟩
  go_wp2_with fail
  refine (within_in _ _ _ _ (by omega) (by omega)).mono ?_
  rintro e w' ⟨rfl, rfl⟩
  go_wp2_with (first | (at_lookup; go_loud (refine wpList_lookup_own_ok_int _ rfl _ _ 38 rfl 3 3 .i64 lawK Tryd.underlying38 Tryd.underlying3 (zeroK _) mb nm D rfl H.out.mp _ _ rfl hky ?_)))
  intro c hc hwc
  clear hc hwc
  have hwrp : IntKind.i64.wrap ((s.now : Int) + (ahead : Int)) = (s.now : Int) + (ahead : Int) := IntWalk.i64_in _ (by omega)
  go_wp2_with fail
  go_still_tail 11, (by kernel_rfl)
  change wpList _ _ _ _ _ wr.drew
  have hsum : (s.now : Int) + (ahead : Int) = ((s.now + ahead : Nat) : Int) := by omega
  rw [hsum]
  have HD := Lib.hid H.out.drew
  generalize wr.drew = w3 at *
  clear cm c0 hwrp hsum hhas
  go_wp2_with (first | (at_mapUpdate; go_loud (refine wpList_mapUpdate_own _ rfl _ _ _ 38 rfl 3 3 lawK Tryd.underlying38 _ mb nm D rfl HD.out.mp (by unfold maxLen; omega) _ _ _ rfl rfl hky (.lit (.int .i64 ((s.now + ahead : Nat) : Int))) [] (plainElem_int Tryd.underlying3 (WalkArith.wf_i64 (by omega))) ?_)))
  intro w6 hM6 hg6
  have S6 := Lib.hid (HD.out.map hM6 hg6 (dm_put HD.out.dm HD.out.mp.isMap id (s.now + ahead)))
  clear hM6 hg6 hky
  go_wp2_with fail
  refine (wput id (s.now + ahead) S6.out (Wl.upd_same _ _ _) (by simp) (by simp; omega) h3 (by omega) HLEN.out).mono ?_
  rintro e w7 ⟨rfl, vs', h7⟩
  have S7 := Lib.hid h7
  clear h7
  go_wp2_with fail
  go_ret
  exact ⟨rfl, vs', _, S7.out⟩
end Go.Proofs.YtmmoolcnpbebhaaDoor
