/- The contract of Stop: slices.DeleteFunc at one timer. -/
import Derived.Test.YtmmoolcnpbebhaaDoorKpD
import Derived.Lib.SliceRun
import Derived.BigQuiet
import Derived.Deep.QuietTactic
import Derived.Deep.RegionLaw
namespace Go.Proofs.YtmmoolcnpbebhaaDoor
open Go.RowKit Go.Maps
set_option linter.unusedSimpArgs false
set_option linter.unusedVariables false

theorem cls_any (x id : Int) (kb : Nat) (w : World) (hc : w.cell? ⟨kb, 0, none⟩ = some (.int .i64 id)) : Calls Tryd.prog 20 #[.int .i64 x, .pointer (some ⟨kb, 0, none⟩)] w fun e w' => e = .returned (.bool (x == id)) ∧ w = w' := by
  go_enter Tryd.func20, Tryd.ntmps20
  go_wp2_with fail
  go_ret
  exact ⟨rfl, rfl⟩
abbrev clsV (kb : Nat) : Value := .func (.func 20) #[] #[.pointer (some ⟨kb, 0, none⟩)]

theorem idxf_no (a : Option Addr) (len cap : Nat) (zs : List Int) (id : Int) (kb B : Nat) (w : World) (hI : Ints w B a len zs) (hc : w.cell? ⟨kb, 0, none⟩ = some (.int .i64 id)) (hn : ∀ j, j < len → zs.getD j 0 ≠ id) :
    Calls Tryd.prog 24 #[.slice a len cap, clsV kb] w fun e w' => e = .returned (.int .i64 (-1)) ∧ w = w' := by
  have hroom := hI.room
  have HI := Lib.hid hI; clear hI
  have HN := Lib.hid hn; clear hn
  have HC := Lib.hid hc; clear hc
  go_enter Tryd.func24, Tryd.ntmps24
  go_wp2_with fail
  go_loop [8] (fun v => ∃ k : Nat, k ≤ len ∧ v = .int .i64 k) (fun v => len - (intOf v).toNat)
  case atStart => exact ⟨0, by omega, rfl⟩
  case round =>
    obtain ⟨k, hk, rfl⟩ := hrel
    by_cases hlt : k < len
    · obtain ⟨b, off, rfl, hb, hc⟩ := HI.out.cell k hlt
      have hz := HN.out k hlt
      have HZ : Hid ((zs.getD k 0 == id) = false) := Lib.hid (by rw [beq_eq_false_iff_ne]; exact hz)
      clear hz
      generalize zs.getD k 0 = n at hc HZ
      go_wp2_with fail
      refine (cls_any n id kb _ HC.out).mono ?_
      rintro e w' ⟨rfl, rfl⟩
      rw [HZ.out]
      go_wp2_with fail
      go_round
      case rel => exact ⟨k + 1, by omega, by go_num⟩
      case measure => simp [intOf]; omega
    · go_wp2
      go_ret
      exact ⟨rfl, rfl⟩

theorem idxf_yes (a : Option Addr) (len cap : Nat) (zs : List Int) (id : Int) (kb B p : Nat) (w : World) (hI : Ints w B a len zs) (hc : w.cell? ⟨kb, 0, none⟩ = some (.int .i64 id)) (hp : p < len) (he : zs.getD p 0 = id) (hn : ∀ j, j < p → zs.getD j 0 ≠ id) :
    Calls Tryd.prog 24 #[.slice a len cap, clsV kb] w fun e w' => e = .returned (.int .i64 p) ∧ w = w' := by
  have hroom := hI.room
  have HI := Lib.hid hI; clear hI
  have HN := Lib.hid hn; clear hn
  have HE := Lib.hid he; clear he
  have HC := Lib.hid hc; clear hc
  go_enter Tryd.func24, Tryd.ntmps24
  go_wp2_with fail
  go_loop [8] (fun v => ∃ k : Nat, k ≤ p ∧ v = .int .i64 k) (fun v => len - (intOf v).toNat)
  case atStart => exact ⟨0, by omega, rfl⟩
  case round =>
    obtain ⟨k, hk, rfl⟩ := hrel
    have hlt : k < len := by omega
    obtain ⟨b, off, rfl, hb, hc⟩ := HI.out.cell k hlt
    by_cases hkp : k < p
    · have hz := HN.out k hkp
      have HZ : Hid ((zs.getD k 0 == id) = false) := Lib.hid (by rw [beq_eq_false_iff_ne]; exact hz)
      clear hz
      generalize zs.getD k 0 = n at hc HZ
      go_wp2_with fail
      refine (cls_any n id kb _ HC.out).mono ?_
      rintro e w' ⟨rfl, rfl⟩
      rw [HZ.out]
      go_wp2_with fail
      go_round
      case rel => exact ⟨k + 1, by omega, by go_num⟩
      case measure => simp [intOf]; omega
    · obtain rfl : k = p := by omega
      rw [HE.out] at hc
      go_wp2_with fail
      refine (cls_any id id kb _ HC.out).mono ?_
      rintro e w' ⟨rfl, rfl⟩
      have hbb : (id == id) = true := by simp
      rw [hbb]
      go_wp2_with fail
      go_ret
      exact ⟨rfl, rfl⟩

theorem delf_no (a : Option Addr) (len cap : Nat) (zs : List Int) (id : Int) (kb B : Nat) (w : World) (hI : Ints w B a len zs) (hc : w.cell? ⟨kb, 0, none⟩ = some (.int .i64 id)) (hn : ∀ j, j < len → zs.getD j 0 ≠ id) :
    Calls Tryd.prog 19 #[.slice a len cap, clsV kb] w fun e w' => e = .returned (.slice a len cap) ∧ w = w' := by
  have HX := Lib.hid (idxf_no a len cap zs id kb B w hI hc hn)
  clear hI hc hn
  go_enter Tryd.func19, Tryd.ntmps19
  go_wp2_with fail
  refine HX.out.mono ?_
  rintro e w' ⟨rfl, rfl⟩
  go_wp2_with fail
  go_ret
  exact ⟨rfl, rfl⟩

theorem own_set {w : World} {B T g n c : Nat} {xs : List Value} (h : w.ownsRow B T 1 (.slice (some ⟨g, 0, none⟩) n c) n xs) (j : Nat) (u : Value) : (w.setCell ⟨g, j, none⟩ u).ownsRow B T 1 (.slice (some ⟨g, 0, none⟩) n c) n (xs.set j u) := by
  refine ⟨by rw [List.length_set]; exact h.1, .inr ?_⟩
  rcases h.2 with ⟨h', _⟩ | ⟨g', cap', cur, h', hb, hg, hc, hm, hs, htake⟩
  · simp at h'
  · simp only [Value.slice.injEq, Option.some.injEq, Addr.mk.injEq, and_true, true_and] at h'
    obtain ⟨rfl, rfl⟩ := h'
    exact ⟨g, c, cur.setIfInBounds j u, rfl, hb, heap_setCell_same w g j cur T u hg, hc, hm, by rw [Array.size_setIfInBounds]; exact hs, by rw [Array.toList_setIfInBounds, List.take_set, htake]⟩
theorem own_cut {w : World} {B T g n c m : Nat} {xs : List Value} (h : w.ownsRow B T 1 (.slice (some ⟨g, 0, none⟩) n c) n xs) (hm : m ≤ n) : w.ownsRow B T 1 (.slice (some ⟨g, 0, none⟩) m c) m (xs.take m) := by
  have hl := h.1
  refine ⟨by rw [List.length_take]; omega, .inr ?_⟩
  rcases h.2 with ⟨h', _⟩ | ⟨g', cap', cur, h', hb, hg, hc, hx, hs, htake⟩
  · simp at h'
  · simp only [Value.slice.injEq, Option.some.injEq, Addr.mk.injEq, and_true, true_and] at h'
    obtain ⟨rfl, rfl⟩ := h'
    exact ⟨g, c, cur, rfl, hb, hg, by omega, hx, hs, by rw [← htake, List.take_take]; congr 1; omega⟩
theorem own_cap {w : World} {B T g n c : Nat} {xs : List Value} (h : w.ownsRow B T 1 (.slice (some ⟨g, 0, none⟩) n c) n xs) : n ≤ c := by
  rcases h.2 with ⟨h', _⟩ | ⟨g', cap', cur, h', hb, hg, hc, hx, hs, htake⟩
  · simp at h'
  · simp only [Value.slice.injEq, Option.some.injEq, Addr.mk.injEq, and_true, true_and] at h'
    omega
theorem nats_getD {l : List Nat} {k : Nat} : (l.map fun i : Nat => (i : Int)).getD k 0 = ((l.getD k 0 : Nat) : Int) := by
  simp only [List.getD_eq_getElem?_getD, List.getElem?_map]
  cases l[k]? <;> rfl
theorem getD_in {l : List Nat} {k : Nat} (h : k < l.length) : l.getD k 0 ∈ l := by
  simp [List.getD_eq_getElem?_getD, h]

set_option maxHeartbeats 4000000 in
theorem delf_yes (pre rest : List Nat) (id n c g kb B : Nat) (w : World) (hn : n = (pre ++ id :: rest).length) (h : w.ownsRow B 3 1 (.slice (some ⟨g, 0, none⟩) n c) n (nats (pre ++ id :: rest))) (h1 : id ∉ pre) (h2 : id ∉ rest) (hl : n ≤ 1000) (hm : ∀ x ∈ pre ++ id :: rest, x ≤ 1000) (hk : Obj w kb 3 [.int .i64 (id : Int)]) (hne : kb ≠ g) :
    Calls Tryd.prog 19 #[.slice (some ⟨g, 0, none⟩) n c, clsV kb] w fun e w' => e = .returned (.slice (some ⟨g, 0, none⟩) (pre ++ rest).length c) ∧ w'.ownsRow B 3 1 (.slice (some ⟨g, 0, none⟩) (pre ++ rest).length c) (pre ++ rest).length (nats (pre ++ rest)) ∧ w.grownBy w' (some g) := by
  have HX : Hid (Calls Tryd.prog 24 #[.slice (some ⟨g, 0, none⟩) n c, clsV kb] w fun e w' => e = .returned (.int .i64 (pre.length : Int)) ∧ w = w') := Lib.hid (by
    have hI : Ints w w.heap.size (some ⟨g, 0, none⟩) n ((pre ++ id :: rest).map fun i : Nat => (i : Int)) := by
      rw [hn] at h ⊢
      exact nats_ints h (by omega) (fun x hx => by have := hm x hx; omega)
    refine idxf_yes _ n c _ (id : Int) kb _ pre.length w hI (hk.cell 0) (by rw [hn]; simp) ?_ (fun j hj => ?_)
    · rw [nats_getD]; simp [List.getD_eq_getElem?_getD]
    · rw [nats_getD]
      intro e
      have e2 : (pre ++ id :: rest).getD j 0 = id := by omega
      have e3 : (pre ++ id :: rest).getD j 0 = pre.getD j 0 := by
        simp only [List.getD_eq_getElem?_getD]; rw [List.getElem?_append_left hj]
      rw [e3] at e2
      exact h1 (e2 ▸ getD_in hj))
  have hn2 : n ≤ pre.length + rest.length + 1 ∧ pre.length + rest.length + 1 ≤ n := by rw [hn]; simp; omega
  obtain ⟨hn2, hn3⟩ := hn2
  have H := Lib.hid h
  have HK := Lib.hid hk
  have HPR : Hid (∀ x ∈ pre ++ rest, x ≠ id) := Lib.hid (fun x hx e => by
    subst e
    rcases List.mem_append.1 hx with h | h
    · exact h1 h
    · exact h2 h)
  clear hn h h1 h2 hm hk
  go_enter Tryd.func19, Tryd.ntmps19
  go_wp2_with fail
  refine HX.out.mono ?_
  rintro e w' ⟨rfl, rfl⟩
  have hne1 : ((pre.length : Int) == -1) = false := beq_eq_false_iff_ne.2 (by omega)
  go_wp2_with fail
  clear hne1
  go_loopw [5, 6] (fun v5 v6 wx => ∃ (q r : List Nat) (y : Nat), q ++ r = pre ++ rest ∧ v5 = .int .i64 (q.length : Int) ∧ v6 = .int .i64 ((q.length : Int) + 1) ∧ wx.ownsRow B 3 1 (.slice (some ⟨g, 0, none⟩) n c) n (nats (q ++ y :: r)) ∧ w.grownBy wx (some g)) (fun v5 _ _ => n - (intOf v5).toNat)
  case atStart => exact ⟨pre, rest, id, rfl, rfl, rfl, H.out, grown_refl _ _⟩
  case round =>
    obtain ⟨q, r, y, hqr, rfl, rfl, hown, hgr⟩ := hrel
    have hlen : q.length + r.length + 1 ≤ n ∧ n ≤ q.length + r.length + 1 := by
      have := congrArg List.length hqr
      simp only [List.length_append] at this
      omega
    obtain ⟨hlen, hlen2⟩ := hlen
    have OW := Lib.hid hown
    have GR := Lib.hid hgr
    have QR := Lib.hid hqr
    have ck := (HK.out.kept hgr (by simp; omega)).cell 0
    have CK := Lib.hid ck
    obtain ⟨hcel, _⟩ := Cel.own hown
    clear hown hgr hqr ck
    cases r with
    | nil =>
      simp only [List.length_nil] at hlen hlen2
      obtain rfl : n = q.length + 1 := by omega
      have hcap := own_cap OW.out
      have hc0 := hcel.cell q.length (by simp [nats])
      rw [show (nats (q ++ [y]))[q.length]? = some (.int .i64 (y : Int)) from by simp [nats]] at hc0
      have hf0 := hcel.free q.length
      have hcl : ∀ ty, (Builtin.clear_ #[29] ty #[.slice (some ⟨g, q.length, none⟩) 1 (c - q.length)]).run Tryd.prog wr = .ok (.tuple #[]) (wr.setCells g q.length [.int .i64 0]) :=
        fun ty => Lib.run_clear_slice wr 29 3 ty (.int .i64 0) Tryd.underlying29 zeroK rfl rfl g q.length 1 (c - q.length) (by omega) (fun j hj => by have e : j = 0 := (by omega); subst e; rw [Nat.add_zero, hc0]; rfl) (fun j hj => by have e : j = 0 := (by omega); subst e; exact hf0)
      clear hcel hc0 hf0
      go_wp2_with (simp only [hcl])
      go_ret
      have hq : q = pre ++ rest := by have := QR.out; simpa using this
      rw [← hq]
      have Z := own_cut (own_set OW.out q.length (.int .i64 0)) (m := q.length) (by omega)
      rw [show ((nats (q ++ [y])).set q.length (.int .i64 0)).take q.length = nats q from by simp [nats]] at Z
      exact ⟨rfl, Z, grown_set GR.out _ _⟩
    | cons v r =>
      simp only [List.length_cons] at hlen hlen2
      have g1 : decide ((q.length : Int) + 1 < (n : Int)) = true := by simp; omega
      have hc1 := hcel.cell (q.length + 1) (by simp [nats])
      rw [show (nats (q ++ y :: v :: r))[q.length + 1]? = some (.int .i64 (v : Int)) from by simp [nats]] at hc1
      have hc0 := hcel.cell q.length (by simp [nats])
      rw [show (nats (q ++ y :: v :: r))[q.length]? = some (.int .i64 (y : Int)) from by simp [nats]] at hc0
      have hf0 := hcel.free q.length
      have hvi : v ≠ id := HPR.out v (by rw [← QR.out]; simp)
      have HV : Hid (((v : Int) == (id : Int)) = false) := Lib.hid (by rw [beq_eq_false_iff_ne]; omega)
      have hi1 : (q.length : Int) + 1 < (n : Int) := by omega
      have OW2 := own_set OW.out q.length (.int .i64 (v : Int))
      rw [show (nats (q ++ y :: v :: r)).set q.length (.int .i64 (v : Int)) = nats ((q ++ [v]) ++ v :: r) from by simp [nats]] at OW2
      have OW3 := Lib.hid OW2
      have GR2 : Hid (w.grownBy (wr.setCell ⟨g, q.length, none⟩ (.int .i64 (v : Int))) (some g)) := grown_set GR.out _ _
      clear OW2 hvi hcel
      go_wp2_with fail
      refine (cls_any (v : Int) (id : Int) kb _ CK.out).mono ?_
      rintro e w' ⟨rfl, rfl⟩
      rw [HV.out]
      go_wp2_with fail
      go_roundw
      case rel => exact ⟨q ++ [v], r, v, by rw [← QR.out]; simp, by first | go_num | rfl | simp, by first | go_num | rfl | simp, OW3.out, GR2.out⟩
      case measure => simp [intOf]; omega
end Go.Proofs.YtmmoolcnpbebhaaDoor
