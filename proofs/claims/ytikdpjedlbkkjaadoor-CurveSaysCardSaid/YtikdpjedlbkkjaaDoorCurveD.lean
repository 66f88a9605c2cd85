/- The contract of curve.Delay. -/
import Derived.Test.YtikdpjedlbkkjaaDoorCurveF2
namespace Go.Proofs.YtikdpjedlbkkjaaDoor
open Go.RowKit
set_option linter.unusedSimpArgs false
set_option linter.unusedVariables false

/-- The test that is handed to IndexFunc. -/
theorem dtest (y x : Int) (fb fo len cap t cb tb : Nat) (w : World) (hc : Obj w cb 22 [.slice (some ⟨fb, fo, none⟩) len cap]) (ht : Obj w tb 3 [.int .i64 t]) (htl : t < len) (hl : len ≤ 16) (hx : w.cell? ⟨fb, fo + t, none⟩ = some (.int .i64 x)) :
    Calls Tryd.prog 25 #[.int .i64 y, .pointer (some ⟨cb, 0, none⟩), .pointer (some ⟨tb, 0, none⟩)] w fun e w' => e = .returned (.bool (decide (x ≤ y))) ∧ w = w' := by
  have c0 := hc.cell 0
  have c1 := ht.cell 0
  clear hc ht
  simp only [List.getElem?_cons_zero] at c0 c1
  have q1 : (0 : Int) ≤ (t : Int) := by omega
  have q2 : (t : Int) < (len : Int) := by omega
  go_enter Tryd.func25, Tryd.ntmps25
  go_wp2
  go_ret
  exact ⟨rfl, rfl⟩

/-- What IndexFunc finds. -/
def Found (zs : List Int) (x : Int) (n : Nat) (v : Int) : Prop := (v = -1 ∧ ∀ j, j < n → zs.getD j 0 < x) ∨ ∃ j : Nat, j < n ∧ v = (j : Int) ∧ x ≤ zs.getD j 0 ∧ ∀ i, i < j → zs.getD i 0 < x

theorem dindex (x : Int) (fb fo len cap t cb tb : Nat) (a : Option Addr) (n c : Nat) (zs : List Int) (B : Nat) (w : World) (hI : Ints w B a n zs) (hc : Obj w cb 22 [.slice (some ⟨fb, fo, none⟩) len cap]) (ht : Obj w tb 3 [.int .i64 t]) (htl : t < len) (hl : len ≤ 16) (hx : w.cell? ⟨fb, fo + t, none⟩ = some (.int .i64 x)) :
    Calls Tryd.prog 24 #[.slice a n c, .func (.func 25) #[] #[.pointer (some ⟨cb, 0, none⟩), .pointer (some ⟨tb, 0, none⟩)]] w fun e w' => (∃ v, e = .returned (.int .i64 v) ∧ Found zs x n v) ∧ w = w' := by
  have hroom := hI.room
  have T := Lib.hid (fun y => dtest y x fb fo len cap t cb tb w hc ht htl hl hx)
  have HI := Lib.hid hI; clear hI
  clear hc ht htl hl hx
  go_enter Tryd.func24, Tryd.ntmps24
  go_wp2_with fail
  go_loop [8] (fun v8 => ∃ k : Nat, k ≤ n ∧ v8 = .int .i64 k ∧ Hid (∀ j, j < k → zs.getD j 0 < x)) (fun v8 => n - (intOf v8).toNat)
  case atStart => exact ⟨0, by omega, rfl, fun j hj => by omega⟩
  case round =>
    obtain ⟨k, hk, rfl, HK⟩ := hrel
    by_cases hlt : k < n
    · obtain ⟨b, off, rfl, _, hc⟩ := HI.out.cell k hlt
      by_cases hz : x ≤ zs.getD k 0
      · have HF : Hid (Found zs x n (k : Int)) := Or.inr ⟨k, hlt, rfl, hz, HK.out⟩
        have TT := T.out (zs.getD k 0)
        rw [decide_eq_true hz] at TT
        have HT := Lib.hid TT; clear TT hz HK
        generalize zs.getD k 0 = y at *
        go_wp2_with fail
        refine HT.out.mono ?_
        rintro e w' ⟨rfl, rfl⟩
        go_wp2
        go_ret
        exact ⟨⟨_, rfl, HF.out⟩, rfl⟩
      · have HK2 : Hid (∀ j, j < k + 1 → zs.getD j 0 < x) := fun j hj => by
          rcases Nat.lt_or_ge j k with h | h
          · exact HK.out j h
          · obtain rfl : j = k := by omega
            omega
        have TT := T.out (zs.getD k 0)
        rw [decide_eq_false hz] at TT
        have HT := Lib.hid TT; clear TT hz
        generalize zs.getD k 0 = y at hc HT
        go_wp2_with fail
        refine HT.out.mono ?_
        rintro e w' ⟨rfl, rfl⟩
        go_wp2
        go_round
        case rel => exact ⟨k + 1, by omega, by go_num, HK2⟩
        case measure => simp [intOf] <;> omega
    · have HF : Hid (Found zs x n (-1)) := Or.inl ⟨rfl, fun j hj => HK.out j (by omega)⟩
      go_wp2
      go_ret
      exact ⟨⟨_, rfl, HF.out⟩, rfl⟩

/-- The tail of a slice. -/
theorem Ints.tail {w : World} {B b off len t : Nat} {zs : List Int} (h : Ints w B (some ⟨b, off, none⟩) len zs) (ht : t ≤ len) : Ints w B (some ⟨b, off + t, none⟩) (len - t) (zs.drop t) := by
  have hs := h.size
  refine ⟨by simp; omega, by have := h.room; omega, fun k hk => ?_, fun k => ?_⟩
  · obtain ⟨b', off', e, h2, h3⟩ := h.cell (t + k) (by omega)
    simp only [Option.some.injEq, Addr.mk.injEq, and_true] at e
    obtain ⟨rfl, rfl⟩ := e
    refine ⟨b, off + t, rfl, h2, ?_⟩
    rw [show off + t + k = off + (t + k) from by omega, h3]
    simp [List.getD_eq_getElem?_getD]
  · have := h.fits (t + k)
    simpa [List.getD_eq_getElem?_getD] using this
theorem drop_at (zs : List Int) (t k : Nat) : (zs.drop t).getD k 0 = zs.getD (t + k) 0 := by simp [List.getD_eq_getElem?_getD]
theorem found_fst {gs : List Int} {x v : Int} {t n : Nat} (h : Found (gs.drop t) x n v) : (v = -1 ∧ Cv.fstU (gD gs) x t n = none) ∨ ∃ j : Nat, v = (j : Int) ∧ j < n ∧ Cv.fstU (gD gs) x t n = some (t + j) := by
  rcases h with ⟨h1, h2⟩ | ⟨j, h1, h2, h3, h4⟩
  · left
    refine ⟨h1, Cv.fstU_mk_none fun i a b => ?_⟩
    have := h2 (i - t) (by omega)
    rw [drop_at, show t + (i - t) = i from by omega] at this
    exact this
  · right
    refine ⟨j, h2, h1, Cv.fstU_mk (by omega) (by omega) (by rw [drop_at] at h3; exact h3) fun i a b => ?_⟩
    have := h4 (i - t) (by omega)
    rw [drop_at, show t + (i - t) = i from by omega] at this
    exact this

def DelayPost (fs gs : List Int) (len : Nat) (w : World) (e : Ending) (w' : World) : Prop :=
  Below w.heap.size w w' ∧ ((Cv.dlN (gD fs) (gD gs) len len = none ∧ e = .returned (.tuple #[.int .i64 0, errV 5])) ∨ ∃ m : Nat, Cv.dlN (gD fs) (gD gs) len len = some m ∧ e = .returned (.tuple #[.int .i64 (m : Int), .nilIface]))

theorem dl_none {f g : Nat → Int} {n : Nat} : ∀ k j, Cv.dlN f g n k = none → Cv.dlN f g n (k + j) = none := by
  intro k j h
  induction j with
  | zero => exact h
  | succ j ih => show (match Cv.dlN f g n (k + j) with | none => _ | some m => _) = _; rw [ih]

set_option maxHeartbeats 4000000 in
set_option maxRecDepth 100000 in
theorem delay_yes (a b : Option Addr) (len ca cb : Nat) (fs gs : List Int) (w : World) (hF : Ints w w.heap.size a len fs) (hG : Ints w w.heap.size b len gs) (hcap : len ≤ cb) (h0 : bothE fs gs = 0) :
    Calls Tryd.prog 15 #[.slice a len ca, .slice b len cb] w (DelayPost fs gs len w) := by
  have CC := fun w' (h : Below w.heap.size w w') => cvboth_any a b len ca len cb fs gs _ _ w' (hF.below h) (hG.below h)
  rw [h0] at CC
  have C := Lib.hid CC; clear CC
  obtain ⟨hf, hg, _⟩ := both_zero h0
  have hfl := hF.size
  have hroom := hf.few
  have hone := hf.some
  rw [hfl] at hroom hone
  have HF := Lib.hid hF; clear hF
  have HG := Lib.hid hG; clear hG
  clear h0 hf hg hfl
  obtain ⟨fb, fo, rfl, hfb, _⟩ := HF.out.cell 0 (by omega)
  obtain ⟨gb, go_, rfl, hgb, _⟩ := HG.out.cell 0 (by omega)
  have B0 : Hid (Below w.heap.size w (w.alloc (.cells #[.slice (some ⟨fb, fo, none⟩) len ca] 22 (0, 0)))) := (Below.refl _ _).alloc (Nat.le_refl _) _
  have O0 : Hid (Obj (w.alloc (.cells #[.slice (some ⟨fb, fo, none⟩) len ca] 22 (0, 0))) w.heap.size 22 [.slice (some ⟨fb, fo, none⟩) len ca]) := Obj.new _ _ _
  go_enter Tryd.func15, Tryd.ntmps15
  go_wp2_with fail
  refine (C.out _ B0.out).mono ?_
  rintro e w1 ⟨he, m, hd⟩
  have he2 : e = .returned .nilIface := he
  subst he2
  have B1 : Hid (Below w.heap.size w w1) := by show Below _ _ _; rw [hd]; exact below_drewN B0.out m
  have O1 : Hid (Obj w1 w.heap.size 22 [.slice (some ⟨fb, fo, none⟩) len ca]) := by show Obj _ _ _ _; rw [hd]; exact O0.out
  clear hd he C B0 O0
  obtain ⟨cbk, hcb⟩ : ∃ cbk, cbk = w.heap.size := ⟨_, rfl⟩
  have hwc : w.heap.size ≤ cbk := by omega
  rw [← hcb] at O1
  have o0 := O1.out.cell 0
  simp only [List.getElem?_cons_zero] at o0
  have HEQ := Lib.hid hcb
  rw [hcb] at o0
  clear hcb
  go_wp2_with fail
  rw [← HEQ.out]
  go_loopw [7, 18] (fun v7 v18 wr => ∃ t x : Nat, t ≤ len ∧ v18 = .int .i64 t ∧ v7 = .int .i64 x ∧ x ≤ 16 ∧ Hid (Cv.dlN (gD fs) (gD gs) len t = some x) ∧ Obj wr cbk 22 [.slice (some ⟨fb, fo, none⟩) len ca] ∧ Below w.heap.size w wr) (fun _ v18 _ => len - (intOf v18).toNat)
  case atStart => exact ⟨0, 0, by omega, rfl, rfl, by omega, rfl, O1.out, B1.out⟩
  case round =>
    clear O1 B1 o0
    obtain ⟨t, x, ht, rfl, rfl, hx, HDL, ho, hB⟩ := hrel
    have HO := Lib.hid ho; clear ho
    have HB := Lib.hid hB; clear hB
    have hsz := HB.out.size
    by_cases hlt : t < len
    · obtain ⟨fb', fo', he, hfb', hc⟩ := HF.out.cell t hlt
      simp only [Option.some.injEq, Addr.mk.injEq, and_true] at he
      obtain ⟨rfl, rfl⟩ := he
      have HB2 : Hid (Below w.heap.size w (wr.alloc (.cells #[.int .i64 t] 3 (0, 0)))) := HB.out.alloc hsz _
      have IX := Lib.hid (dindex (fs.getD t 0) fb fo len ca t cbk wr.heap.size (some ⟨gb, go_ + t, none⟩) (len - t) (cb - t) (gs.drop t) w.heap.size (wr.alloc (.cells #[.int .i64 t] 3 (0, 0))) ((HG.out.below HB2.out).tail (Nat.le_of_lt hlt)) (HO.out.alloc _) (Obj.new _ _ _) hlt hroom ((HB2.out.cell (p := ⟨fb, fo + t, none⟩) hfb').trans hc))
      have q1 : (0 : Int) ≤ (t : Int) := by omega
      have q2 : (t : Int) < (len : Int) := by omega
      have q3 : (t : Int) ≤ (cb : Int) := by omega
      have q4 : cb ≠ t := by omega
      have q5 : ¬ cb = t := by omega
      have c0 := (HO.out.alloc (.cells #[.int .i64 t] 3 (0, 0))).cell 0
      simp only [List.getElem?_cons_zero] at c0
      clear hc hfb'
      go_wp2_with fail
      refine IX.out.mono ?_
      clear IX
      rintro e w2 ⟨⟨v, rfl, hfound⟩, rfl⟩
      have HO2 := Lib.hid (HO.out.alloc (.cells #[.int .i64 t] 3 (0, 0)))
      rcases found_fst hfound with ⟨rfl, hnone⟩ | ⟨j, rfl, hj, hsome⟩
      · have HN : Hid (Cv.dlN (gD fs) (gD gs) len len = none) := by
          have h1 : Cv.dlN (gD fs) (gD gs) len (t + 1) = none := by
            show (match Cv.dlN (gD fs) (gD gs) len t with | none => _ | some m => _) = _
            rw [HDL.out]
            show (match Cv.fstU (gD gs) (gD fs t) t (len - t) with | none => none | some u => some (max x (u - t))) = _
            rw [show gD fs t = fs.getD t 0 from rfl, hnone]
          have h2 := dl_none (t + 1) (len - (t + 1)) h1
          rw [show t + 1 + (len - (t + 1)) = len from by omega] at h2
          exact h2
        clear hfound hnone HDL
        go_wp2_with fail
        go_ret2
        exact ⟨HB2.out, Or.inl ⟨HN.out, rfl⟩⟩
      · have HN : Hid (Cv.dlN (gD fs) (gD gs) len (t + 1) = some (max x j)) := by
          show (match Cv.dlN (gD fs) (gD gs) len t with | none => none | some m => _) = _
          rw [HDL.out]
          show (match Cv.fstU (gD gs) (gD fs t) t (len - t) with | none => none | some u => some (max x (u - t))) = _
          rw [show gD fs t = fs.getD t 0 from rfl, hsome]
          show some (max x (t + j - t)) = _
          rw [show t + j - t = j from by omega]
        clear hfound hsome HDL
        have hjl : j ≤ 16 := by omega
        by_cases hm : x < j
        · rw [show max x j = j from by omega] at HN
          go_wp2_with fail
          go_roundw
          case rel => exact ⟨t + 1, j, by omega, by go_num, by go_num, hjl, HN.out, HO2.out, HB2.out⟩
          case measure => simp [intOf] <;> omega
        · rw [show max x j = x from by omega] at HN
          have hm2 : j ≤ x := by omega
          clear hm
          go_wp2_with fail
          go_roundw
          case rel => exact ⟨t + 1, x, by omega, by go_num, by go_num, hx, HN.out, HO2.out, HB2.out⟩
          case measure => simp [intOf] <;> omega
    · have HN : Hid (Cv.dlN (gD fs) (gD gs) len len = some x) := by have := HDL.out; rw [show t = len from by omega] at this; exact this
      go_wp2_with fail
      go_ret2
      exact ⟨HB.out, Or.inr ⟨x, HN.out, rfl⟩⟩

theorem delay_no (a b : Option Addr) (la ca lb cb : Nat) (fs gs : List Int) (w : World) (hF : Ints w w.heap.size a la fs) (hG : Ints w w.heap.size b lb gs) (h0 : bothE fs gs ≠ 0) :
    Calls Tryd.prog 15 #[.slice a la ca, .slice b lb cb] w fun e w' => e = .returned (.tuple #[.int .i64 0, errV (bothE fs gs)]) ∧ Below w.heap.size w w' := by
  have CC := fun w' (h : Below w.heap.size w w') => cvboth_any a b la ca lb cb fs gs _ _ w' (hF.below h) (hG.below h)
  rw [cv_bad h0] at CC
  have C := Lib.hid CC; clear CC
  clear h0 hF hG
  generalize bothE fs gs = n at *
  have B0 : Hid (Below w.heap.size w (w.alloc (.cells #[.slice a la ca] 22 (0, 0)))) := (Below.refl _ _).alloc (Nat.le_refl _) _
  go_enter Tryd.func15, Tryd.ntmps15
  go_wp2_with fail
  refine (C.out _ B0.out).mono ?_
  rintro e w1 ⟨rfl, m, hd⟩
  have B1 : Hid (Below w.heap.size w w1) := by show Below _ _ _; rw [hd]; exact below_drewN B0.out m
  clear hd
  go_wp2
  go_ret2
  exact ⟨rfl, B1.out⟩
end Go.Proofs.YtikdpjedlbkkjaaDoor
