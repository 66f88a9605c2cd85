/- ring.Run where one thing waits at each station, and each may send one. -/
import Derived.Test.YtkpflghhmnkjmaaAimdF
import Derived.Test.YtkpflghhmnkjmaaRisingWalk
namespace Go.Proofs.Ytkpflghhmnkjmaa
open Go.RowKit
set_option linter.unusedSimpArgs false
set_option linter.unusedVariables false

/-- What is left: nothing at the first j. -/
def lf (n j : Nat) : List Int := (List.range n).map fun i => if i < j then 0 else 1
theorem lf_len (n j : Nat) : (lf n j).length = n := by simp [lf]
theorem lf_get {n j i : Nat} (h : i < n) : (lf n j).getD i 0 = if i < j then 0 else 1 := by
  simp [lf, List.getD_eq_getElem?_getD, h]
theorem lf_set {n j : Nat} (h : j < n) : (lf n j).set j 0 = lf n (j + 1) := by
  apply List.ext_getElem?
  intro i
  rw [List.getElem?_set]
  rcases Nat.lt_or_ge i n with hi | hi
  · by_cases e : j = i
    · subst e; rw [if_pos rfl, if_pos (by rw [lf_len]; exact h)]; simp [lf, h]
    · rw [if_neg e]
      simp only [lf, List.getElem?_map, List.getElem?_range, hi, if_true, Option.map_some]
      congr 1
      by_cases h2 : i < j
      · rw [if_pos h2, if_pos (by omega)]
      · rw [if_neg h2, if_neg (by omega)]
  · rw [if_neg (by omega)]
    rw [List.getElem?_eq_none (by rw [lf_len]; exact hi), List.getElem?_eq_none (by rw [lf_len]; exact hi)]
theorem lf_ones (n : Nat) : List.replicate n (1 : Int) = lf n 0 := by
  apply List.ext_getElem?
  intro i
  simp only [lf, List.getElem?_replicate, List.getElem?_map]
  rcases Nat.lt_or_ge i n with hi | hi
  · simp [hi]
  · rw [if_neg (by omega), List.getElem?_eq_none (by simpa using hi)]; rfl
theorem lf_fits (n j k : Nat) : -9223372036854775808 ≤ (lf n j).getD k 0 ∧ (lf n j).getD k 0 ≤ 9223372036854775807 := by
  rcases Nat.lt_or_ge k n with h | h
  · rw [lf_get h]; split <;> omega
  · rw [List.getD_eq_getElem?_getD, List.getElem?_eq_none (by rw [lf_len]; exact h)]; simp
theorem lf_max {n j : Nat} (h1 : 1 ≤ n) (h : j < n) : mxN (lf n j) (n - 1) = 1 := by
  have h2 := mxN_ge (lf n j) (n - 1) j (by omega)
  rw [lf_get h, if_neg (by omega)] at h2
  obtain ⟨i, hi, e⟩ := mxN_mem (lf n j) (n - 1)
  rw [e, lf_get (by omega)] at h2 ⊢
  split at h2
  · omega
  · rename_i h3; rw [if_neg h3]
theorem lf_max0 {n : Nat} (h1 : 1 ≤ n) : mxN (lf n n) (n - 1) = 0 := by
  obtain ⟨j, hj, e⟩ := mxN_mem (lf n n) (n - 1)
  rw [e, lf_get (by omega), if_pos (by omega)]

theorem own_form {w : World} {B T size n : Nat} {v : Value} {xs : List Value} (h : w.ownsRow B T size v n xs) : ∃ a c, v = .slice a n c := by
  rcases h.2 with ⟨h1, h2⟩ | ⟨g, c, cur, h1, _⟩
  · exact ⟨none, 0, by rw [h1, h2]⟩
  · exact ⟨_, c, h1⟩
def lenV : Value → Nat
  | .slice _ n _ => n
  | _ => 0
theorem rcheck_ok (a : Option Addr) (len cap : Nat) (zs : List Int) (B : Nat) (w : World) (hI : Ints w B a len zs) (h1 : 1 ≤ len) (h2 : len ≤ 8) (h : ∀ k, k < len → 0 ≤ zs.getD k 0 ∧ zs.getD k 0 ≤ 20) :
    Calls Try.prog 24 #[.slice a len cap] w fun e w' => e = .returned .nilIface ∧ w = w' := by
  have HI := Lib.hid hI; clear hI
  have HH := Lib.hid h; clear h
  go_enter Try.func24, Try.ntmps24
  go_wp2_with fail
  refine (all_yes _ _ _ _ _ _ _ _ HI.out HH.out).mono ?_
  rintro e w' ⟨rfl, rfl⟩
  go_wp2
  go_ret
  exact ⟨rfl, rfl⟩

set_option maxHeartbeats 8000000 in
set_option maxRecDepth 100000 in
theorem ring_ones (b off len cap : Nat) (w : World) (hI : Ints w w.heap.size (some ⟨b, off, none⟩) len (List.replicate len 1)) (h1 : 1 ≤ len) (h5 : len ≤ 5) :
    Calls Try.prog 18 #[.slice (some ⟨b, off, none⟩) len cap, .int .i64 1] w fun e w' => ∃ g c, e = .returned (.tuple #[.slice (some ⟨g, 0, none⟩) len c, .nilIface]) ∧ Ints w' w'.heap.size (some ⟨g, 0, none⟩) len ((List.range len).map fun i : Nat => (i : Int)) ∧ Below w.heap.size w w' := by
  rw [lf_ones] at hI
  have HI := Lib.hid hI; clear hI
  obtain ⟨i0, hi, hz0, hz1, hz2⟩ := info_parts risInt
  have CK := Lib.hid (rcheck_ok (some ⟨b, off, none⟩) len cap (lf len 0) _ w HI.out h1 (by omega) (fun k hk => by rw [lf_get hk]; split <;> omega))
  have CL := Lib.hid (clone_some b off len cap (lf len 0) w HI.out h1 (by omega))
  go_enter Try.func18, Try.ntmps18
  go_wp2_with fail
  refine CK.out.mono ?_
  clear CK
  rintro e w' ⟨rfl, rfl⟩
  go_wp2_with fail
  refine (within_in _ _ _ _ (by decide) (by decide)).mono ?_
  rintro e w' ⟨rfl, rfl⟩
  go_wp2_with fail
  refine CL.out.mono ?_
  clear CL
  rintro e w1 ⟨v, rfl, hown, hB⟩
  obtain ⟨g, c, rfl, hcel, hgB⟩ := Cel.form hown h1
  have C1 := Lib.hid hcel
  have B1 := Lib.hid hB
  have hgl := hcel.lt
  clear hown hB hcel
  go_wp2_with fail
  go_loopw [8, 9] (fun v8 v9 wr => ∃ (j at_ : Nat), j ≤ len ∧ at_ < len ∧ Hid (at_ = j % len) ∧ v9 = .int .i64 at_ ∧ wr.ownsRow w1.heap.size 3 1 v8 j (((List.range j).map fun i : Nat => (i : Int)).map (.int .i64)) ∧ Cel wr g 3 ((lf len j).map (.int .i64)) ∧ w1.heap.size ≤ wr.heap.size ∧ Below w.heap.size w wr) (fun v8 _ _ => len - lenV v8)
  case atStart => exact ⟨0, 0, by omega, by omega, (Nat.zero_mod _).symm, rfl, World.ownsRow_nil _ _ _ _, C1.out, Nat.le_refl _, B1.out⟩
  case round =>
    clear C1 B1
    obtain ⟨j, at_, hj, hat, HA, rfl, hown, hcel, hsz, hB⟩ := hrel
    obtain ⟨a8, c8, rfl⟩ := own_form hown
    have OW := Lib.hid hown; clear hown
    have CE := Lib.hid hcel; clear hcel
    have HB := Lib.hid hB; clear hB
    have S := Lib.hid (smax (some ⟨g, 0, none⟩) len c (lf len j) _ wr (CE.out.ints (lf_len _ _) (by omega) (lf_fits _ _)) h1)
    by_cases hlt : j < len
    · obtain rfl : at_ = j := by rw [HA.out]; exact Nat.mod_eq_of_lt hlt
      clear HA
      have hmx := lf_max h1 hlt
      rw [hmx] at S
      clear hmx
      go_wp2_with fail
      refine S.out.mono ?_
      clear S
      rintro e w' ⟨rfl, rfl⟩
      go_wp2_with fail
      obtain ⟨wo, hwo⟩ : ∃ wo : World, wo = wr := ⟨_, rfl⟩
      subst hwo
      go_loopw [8, 10] (fun v8 v10 wx => ∃ k : Nat, k ≤ 1 ∧ v10 = .int .i64 k ∧ wx.ownsRow w1.heap.size 3 1 v8 (at_ + k) (((List.range (at_ + k)).map fun i : Nat => (i : Int)).map (.int .i64)) ∧ Cel wx g 3 ((lf len (at_ + k)).map (.int .i64)) ∧ w1.heap.size ≤ wx.heap.size ∧ Below w.heap.size w wx) (fun _ v10 _ => 1 - (intOf v10).toNat)
      case atStart => exact ⟨0, by omega, rfl, OW.out, CE.out, hsz, HB.out⟩
      case round =>
        clear OW CE HB hsz
        obtain ⟨k, hk, rfl, hown, hcel, hsz, hB⟩ := hrel
        obtain ⟨a9, c9, rfl⟩ := own_form hown
        have OW := Lib.hid hown; clear hown
        have CE := Lib.hid hcel; clear hcel
        have HB := Lib.hid hB; clear hB
        rcases Nat.eq_zero_or_pos k with rfl | hkp
        · simp only [Nat.add_zero] at OW CE ⊢
          have hc := CE.out.cell at_ (by simp [lf_len]; omega)
          rw [map_at _ _ 0 _ (by rw [lf_len]; exact hlt), lf_get hlt, if_neg (Nat.lt_irrefl _)] at hc
          have hf := CE.out.free at_
          have CE2 : Hid (Cel (wr.setCell ⟨g, at_, none⟩ (.int .i64 0)) g 3 ((lf len (at_ + 1)).map (.int .i64))) := by
            have := CE.out.set at_ (.int .i64 0)
            rw [set_map, lf_set hlt] at this
            exact this
          have OW2 := Lib.hid (ownsRow_setCell_below OW.out (a := ⟨g, at_, none⟩) (by show g < w1.heap.size; exact hgl) (.int .i64 0))
          have HB2 : Hid (Below w.heap.size w (wr.setCell ⟨g, at_, none⟩ (.int .i64 0))) := HB.out.setCell hgB _
          have hsz2 : w1.heap.size ≤ (wr.setCell ⟨g, at_, none⟩ (.int .i64 0)).heap.size := by simpa using hsz
          have hat2 : decide ((at_ : Int) < (len : Int)) = true := by simp; omega
          go_wp2_with (first | (at_builtin; go_loud (refine wpList_append_lies _ rfl _ _ 22 rfl w1.heap.size 3 i0 (.int .i64 0) 1 8 Try.underlying22 hi hz0 hz1 hz2 rfl (by decide) _ _ _ rfl (OW2.out.alloc _) ⟨(wr.setCell ⟨g, at_, none⟩ (.int .i64 0)).heap.size, 0, none⟩ 1 1 [.int .i64 at_] (by simp [Act.eval]) rfl (by have := (cell_one_new (wr.setCell ⟨g, at_, none⟩ (.int .i64 0)) (.int .i64 at_) 3); simpa using this) (by intro u hu; simp at hu; subst hu; rfl) (by decide) (by unfold maxLen; omega) (by omega) (by simp; omega) _ rfl ?_)))
          intro g9 d9 w4 hown1 hgrow1 hat1 hlt1
          have HB4 : Hid (Below w.heap.size w w4) := below_row (HB2.out.alloc HB2.out.size _) hgrow1 (by have := HB2.out.size; simp; omega) (by have := HB2.out.size; simp at this ⊢; omega) (OW2.out.alloc _)
          have CE4 : Hid (Cel w4 g 3 ((lf len (at_ + 1)).map (.int .i64))) := (CE2.out.alloc _).kept hgrow1 (own_ne (OW2.out.alloc (.cells #[.int .i64 at_] 3 (0, 0))) hgl)
          have OW4 : Hid (w4.ownsRow w1.heap.size 3 1 (.slice (some ⟨g9, 0, none⟩) (at_ + 1) d9) (at_ + 1) (((List.range (at_ + 1)).map fun i : Nat => (i : Int)).map (.int .i64))) := by
            show World.ownsRow _ _ _ _ _ _ _
            rw [show (((List.range (at_ + 1)).map fun i : Nat => (i : Int)).map (Value.int .i64)) = ((List.range at_).map fun i : Nat => (i : Int)).map (Value.int .i64) ++ [.int .i64 (at_ : Int)] from by simp [List.range_succ]]
            simpa using hown1
          have hsz4 : w1.heap.size ≤ w4.heap.size := by have := hgrow1.size; simp at this; omega
          clear hown1 hgrow1 hat1 hlt1 hc hf OW2 CE2 HB2 hsz2
          go_wp2_with fail
          go_roundw
          case rel => exact ⟨1, by omega, by go_num, OW4.out, CE4.out, hsz4, HB4.out⟩
          case measure => simp [intOf]
        · obtain rfl : k = 1 := by omega
          have hm : ((at_ : Int) + 1) % (len : Int) = (((at_ + 1) % len : Nat) : Int) := by simp
          have hml : (at_ + 1) % len < len := Nat.mod_lt _ (by omega)
          have HM : Hid ((at_ + 1) % len = (at_ + 1) % len) := rfl
          go_wp2_with fail
          go_roundw
          case rel => exact ⟨at_ + 1, (at_ + 1) % len, by omega, hml, rfl, by first | rfl | simp | (rw [← hm]), OW.out, CE.out, hsz, HB.out⟩
          case measure => simp [lenV]; omega
    · obtain rfl : j = len := by omega
      have hmx := lf_max0 (n := j) h1
      rw [hmx] at S
      clear hmx HA
      obtain ⟨g2, c2, hv2, hcel2, _⟩ := Cel.form OW.out h1
      obtain ⟨rfl, rfl⟩ : a8 = some ⟨g2, 0, none⟩ ∧ c8 = c2 := by simpa using hv2
      clear hv2
      have G := Lib.hid (hcel2.ints (n := j) (by simp) (by omega) (fits_of (M := 10) (by decide) (fun x hx => by
        simp only [List.mem_map, List.mem_range] at hx
        obtain ⟨y, hy, rfl⟩ := hx
        omega)))
      clear hcel2
      go_wp2_with fail
      refine S.out.mono ?_
      clear S
      rintro e w' ⟨rfl, rfl⟩
      go_wp2_with fail
      go_ret2
      exact ⟨g2, c8, rfl, G.out, HB.out⟩
end Go.Proofs.Ytkpflghhmnkjmaa
