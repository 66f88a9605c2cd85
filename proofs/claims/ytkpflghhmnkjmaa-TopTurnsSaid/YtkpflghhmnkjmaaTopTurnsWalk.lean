/- TopTurns returns true for every input: the walk. -/
import Derived.Test.YtkpflghhmnkjmaaRetryRun
import Derived.Test.YtkpflghhmnkjmaaRing
import Derived.Test.YtkpflghhmnkjmaaInts
namespace Go.Proofs.Ytkpflghhmnkjmaa.topTurns
open Go.RowKit
set_option linter.unusedSimpArgs false
set_option linter.unusedVariables false

def ints (n : Nat) : List Int := (List.range n).map fun i : Nat => (i : Int)
/-- What is rising, of all. -/
theorem rising_all {who : List Nat} {n : Nat} {us : List Bool} {idx : List Nat} (hn : who.Nodup) (hw : ∀ i ∈ who, i < n) (hl : who.length = n) (h : Ris (who.map fun i : Nat => (i : Int)) us idx) (hc : idx.length = n) :
    (idx.map fun i => (who.map fun i : Nat => (i : Int)).getD i 0) = ints n := by
  have h1 := h.stop (by simp [hc, hl])
  have h2 := (nodup_full n who hn hw (by omega)).map fun i : Nat => (i : Int)
  have h3 : (ints n).Pairwise (· ≤ ·) := by
    unfold ints
    rw [List.pairwise_map]
    exact (List.pairwise_lt_range (n := n)).imp (fun h => by omega)
  exact (h1.trans h2).eq_of_pairwise (fun a b _ _ h1 h2 => Int.le_antisymm h1 h2) h.rise h3
def on (n i : Nat) : List Int := (List.range n).map fun j => if j < i then 1 else 0
theorem on_len (n i : Nat) : (on n i).length = n := by simp [on]
theorem on_set {n j : Nat} (h : j < n) : (on n j).set j 1 = on n (j + 1) := by
  apply List.ext_getElem?
  intro i
  rw [List.getElem?_set]
  rcases Nat.lt_or_ge i n with hi | hi
  · by_cases e : j = i
    · subst e; rw [if_pos rfl, if_pos (by rw [on_len]; exact h)]; simp [on, h]
    · rw [if_neg e]
      simp only [on, List.getElem?_map, List.getElem?_range, hi, if_true, Option.map_some]
      congr 1
      by_cases h2 : i < j
      · rw [if_pos h2, if_pos (by omega)]
      · rw [if_neg h2, if_neg (by omega)]
  · rw [if_neg (by omega)]
    rw [List.getElem?_eq_none (by rw [on_len]; exact hi), List.getElem?_eq_none (by rw [on_len]; exact hi)]
theorem on_zero (n : Nat) : on n 0 = List.replicate n 0 := by
  apply List.ext_getElem?
  intro i
  simp only [on, List.getElem?_replicate, List.getElem?_map]
  rcases Nat.lt_or_ge i n with hi | hi
  · simp [hi]
  · rw [if_neg (by omega), List.getElem?_eq_none (by simpa using hi)]; rfl
theorem on_full (n : Nat) : on n n = List.replicate n 1 := by
  apply List.ext_getElem?
  intro i
  simp only [on, List.getElem?_replicate, List.getElem?_map]
  rcases Nat.lt_or_ge i n with hi | hi
  · simp [hi]
  · rw [if_neg (by omega), List.getElem?_eq_none (by simpa using hi)]; rfl

set_option maxHeartbeats 16000000 in
set_option maxRecDepth 100000 in
theorem walk (n₀ : Int) (a : Option Addr) (len cap : Nat) (zs : List Int) (w : World) (hr : -9223372036854775808 ≤ n₀ ∧ n₀ ≤ 9223372036854775807) (hI : Ints w w.heap.size a len zs) (hcap : len ≤ cap) :
    Calls Try.prog 4 #[.int .i64 n₀, .slice a len cap] w fun e w' => e = .returned (.bool true) ∧ Below w.heap.size w w' := by
  have hroom := hI.room
  have HI := Lib.hid hI; clear hI
  have s0 : ∀ k, -9223372036854775808 ≤ ([0] : List Int).getD k 0 ∧ ([0] : List Int).getD k 0 ≤ 9223372036854775807 := fun k => by rcases k with _ | k <;> simp
  have S0 := Lib.hid s0; clear s0
  obtain ⟨i0, hi, hz0, hz1, hz2⟩ := info_parts risInt
  have R1 := Lib.hid (retry_yes 1 none 0 0 [] w (ints_nil _ _) (Nat.le_refl _) (by decide) (by decide) (by decide) (fun k hk => by omega))
  go_enter Try.func4, Try.ntmps4
  go_wp2_with fail
  refine R1.out.mono ?_
  clear R1
  rintro e w1 ⟨who, sl, a1, a2, c1, c2, rfl, _, _, _, _, h1, h2, h3, hB⟩
  obtain ⟨rfl, rfl⟩ := h1 (by first | trivial | rfl)
  have W1 : Hid (Ints w1 w1.heap.size a1 1 [0]) := h2
  have W2 : Hid (Ints w1 w1.heap.size a2 1 [0]) := h3
  have B1 := Lib.hid hB
  clear h1 h2 h3 hB
  simp only [List.length_cons, List.length_nil, Nat.zero_add]
  go_wp2_with fail
  refine (same_yes _ _ 1 _ _ [0] _ _ _ (W1.out.alloc _) (intsLit (zs := [0]) (Obj.new w1 [.int .i64 0] _) (by decide) S0.out)).mono ?_
  rintro e w2 ⟨rfl, m, rfl⟩
  have D2 : Hid (Below w1.heap.size w1 ((w1.alloc (.cells #[.int .i64 0] 3 (0, 0))).drewN m)) := below_drewN ((Below.refl _ _).alloc (Nat.le_refl _) _) m
  have W2 := Lib.hid (W2.out.later D2.out)
  have B2 : Hid (Below w.heap.size w ((w1.alloc (.cells #[.int .i64 0] 3 (0, 0))).drewN m)) := B1.out.trans (D2.out.mono B1.out.size)
  clear W1 B1 D2
  generalize (w1.alloc (.cells #[.int .i64 0] 3 (0, 0))).drewN m = w2 at *
  go_wp2_with fail
  refine (same_yes _ _ 1 _ _ [0] _ _ _ (W2.out.alloc _) (intsLit (zs := [0]) (Obj.new w2 [.int .i64 0] _) (by decide) S0.out)).mono ?_
  rintro e w3 ⟨rfl, m, rfl⟩
  have B3 : Hid (Below w.heap.size w ((w2.alloc (.cells #[.int .i64 0] 3 (0, 0))).drewN m)) := below_drewN (B2.out.alloc B2.out.size _) m
  clear W2 B2
  generalize (w2.alloc (.cells #[.int .i64 0] 3 (0, 0))).drewN m = w3 at *
  have I3 := Lib.hid (HI.out.later B3.out)
  by_cases hok : (1 ≤ n₀ ∧ n₀ ≤ 5) ∧ len ≤ 200 ∧ ∀ k, k < len → 0 ≤ zs.getD k 0 ∧ zs.getD k 0 ≤ 1000
  · obtain ⟨⟨n1, n2⟩, hl, hz⟩ := hok
    obtain ⟨n, rfl⟩ := Int.eq_ofNat_of_zero_le (show 0 ≤ n₀ by omega)
    have n1 : 1 ≤ n := by omega
    have n5 : n ≤ 5 := by omega
    have R2 := Lib.hid (retry_yes n a len cap zs w3 I3.out hcap n1 n5 hl hz)
    clear hz hr
    go_wp2_with fail
    refine R2.out.mono ?_
    clear R2
    rintro e w4 ⟨who, sl, a1, a2, c1, c2, rfl, h1, hwl, h3, h4, _, h6, _, hB⟩
    have ND := Lib.hid h3
    have WN := Lib.hid h4
    have WI := Lib.hid h6
    have HLN := Lib.hid h1
    have B4 : Hid (Below w.heap.size w w4) := B3.out.trans (hB.mono B3.out.size)
    rw [h1]
    clear h1 h3 h4 h6 hB I3 B3
    go_wp2_with (first | (at_make; go_loud (refine wpList_make_full _ rfl _ _ 22 rfl w4.heap.size 3 i0 (.int .i64 0) 1 Try.underlying22 hi hz0 hz1 .i64 .i64 _ _ n rfl rfl rfl rfl (by rw [hz2]; omega) (by unfold maxLen; omega) (Nat.le_refl _) ?_)))
    intro w5 hown hgr
    have hc5 : Cel w5 w4.heap.size 3 ((on n 0).map (.int .i64)) := by
      have := (Cel.own hown).1
      rw [on_zero]
      simpa [toList_madeCells_one, List.map_replicate] using this
    have C5 := Lib.hid hc5
    have D5 : Hid (Below w4.heap.size w4 w5) := below_new hgr
    clear hown hgr hc5
    have h45 : w4.heap.size ≤ w4.heap.size := Nat.le_refl _
    go_wp2_with fail
    go_loopw [11] (fun v11 wx => ∃ i : Nat, i ≤ n ∧ v11 = .int .i64 i ∧ Cel wx w4.heap.size 3 ((on n i).map (.int .i64)) ∧ Below w4.heap.size w4 wx) (fun v11 _ => n - (intOf v11).toNat)
    case atStart => exact ⟨0, by omega, rfl, C5.out, D5.out⟩
    case round =>
      clear C5 D5
      obtain ⟨i, hin, rfl, hcel, hB⟩ := hrel
      have CE := Lib.hid hcel; clear hcel
      have D := Lib.hid hB; clear hB
      by_cases hil : i < n
      · have hc := CE.out.cell i (by simp [on_len]; omega)
        rw [map_at _ _ 0 _ (by rw [on_len]; exact hil)] at hc
        have hf := CE.out.free i
        have CE2 : Hid (Cel (wr.setCell ⟨w4.heap.size, i, none⟩ (.int .i64 1)) w4.heap.size 3 ((on n (i + 1)).map (.int .i64))) := by
          have := CE.out.set i (.int .i64 1)
          rw [set_map, on_set hil] at this
          exact this
        have D2 : Hid (Below w4.heap.size w4 (wr.setCell ⟨w4.heap.size, i, none⟩ (.int .i64 1))) := D.out.setCell (Nat.le_refl _) _
        generalize (on n i).getD i 0 = ov at *
        go_wp2_with fail
        go_roundw
        case rel => exact ⟨i + 1, by omega, by go_num, CE2.out, D2.out⟩
        case measure => simp [intOf]; omega
      · have hie : n = i := by omega
        subst hie
        have B6 : Hid (Below w.heap.size w wr) := B4.out.trans (D.out.mono B4.out.size)
        have WI6 := Lib.hid (WI.out.later D.out)
        have OI : Hid (Ints wr wr.heap.size (some ⟨w4.heap.size, 0, none⟩) n (List.replicate n 1)) := by
          rw [← on_full]
          exact CE.out.ints (on_len _ _) (by omega) (fits_of (M := 1) (by decide) (fun x hx => by
            simp only [on, List.mem_map] at hx
            obtain ⟨y, _, rfl⟩ := hx
            split <;> omega))
        have RG := Lib.hid (ring_ones w4.heap.size 0 n n wr OI.out n1 n5)
        clear CE D OI hil WI B4
        go_wp2_with fail
        refine RG.out.mono ?_
        clear RG
        rintro e w7 ⟨g, c, rfl, hgi, hB⟩
        have G7 := Lib.hid hgi
        have WI7 := Lib.hid (WI6.out.later hB)
        have B7 : Hid (Below w.heap.size w w7) := B6.out.trans (hB.mono B6.out.size)
        clear hgi hB WI6 B6
        go_wp2_with fail
        go_loop [13] (fun v13 => ∃ i : Nat, i ≤ n ∧ v13 = .int .i64 i) (fun v13 => n - (intOf v13).toNat)
        case atStart => exact ⟨0, by omega, rfl⟩
        case round =>
          obtain ⟨i, hin, rfl⟩ := hrel
          by_cases hil : i < n
          · obtain ⟨gb, go, he, _, hc⟩ := G7.out.cell i hil
            simp only [Option.some.injEq, Addr.mk.injEq, and_true] at he
            obtain ⟨rfl, rfl⟩ := he
            have he : ((List.range n).map fun i : Nat => (i : Int)).getD i 0 = (i : Int) := by simp [List.getD_eq_getElem?_getD, hil]
            rw [he, Nat.zero_add] at hc
            clear he
            go_wp2_with fail
            go_round
            case rel => exact ⟨i + 1, by omega, by go_num⟩
            case measure => simp [intOf]; omega
          · have hie : n = i := by omega
            subst hie
            by_cases hw : who.length < n
            · go_wp2
              go_ret
              exact ⟨by first | (simp; done) | (simp; omega), B7.out⟩
            · have hwe : who.length = n := by omega
              have WI8 : Hid (Ints w7 w7.heap.size a1 n (who.map fun i : Nat => (i : Int))) := by have := WI7.out; rw [hwe] at this; exact this
              obtain ⟨wb, wo, rfl, _, _⟩ := WI8.out.cell 0 (by omega)
              have RS := Lib.hid (fun cc => rising_any wb wo n cc _ w7 WI8.out n1 (by omega))
              have RA := Lib.hid (fun us idx h1 h2 => rising_all (us := us) (idx := idx) ND.out WN.out hwe h1 h2)
              rw [hwe]
              clear WI7 WI8 hw hwe hwl
              go_wp2_with fail
              refine (RS.out _).mono ?_
              clear RS
              rintro e w8 ⟨g8, c8, idx, rfl, hcel, hil8, ⟨us, hris⟩, hB⟩
              rw [RA.out us idx hris hil8] at hcel
              have G8 : Hid (Ints w8 w8.heap.size (some ⟨g8, 0, none⟩) n (ints n)) := hcel.ints (by simp [ints]) (by omega) (fits_of (M := 10) (by decide) (fun x hx => by
                simp only [ints, List.mem_map, List.mem_range] at hx
                obtain ⟨y, hy, rfl⟩ := hx
                omega))
              have G7b : Hid (Ints w8 w8.heap.size (some ⟨g, 0, none⟩) n (ints n)) := G7.out.later hB
              have B8 : Hid (Below w.heap.size w w8) := B7.out.trans (hB.mono B7.out.size)
              clear hcel hris hB B7 G7
              go_wp2_with fail
              refine (same_yes _ _ n _ _ (ints n) _ _ _ G8.out G7b.out).mono ?_
              rintro e w9 ⟨rfl, m, rfl⟩
              go_wp2
              go_ret
              exact ⟨by first | (simp; done) | (simp; omega), below_drewN B8.out _⟩
  · have N := Lib.hid (retry_no a len cap n₀ zs _ w3 I3.out (by
      apply Classical.byContradiction
      intro h
      apply hok
      refine ⟨by omega, by omega, fun k hk => ?_⟩
      apply Classical.byContradiction
      intro h2
      exact h (.inr (.inr ⟨k, hk, by omega⟩))))
    clear hok
    go_wp2_with fail
    refine N.out.mono ?_
    rintro e w' ⟨⟨k, rfl⟩, rfl⟩
    go_wp2
    go_ret
    exact ⟨by first | rfl | simp, B3.out⟩
end Go.Proofs.Ytkpflghhmnkjmaa.topTurns
