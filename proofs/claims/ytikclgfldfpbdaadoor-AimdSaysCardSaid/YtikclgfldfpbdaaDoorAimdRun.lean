/- The contract of aimd.Run. -/
import Derived.Test.YtikclgfldfpbdaaDoorAimd
namespace Go.Proofs.YtikclgfldfpbdaaDoor
open Go.RowKit
set_option linter.unusedSimpArgs false
set_option linter.unusedVariables false

theorem ai_up (x : Int) (w : World) (h0 : 0 ≤ x) (h1 : x ≤ 1000000) : Calls Tryd.prog 27 #[.int .i64 x] w fun e w' => e = .returned (.int .i64 (x + 1)) ∧ w = w' := by
  go_enter Tryd.func27, Tryd.ntmps27
  go_wp2
  go_ret
  exact ⟨rfl, rfl⟩
theorem ai_half (x : Int) (w : World) (h0 : 0 ≤ x) (h1 : x ≤ 1000000) : Calls Tryd.prog 29 #[.int .i64 x] w fun e w' => e = .returned (.int .i64 (x / 2)) ∧ w = w' := by
  go_enter Tryd.func29, Tryd.ntmps29
  go_wp2
  go_ret
  exact ⟨rfl, rfl⟩

/-- A block of its own that begins with these numbers. -/
structure Row (w : World) (B g n : Nat) (zs : List Int) : Prop where
  size : zs.length = n
  base : B ≤ g
  block : ∃ cur : Array Value, w.heap[g]? = some (.cells cur 3 (0, 0)) ∧ n ≤ cur.size ∧ ∀ k, k < n → cur[k]? = some (.int .i64 (zs.getD k 0))
theorem Row.lt {w : World} {B g n : Nat} {zs : List Int} (h : Row w B g n zs) : g < w.heap.size := by
  obtain ⟨cur, h1, _, _⟩ := h.block
  exact lt_of_block h1
theorem Row.cell {w : World} {B g n : Nat} {zs : List Int} (h : Row w B g n zs) (k : Nat) (hk : k < n) : w.cell? ⟨g, k, none⟩ = some (.int .i64 (zs.getD k 0)) := by
  obtain ⟨cur, h1, _, h3⟩ := h.block
  have := h3 k hk
  simp [World.cell?, h1, this]
theorem Row.free {w : World} {B g n : Nat} {zs : List Int} (h : Row w B g n zs) (k : Nat) : w.frozen? ⟨g, k, none⟩ = false := by
  obtain ⟨cur, h1, _, _⟩ := h.block
  simp [World.frozen?, h1]
theorem Row.own {w : World} {B n : Nat} {v : Value} {zs : List Int} (h : w.ownsRow B 3 1 v n (zs.map (.int .i64))) (hl : zs.length = n) (hn : 1 ≤ n) : ∃ g c, v = .slice (some ⟨g, 0, none⟩) n c ∧ Row w B g n zs := by
  rcases h.2 with ⟨_, h1⟩ | ⟨g, cap, cur, hv, hb, hg, hc, hm, hs, ht⟩
  · omega
  · refine ⟨g, cap, hv, hl, hb, cur, hg, by omega, fun k hk => ?_⟩
    have h2 : (cur.toList.take (n * 1))[k]? = (zs.map (Value.int .i64))[k]? := by rw [ht]
    have hkz : k < zs.length := by omega
    rw [List.getElem?_take_of_lt (by omega), List.getElem?_map, List.getElem?_eq_getElem hkz] at h2
    simp only [Option.map_some] at h2
    rw [← Array.getElem?_toList, h2, List.getD_eq_getElem?_getD, List.getElem?_eq_getElem hkz]; rfl
theorem Row.set {w : World} {B g n : Nat} {zs : List Int} (h : Row w B g n zs) (k : Nat) (hk : k < n) (x : Int) : Row (w.setCell ⟨g, k, none⟩ (.int .i64 x)) B g n (zs.set k x) := by
  obtain ⟨cur, h1, h2, h3⟩ := h.block
  have hlt := lt_of_block h1
  have h' : w.heap[g] = .cells cur 3 (0, 0) := by simpa [Array.getElem?_eq_getElem hlt] using h1
  refine ⟨by simpa using h.size, h.base, cur.setIfInBounds k (.int .i64 x), ?_, by simpa using h2, fun j hj => ?_⟩
  · show (w.heap.modify g _)[g]? = _
    rw [Array.getElem?_eq_getElem (by simpa using hlt), Array.getElem_modify_self, h']
    rfl
  · have hz := h.size
    rw [List.getD_eq_getElem?_getD, List.getElem?_set]
    by_cases e : k = j
    · subst e
      rw [if_pos rfl, if_pos (by omega), Array.getElem?_setIfInBounds_self_of_lt (by omega)]; rfl
    · rw [if_neg e, Array.getElem?_setIfInBounds_ne e, h3 j hj, List.getD_eq_getElem?_getD]
theorem Row.ints {w : World} {B g n : Nat} {zs : List Int} (h : Row w B g n zs) (hn : n ≤ 1000) {M : Int} (hM : M ≤ 1000000) (hf : ∀ x ∈ zs, 0 ≤ x ∧ x ≤ M) : Ints w w.heap.size (some ⟨g, 0, none⟩) n zs :=
  ⟨h.size, by omega, fun k hk => ⟨g, 0, rfl, h.lt, by rw [Nat.zero_add]; exact h.cell k hk⟩, fun k => by
    rcases Nat.lt_or_ge k zs.length with h1 | h1
    · have := hf _ (List.getElem_mem h1)
      rw [List.getD_eq_getElem?_getD, List.getElem?_eq_getElem h1]; simp only [Option.getD_some]; omega
    · rw [List.getD_eq_getElem?_getD, List.getElem?_eq_none h1]; simp⟩
theorem mem_getD {zs : List Int} {P : Int → Prop} (h : ∀ x ∈ zs, P x) (k : Nat) (hk : k < zs.length) : P (zs.getD k 0) := by
  rw [List.getD_eq_getElem?_getD, List.getElem?_eq_getElem hk]; exact h _ (List.getElem_mem hk)
/-- The first i are changed, the others not yet. -/
def mix (f : Int → Int) (l : List Int) (i : Nat) : List Int := (l.take i).map f ++ l.drop i
theorem mix_at (f : Int → Int) (l : List Int) (i : Nat) (h : i < l.length) : (mix f l i).getD i 0 = l.getD i 0 := by
  have e : ((l.take i).map f).length = i := by simp; omega
  unfold mix
  rw [List.getD_eq_getElem?_getD, List.getElem?_append_right (by omega), e, Nat.sub_self, List.getElem?_drop, Nat.add_zero, List.getD_eq_getElem?_getD]
theorem mix_set (f : Int → Int) (l : List Int) (i : Nat) (h : i < l.length) : (mix f l i).set i (f (l.getD i 0)) = mix f l (i + 1) := by
  have e : ((l.take i).map f).length = i := by simp; omega
  unfold mix
  rw [List.set_append_right i _ (by omega), e, Nat.sub_self, List.drop_eq_getElem_cons h, List.set_cons_zero, List.take_succ_eq_append_getElem h]
  have eg : l.getD i 0 = l[i] := by simp [List.getD_eq_getElem?_getD, h]
  rw [eg]
  simp only [List.map_append, List.map_cons, List.map_nil, List.append_assoc, List.cons_append, List.nil_append]
theorem mix_all (f : Int → Int) (l : List Int) (i : Nat) (h : l.length ≤ i) : mix f l i = l.map f := by
  unfold mix; rw [List.take_of_length_le h, List.drop_of_length_le h, List.append_nil]
set_option maxHeartbeats 4000000 in
set_option maxRecDepth 100000 in
theorem airun_yes (b off : Nat) (len cap : Nat) (room steps : Int) (zs : List Int) (w : World) (hI : Ints w w.heap.size (some ⟨b, off, none⟩) len zs) (he : aiE zs room = 0) (hl : 1 ≤ len ∧ len ≤ 5) (hz : ∀ x ∈ zs, 0 ≤ x ∧ x ≤ 1000) (hs : 0 ≤ steps ∧ steps ≤ 1000) :
    Calls Tryd.prog 16 #[.slice (some ⟨b, off, none⟩) len cap, .int .i64 room, .int .i64 steps] w fun e w' => ∃ g c, e = .returned (.tuple #[.slice (some ⟨g, 0, none⟩) len c, .int .i64 (((aiRun room zs steps.toNat).2 : Nat) : Int), .nilIface]) ∧ Row w' w.heap.size g len (aiRun room zs steps.toNat).1 ∧ Below w.heap.size w w' := by
  have C := Lib.hid (aicheck_any _ len cap room zs w.heap.size w hI)
  rw [he] at C
  clear he
  obtain ⟨s1, s2⟩ := hs
  have hlz := Lib.hid hI.size
  have HI := Lib.hid hI; clear hI
  go_enter Tryd.func16, Tryd.ntmps16
  go_wp2_with fail
  refine C.out.mono ?_
  rintro e w' ⟨he, rfl⟩
  have he2 : e = .returned .nilIface := he
  subst he2
  go_wp2_with fail
  refine (within_in _ _ _ _ s1 s2).mono ?_
  rintro e w' ⟨rfl, rfl⟩
  go_wp2_with fail
  refine (clone_some _ _ len cap zs w HI.out (by omega) (by omega)).mono ?_
  rintro e w1 ⟨v, rfl, hown, hB⟩
  obtain ⟨g, c, rfl, hrow⟩ := Row.own hown hlz.out hl.1
  have HB0 := Lib.hid hB; clear hB hown
  have HR0 := Lib.hid hrow; clear hrow
  have HZ := Lib.hid hz
  go_wp2_with fail
  go_loopw [11, 28] (fun v11 v28 wr => ∃ k : Nat, (k : Int) ≤ steps ∧ v28 = .int .i64 k ∧ v11 = .int .i64 (((aiRun room zs k).2 : Nat) : Int) ∧ Row wr w.heap.size g len (aiRun room zs k).1 ∧ Below w.heap.size w wr) (fun _ v28 _ => 1000 - (intOf v28).toNat)
  case atStart => exact ⟨0, by omega, rfl, rfl, HR0.out, HB0.out⟩
  case round =>
    obtain ⟨k, hk, rfl, rfl, hrow, hB⟩ := hrel
    have HR := Lib.hid hrow; clear hrow
    have HB := Lib.hid hB; clear hB
    have HS : Hid (aiRun room zs (k + 1) = aiStep room (aiRun room zs k)) := rfl
    have hh := ai_halved room zs k
    have hbd : Hid (∀ x ∈ (aiRun room zs k).1, 0 ≤ x ∧ x ≤ 1000 + (k : Int)) := ai_bounds room zs k HZ.out
    obtain ⟨st, hst⟩ : ∃ st, aiRun room zs k = st := ⟨_, rfl⟩
    have HAI := Lib.hid hst
    rw [hst] at HR HS hh hbd
    rw [hst]
    clear hst
    obtain ⟨l, hv⟩ := st
    simp only at *
    by_cases hlt : (k : Int) < steps
    · have hks : (k : Int) ≤ 1000 := by omega
      have hlen : Hid (l.length = len) := HR.out.size
      have I := Lib.hid (HR.out.ints (by omega) (M := 1000 + (k : Int)) (by omega) hbd.out)
      have hsb : Hid (∀ j, j < len → 0 ≤ l.getD j 0 ∧ l.getD j 0 ≤ 1000000) := fun j hj => by
        have := mem_getD hbd.out j (by rw [hlen.out]; exact hj)
        omega
      go_wp2_with fail
      refine (aisum _ len _ l _ _ I.out hl.2 hsb.out).mono ?_
      rintro e w' ⟨rfl, rfl⟩
      by_cases hsum : room < l.sum
      · have HS2 : Hid (aiRun room zs (k + 1) = (l.map (· / 2), hv + 1)) := HS.out.trans (if_pos hsum)
        clear HS
        generalize l.sum = sm at *
        have hlz2 := hlen.out
        have I5 := hl.2
        go_wp2_with fail
        go_loopw [38] (fun v38 wr2 => ∃ i : Nat, i ≤ len ∧ v38 = .int .i64 i ∧ Row wr2 w.heap.size g len (mix (· / 2) l i) ∧ Below w.heap.size w wr2) (fun v38 _ => len - (intOf v38).toNat)
        case atStart => exact ⟨0, by omega, rfl, by simpa [mix] using HR.out, HB.out⟩
        case round =>
          obtain ⟨i, hi, rfl, hrow, hB⟩ := hrel
          have HR2 := Lib.hid hrow; clear hrow
          have HB2 := Lib.hid hB; clear hB
          by_cases hil : i < len
          · have hx := HR2.out.cell i hil
            rw [mix_at _ _ _ (by omega)] at hx
            have hxb := hsb.out i hil
            have hset := Lib.hid (HR2.out.set i hil (l.getD i 0 / 2))
            have hmix : Hid ((mix (· / 2) l i).set i (l.getD i 0 / 2) = mix (· / 2) l (i + 1)) := mix_set (· / 2) l i (by omega)
            have hfr := HR2.out.free i
            have HX := Lib.hid (show Row _ _ _ _ _ from by have := hset.out; rw [hmix.out] at this; exact this)
            clear hset hmix
            have hgl := HR2.out.lt
            have hgb := HR2.out.base
            have HBX := Lib.hid (HB2.out.setCell hgb (.int .i64 (l.getD i 0 / 2)) (p := ⟨g, i, none⟩))
            generalize l.getD i 0 = x at *
            go_wp2_with fail
            refine (ai_half x _ hxb.1 hxb.2).mono ?_
            rintro e w' ⟨rfl, rfl⟩
            go_wp2_with fail
            go_roundw
            case rel => exact ⟨i + 1, by omega, by go_num, HX.out, HBX.out⟩
            case measure => simp [intOf]; omega
          · have HM : Hid (mix (· / 2) l i = l.map (· / 2)) := mix_all _ _ _ (by omega)
            go_wp2_with fail
            go_roundw
            case rel => exact ⟨k + 1, by omega, by go_num, by rw [HS2.out]; go_num, by rw [HS2.out, ← HM.out]; exact HR2.out, HB2.out⟩
            case measure => simp [intOf]; omega
      · have HS2 : Hid (aiRun room zs (k + 1) = (l.map (· + 1), hv)) := HS.out.trans (if_neg hsum)
        clear HS
        have hsum2 : l.sum ≤ room := by omega
        clear hsum
        generalize l.sum = sm at *
        have hlz2 := hlen.out
        have I5 := hl.2
        go_wp2_with fail
        go_loopw [38] (fun v38 wr2 => ∃ i : Nat, i ≤ len ∧ v38 = .int .i64 i ∧ Row wr2 w.heap.size g len (mix (· + 1) l i) ∧ Below w.heap.size w wr2) (fun v38 _ => len - (intOf v38).toNat)
        case atStart => exact ⟨0, by omega, rfl, by simpa [mix] using HR.out, HB.out⟩
        case round =>
          obtain ⟨i, hi, rfl, hrow, hB⟩ := hrel
          have HR2 := Lib.hid hrow; clear hrow
          have HB2 := Lib.hid hB; clear hB
          by_cases hil : i < len
          · have hx := HR2.out.cell i hil
            rw [mix_at _ _ _ (by omega)] at hx
            have hxb := hsb.out i hil
            have hset := Lib.hid (HR2.out.set i hil (l.getD i 0 + 1))
            have hmix : Hid ((mix (· + 1) l i).set i (l.getD i 0 + 1) = mix (· + 1) l (i + 1)) := mix_set (· + 1) l i (by omega)
            have hfr := HR2.out.free i
            have HX := Lib.hid (show Row _ _ _ _ _ from by have := hset.out; rw [hmix.out] at this; exact this)
            clear hset hmix
            have hgl := HR2.out.lt
            have hgb := HR2.out.base
            have HBX := Lib.hid (HB2.out.setCell hgb (.int .i64 (l.getD i 0 + 1)) (p := ⟨g, i, none⟩))
            generalize l.getD i 0 = x at *
            go_wp2_with fail
            refine (ai_up x _ hxb.1 hxb.2).mono ?_
            rintro e w' ⟨rfl, rfl⟩
            go_wp2_with fail
            go_roundw
            case rel => exact ⟨i + 1, by omega, by go_num, HX.out, HBX.out⟩
            case measure => simp [intOf]; omega
          · have HM : Hid (mix (· + 1) l i = l.map (· + 1)) := mix_all _ _ _ (by omega)
            go_wp2_with fail
            go_roundw
            case rel => exact ⟨k + 1, by omega, by go_num, by rw [HS2.out], by rw [HS2.out, ← HM.out]; exact HR2.out, HB2.out⟩
            case measure => simp [intOf]; omega
    · have hke : (k : Int) = steps := by omega
      have hkn : k = steps.toNat := by omega
      have HF : Hid (aiRun room zs steps.toNat = (l, hv)) := by rw [← hkn]; exact HAI.out
      go_wp2_with fail
      go_ret3
      rw [HF.out]
      exact ⟨g, ⟨c, rfl⟩, HR.out, HB.out⟩
end Go.Proofs.YtikclgfldfpbdaaDoor
