/- The wheel as what is due when; Has. -/
import Derived.Test.YtmmoolcnpbebhaaDoorKpTick
import Derived.Test.YtmmoolcnpbebhaaDoorLit
namespace Go.Proofs.YtmmoolcnpbebhaaDoor
open Go.RowKit Go.Maps
set_option linter.unusedSimpArgs false
set_option linter.unusedVariables false

namespace Wl
/-- Who is due later than T. -/
def after (d : Nat → Option Nat) (T : Nat) : Nat → Option Nat := fun y => (d y).filter fun a => decide (T < a)
theorem after_some {d : Nat → Option Nat} {T y a : Nat} : after d T y = some a ↔ d y = some a ∧ T < a := by
  unfold after
  rw [Option.filter_eq_some_iff]
  simp
theorem after_none {d : Nat → Option Nat} {T y : Nat} : after d T y = none ↔ ∀ a, d y = some a → a ≤ T := by
  unfold after
  rw [Option.filter_eq_none_iff]
  simp
theorem after_step {d : Nat → Option Nat} {T y : Nat} : (if after d T y = some (T + 1) then none else after d T y) = after d (T + 1) y := by
  cases hd : d y with
  | none => simp [after, hd]
  | some a =>
    have e1 : after d T y = if T < a then some a else none := by
      unfold after; rw [hd]; by_cases h : T < a
      · rw [if_pos h]; simp [Option.filter, h]
      · rw [if_neg h]; simp [Option.filter, h]
    have e2 : after d (T + 1) y = if T + 1 < a then some a else none := by
      unfold after; rw [hd]; by_cases h : T + 1 < a
      · rw [if_pos h]; simp [Option.filter, h]
      · rw [if_neg h]; simp [Option.filter, h]
    rw [e1, e2]
    by_cases h1 : T < a
    · rw [if_pos h1]
      by_cases h2 : T + 1 < a
      · have e3 : ¬ (some a = some (T + 1)) := by simp; omega
        rw [if_pos h2, if_neg e3]
      · have e3 : a = T + 1 := by omega
        subst e3
        simp
    · have e3 : ¬ (T + 1 < a) := by omega
      rw [if_neg h1, if_neg e3]; simp
theorem after_upd {d : Nat → Option Nat} {T id a : Nat} (h : T < a) (y : Nat) : upd (after d T) id (some a) y = after (upd d id (some a)) T y := by
  unfold after upd
  split
  · simp [Option.filter, h]
  · rfl
theorem after_del {d : Nat → Option Nat} {T id : Nat} (y : Nat) : upd (after d T) id none y = after (upd d id none) T y := by
  unfold after upd
  split
  · simp [Option.filter]
  · rfl
theorem srt_rising (l : List Nat) : (srt l).Pairwise (· ≤ ·) := by
  have := List.pairwise_mergeSort (le := fun x y : Nat => decide (x ≤ y)) (fun a b c h1 h2 => by simp at *; omega) (fun a b => by simp; omega) l
  exact this.imp fun h => by simpa using h
theorem srt_nodup {l : List Nat} (h : l.Nodup) : (srt l).Nodup := (List.mergeSort_perm l _).nodup_iff.2 h
theorem only_one {l : List Nat} {x : Nat} (hn : l.Nodup) (h : ∀ y, y ∈ l ↔ y = x) : l = [x] := by
  cases l with
  | nil => have := (h x).2 rfl; simp at this
  | cons a l =>
    have h1 := (h a).1 (by simp)
    subst h1
    cases l with
    | nil => rfl
    | cons b l =>
      have h2 := (h b).1 (by simp)
      subst h2
      simp at hn
end Wl

/-- The wheel: at T, d says when each was due last, x is a row of one's own. -/
def WD (w0 : Rf) (wb mb B : Nat) (w : World) (d : Nat → Option Nat) (T nm : Nat) (x : Value) (xl : List Nat) : Prop :=
  ∃ (vs : Nat → Value) (s : Wl.St) (D : DataW Unit), WS w0 wb mb B w vs s nm D x xl ∧ Wl.Ok s 1 1 1 [] ∧ s.now = T ∧ ∀ y, s.due y = Wl.after d T y
section
variable {w0 : Rf} {w w' : World} {wb mb B T nm : Nat} {d : Nat → Option Nat} {x : Value} {xl : List Nat}
theorem WD.fresh (h : WD w0 wb mb B w d T nm x xl) (hg : w.grownBy w' none) : WD w0 wb mb B w' d T nm x xl := by
  obtain ⟨vs, s, D, h1, h2, h3, h4⟩ := h
  exact ⟨vs, s, D, h1.fresh hg, h2, h3, h4⟩
theorem WD.alloc (h : WD w0 wb mb B w d T nm x xl) (o : Go.Obj) : WD w0 wb mb B (w.alloc o) d T nm x xl := h.fresh (World.grownBy_alloc w o none)
theorem WD.drewN (h : WD w0 wb mb B w d T nm x xl) (n : Nat) : WD w0 wb mb B (w.drewN n) d T nm x xl := h.fresh (grown_drewN (grown_refl _ _) n)
theorem WD.drew (h : WD w0 wb mb B w d T nm x xl) : WD w0 wb mb B w.drew d T nm x xl := h.fresh (grown_drew (grown_refl _ _))
theorem WD.bare (h : WD w0 wb mb B w d T nm x xl) : WD w0 wb mb B w d T nm (.slice none 0 0) [] := by
  obtain ⟨vs, s, D, h1, h2, h3, h4⟩ := h
  exact ⟨vs, s, D, h1.bare, h2, h3, h4⟩
theorem WD.bl (h : WD w0 wb mb B w d T nm x xl) : Kp w0 w := by
  obtain ⟨vs, s, D, h1, h2, h3, h4⟩ := h
  exact h1.bl
theorem WD.move (h : WD w0 wb mb B w d T nm x xl) {rb : Option Nat} (hg : w.grownBy w' rb) (hb : ∀ k, rb = some k → w0.K k) (r : Rf) (hw : r.w = w') (hK : ∀ k, r.K k → w0.K k ∨ w.heap.size ≤ k) : WD r wb mb B w' d T nm x xl := by
  obtain ⟨vs, s, D, h1, h2, h3, h4⟩ := h
  exact ⟨vs, s, D, h1.move hg hb r hw hK, h2, h3, h4⟩
theorem WD.row (h : WD w0 wb mb B w d T nm x xl) : w.ownsRow B 3 1 x xl.length (nats xl) := by
  obtain ⟨vs, s, D, h1, h2, h3, h4⟩ := h
  exact h1.xr
theorem WD.same (h : WD w0 wb mb B w d T nm x xl) {d' : Nat → Option Nat} (hd : ∀ y, Wl.after d T y = Wl.after d' T y) : WD w0 wb mb B w d' T nm x xl := by
  obtain ⟨vs, s, D, h1, h2, h3, h4⟩ := h
  exact ⟨vs, s, D, h1, h2, h3, fun y => (h4 y).trans (hd y)⟩
theorem wdnew (r : Rf) : Calls Tryd.prog 6 #[] r.w fun e w' => e = .returned (.pointer (some ⟨r.w.heap.size + 1, 0, none⟩)) ∧ WD r (r.w.heap.size + 1) r.w.heap.size (r.w.heap.size + 2) w' (fun _ => none) 0 0 (.slice none 0 0) [] :=
  (wnew_any r).mono fun e w' h => ⟨h.1, _, _, _, h.2, Wl.new_ok, rfl, fun y => rfl⟩
theorem wdtick (h : WD w0 wb mb B w d T nm x xl) (hT : T ≤ 90000) :
    Calls Tryd.prog 9 #[.pointer (some ⟨wb, 0, none⟩)] w fun e w' => ∃ (a : Option Addr) (c : Nat) (rs : List Nat), e = .returned (.slice a rs.length c) ∧ WD w0 wb mb B w' d (T + 1) nm (.slice a rs.length c) rs ∧ (∀ y, y ∈ rs ↔ d y = some (T + 1)) ∧ rs.Nodup ∧ rs.Pairwise (· ≤ ·) ∧ rs.length ≤ 20 ∧ ∀ y ∈ rs, y ≤ 19 := by
  obtain ⟨vs, s, D, h1, h2, h3, h4⟩ := h
  refine (wtick h1 h2 (by omega)).mono ?_
  rintro e w' ⟨a, c, vs', D', rfl, h'⟩
  have hl := Wl.srt_len (Wl.outs s)
  have hm : ∀ y, y ∈ Wl.srt (Wl.outs s) ↔ d y = some (T + 1) := fun y => by
    rw [Wl.srt_mem, Wl.outs_mem h2, h4, h3, Wl.after_some]
    constructor
    · exact fun h => h.1
    · exact fun h => ⟨h, by omega⟩
  refine ⟨a, c, Wl.srt (Wl.outs s), by rw [hl], ⟨vs', _, D', by rw [hl]; exact h', Wl.tick_ok h2, by rw [← h3]; rfl, fun y => ?_⟩, hm, Wl.srt_nodup (Wl.outs_nodup h2), Wl.srt_rising _, ?_, fun y hy => ?_⟩
  · rw [Wl.tick_due h2, h4, h3]; exact Wl.after_step
  · rw [hl]; exact (Wl.mid_ok h2).short (by omega)
  · rw [Wl.srt_mem] at hy
    exact ((Wl.mid_ok h2).sits (i := (s.now + 1) % 8) (by omega) hy).1
theorem wdstart_yes (h : WD w0 wb mb B w d T nm x xl) (id ahead : Nat) (hid : id ≤ 19) (a1 : 1 ≤ ahead) (a2 : ahead ≤ 400) (hd : Wl.after d T id = none) (hT : T ≤ 90000) (hnm : nm ≤ 100000) :
    Calls Tryd.prog 7 #[.pointer (some ⟨wb, 0, none⟩), .int .i64 id, .int .i64 ahead] w fun e w' => e = .returned .nilIface ∧ WD w0 wb mb B w' (Wl.upd d id (some (T + ahead))) T (nm + 1) x xl := by
  obtain ⟨vs, s, D, h1, h2, h3, h4⟩ := h
  have hd' : s.due id = none := by rw [h4]; exact hd
  refine (wstart_yes id ahead h1 hid a1 a2 hd' (by omega) hnm (fun i hi => by have := h2.short hi; omega)).mono ?_
  rintro e w' ⟨rfl, vs', D', h'⟩
  refine ⟨rfl, vs', _, D', h', Wl.start_ok h2 (by omega) hd' a1 a2, h3, fun y => ?_⟩
  show Wl.upd s.due id (some (s.now + ahead)) y = _
  rw [h3, show s.due = Wl.after d T from funext h4]
  exact Wl.after_upd (by omega) y
theorem wdstart_clash (h : WD w0 wb mb B w d T nm x xl) (id ahead : Nat) (hid : id ≤ 19) (a1 : 1 ≤ ahead) (a2 : ahead ≤ 400) (hd : Wl.after d T id ≠ none) :
    Calls Tryd.prog 7 #[.pointer (some ⟨wb, 0, none⟩), .int .i64 id, .int .i64 ahead] w fun e w' => e = .returned (errV 6) ∧ w = w' := by
  obtain ⟨vs, s, D, h1, h2, h3, h4⟩ := h
  exact wstart_clash id ahead h1 hid a1 a2 (by rw [h4]; exact hd)
theorem wdleft_yes (h : WD w0 wb mb B w d T nm x xl) (id a : Nat) (hd : Wl.after d T id = some a) (hT : T ≤ 90000) :
    Calls Tryd.prog 12 #[.pointer (some ⟨wb, 0, none⟩), .int .i64 id] w fun e w' => e = .returned (.int .i64 ((a : Int) - T)) ∧ w = w' := by
  obtain ⟨vs, s, D, h1, h2, h3, h4⟩ := h
  have hd' : s.due id = some a := by rw [h4]; exact hd
  obtain ⟨b1, b2, b3⟩ := h2.ids id a hd'
  subst h3
  exact wleft_yes id a h1 (by omega) hd' (by omega) b3 (by omega)
theorem wdleft_no (h : WD w0 wb mb B w d T nm x xl) (id : Nat) (hid : id ≤ 1000) (hd : Wl.after d T id = none) :
    Calls Tryd.prog 12 #[.pointer (some ⟨wb, 0, none⟩), .int .i64 id] w fun e w' => e = .returned (.int .i64 (-1)) ∧ w = w' := by
  obtain ⟨vs, s, D, h1, h2, h3, h4⟩ := h
  exact wleft_no id h1 hid (by rw [h4]; exact hd)
end
theorem nats_ints {w : World} {B c : Nat} {a : Option Addr} {l : List Nat} (h : w.ownsRow B 3 1 (.slice a l.length c) l.length (nats l)) (hl : l.length ≤ 100000) (hm : ∀ x ∈ l, x ≤ 100000) : Ints w w.heap.size a l.length (l.map fun i : Nat => (i : Int)) := by
  rcases Nat.eq_zero_or_pos l.length with h0 | h0
  · have e : l = [] := List.eq_nil_of_length_eq_zero h0
    subst e
    exact ⟨rfl, by simp, by intro k hk; simp at hk, by intro k; simp⟩
  · obtain ⟨g, c', hv, hcel, _⟩ := Cel.form h h0
    obtain ⟨rfl, rfl⟩ : a = some ⟨g, 0, none⟩ ∧ c = c' := by simpa using hv
    have e : nats l = (l.map fun i : Nat => (i : Int)).map (.int .i64) := by simp [nats]
    rw [e] at hcel
    refine hcel.ints (by simp) hl (fits_of (M := 100000) (by decide) (fun x hx => ?_))
    obtain ⟨y, hy, rfl⟩ := List.mem_map.1 hx
    have := hm y hy; omega
/-- Has. -/
theorem has_is (a : Option Addr) (len cap : Nat) (zs : List Int) (n : Int) (B : Nat) (w : World) (hI : Ints w B a len zs) :
    Calls Tryd.prog 13 #[.slice a len cap, .int .i64 n] w fun e w' => e = .returned (.bool (decide (n ∈ zs))) ∧ w = w' := by
  have hroom := hI.room
  have HI := Lib.hid hI; clear hI
  go_enter Tryd.func13, Tryd.ntmps13
  go_wp2_with fail
  go_loop [5] (fun v => ∃ k : Nat, k ≤ len ∧ v = .int .i64 k ∧ Hid (∀ j, j < k → zs.getD j 0 ≠ n)) (fun v => len - (intOf v).toNat)
  case atStart => exact ⟨0, by omega, rfl, fun j hj => by omega⟩
  case round =>
    obtain ⟨k, hk, rfl, HN⟩ := hrel
    by_cases hlt : k < len
    · obtain ⟨b, off, rfl, hb, hc⟩ := HI.out.cell k hlt
      have hks : k < zs.length := by rw [HI.out.size]; exact hlt
      have hget : zs.getD k 0 ∈ zs := by
        rw [List.getD_eq_getElem?_getD, List.getElem?_eq_getElem hks]; exact List.getElem_mem hks
      clear hks
      by_cases hz : zs.getD k 0 = n
      · rw [hz] at hc hget
        have HG : Hid (decide (n ∈ zs) = true) := Lib.hid (by simpa using hget)
        clear hz hget
        go_wp2
        go_ret
        exact ⟨by rw [HG.out]; rfl, rfl⟩
      · have HN2 : Hid (∀ j, j < k + 1 → zs.getD j 0 ≠ n) := fun j hj => by
          rcases Nat.lt_or_ge j k with h1 | h1
          · exact HN.out j h1
          · rw [show j = k from by omega]; exact hz
        clear hget
        have hq : (zs.getD k 0 == n) = false := by rw [beq_eq_false_iff_ne]; exact hz
        clear hz
        generalize zs.getD k 0 = m at *
        go_wp2
        go_round
        case rel => exact ⟨k + 1, by omega, by go_num, HN2⟩
        case measure => simp [intOf]; omega
    · have HG : Hid (decide (n ∈ zs) = false) := Lib.hid (by
        simp only [decide_eq_false_iff_not]
        intro hm
        obtain ⟨j, hj, e⟩ := List.mem_iff_getElem.1 hm
        exact HN.out j (by have := HI.out.size; omega) (by rw [List.getD_eq_getElem?_getD, List.getElem?_eq_getElem hj]; exact e))
      go_wp2
      go_ret
      exact ⟨by rw [HG.out]; rfl, rfl⟩
end Go.Proofs.YtmmoolcnpbebhaaDoor
