/- The wheel between two steps of a play that keeps a row of its own; what the play believes, and what is so. -/
import Derived.Test.YtmmoolcnpbebhaaDoorKpStopD
namespace Go.Proofs.YtmmoolcnpbebhaaDoor
open Go.RowKit Go.Maps
set_option linter.unusedSimpArgs false
set_option linter.unusedVariables false

/-- The reference: the blocks ahead of C, the block lb and those from S on are kept. -/
def rfAt (w : World) (C lb S : Nat) : Rf := ⟨w, fun k => (k < C ∨ k = lb ∨ S ≤ k) ∧ k < w.heap.size, fun _ h => h.2⟩
/-- The wheel between two steps. -/
def PW (C lb wb mb B : Nat) (w : World) (d : Nat → Option Nat) (T nm : Nat) : Prop := WD (rfAt w C lb w.heap.size) wb mb B w d T nm (.slice none 0 0) []
section
variable {w w' wx : World} {C lb wb mb B T nm S : Nat} {d : Nat → Option Nat} {x : Value} {xl : List Nat}
theorem pw_of (h : WD (rfAt w C lb S) wb mb B w' d T nm x xl) (hlb : lb < w.heap.size) (hC : C ≤ w.heap.size) : PW C lb wb mb B w' d T nm ∧ Below C w w' ∧ w'.heap[lb]? = w.heap[lb]? := by
  have hb := h.bl
  refine ⟨h.bare.move (grown_refl w' none) (fun k e => by simp at e) (rfAt w' C lb w'.heap.size) rfl (fun k hk => ?_), ⟨hb.os, hb.tape, hb.output, hb.size, fun k hk => hb.block k ⟨.inl hk, by show k < w.heap.size; omega⟩⟩, hb.block lb ⟨.inr (.inl rfl), hlb⟩⟩
  obtain ⟨h1 | h1 | h1, h2⟩ := hk
  · left; exact ⟨.inl h1, by show k < w.heap.size; omega⟩
  · left; exact ⟨.inr (.inl h1), by show k < w.heap.size; omega⟩
  · right; exact h1
theorem PW.grown (h : PW C lb wb mb B w d T nm) (hlb : lb < w.heap.size) (hC : C ≤ w.heap.size) {rb : Option Nat} (hg : w.grownBy w' rb) (hb : ∀ k, rb = some k → k = lb) : PW C lb wb mb B w' d T nm := by
  have hs := hg.size
  refine WD.move h hg (fun k e => ⟨.inr (.inl (hb k e)), by have := hb k e; show k < w.heap.size; omega⟩) _ rfl (fun k hk => ?_)
  obtain ⟨h1 | h1 | h1, h2⟩ := hk
  · left; exact ⟨.inl h1, by show k < w.heap.size; omega⟩
  · left; exact ⟨.inr (.inl h1), by show k < w.heap.size; omega⟩
  · right; omega
/-- What the play has made meanwhile is kept too. -/
theorem PW.want (h : PW C lb wb mb B w d T nm) (hlb : lb < w.heap.size) (hC : C ≤ w.heap.size) (hg : w.grownBy wx (some lb)) : WD (rfAt wx C lb w.heap.size) wb mb B wx d T nm (.slice none 0 0) [] := by
  have hs := hg.size
  refine WD.move h hg (fun k e => ⟨.inr (.inl (by simpa using e.symm)), by have : k = lb := (by simpa using e.symm); show k < w.heap.size; omega⟩) _ rfl (fun k hk => ?_)
  obtain ⟨h1 | h1 | h1, h2⟩ := hk
  · left; exact ⟨.inl h1, by show k < w.heap.size; omega⟩
  · left; exact ⟨.inr (.inl h1), by show k < w.heap.size; omega⟩
  · right; omega
theorem pw_new {r : Rf} (h : WD r wb mb B w d T nm x xl) (hg : w.grownBy w' none) (hlb : w.heap.size ≤ lb) (hC : ∀ k, k < C → r.K k) : PW C lb wb mb B w' d T nm := by
  refine h.bare.move hg (fun k e => by simp at e) _ rfl (fun k hk => ?_)
  obtain ⟨h1 | h1 | h1, h2⟩ := hk
  · left; exact hC k h1
  · right; omega
  · right; have := hg.size; omega
theorem pwnew (w : World) : Calls Tryd.prog 6 #[] w fun e w' => e = .returned (.pointer (some ⟨w.heap.size + 1, 0, none⟩)) ∧ WD (rfAt w w.heap.size w.heap.size w.heap.size) (w.heap.size + 1) w.heap.size (w.heap.size + 2) w' (fun _ => none) 0 0 (.slice none 0 0) [] ∧ Below w.heap.size w w' :=
  (wdnew (rfAt w w.heap.size w.heap.size w.heap.size)).mono fun e w' h => ⟨h.1, h.2, ⟨h.2.bl.os, h.2.bl.tape, h.2.bl.output, h.2.bl.size, fun k hk => h.2.bl.block k ⟨.inl hk, hk⟩⟩⟩
theorem own_kp {b e size n : Nat} {v : Value} {xs : List Value} (h : w.ownsRow b e size v n xs) (hk : ∀ g, v.ownBlock = some g → w'.heap[g]? = w.heap[g]?) : w'.ownsRow b e size v n xs := by
  refine ⟨h.1, ?_⟩
  rcases h.2 with h' | ⟨g, cap, cur, hv, hb, hg, h1, h2, h3, h4⟩
  · exact .inl h'
  · exact .inr ⟨g, cap, cur, hv, hb, (hk g (by rw [hv]; rfl)).trans hg, h1, h2, h3, h4⟩

theorem pwstart_no (p : Option Addr) (id ahead : Int) (h : PW C lb wb mb B w d T nm) (hid : (id < 0 ∨ 19 < id) ∨ ahead < 1 ∨ 400 < ahead) : Calls Tryd.prog 7 #[.pointer p, .int .i64 id, .int .i64 ahead] w fun e w' => e = .returned (errV 1) ∧ w = w' := wstart_no p id ahead w hid
theorem pwstart_clash (h : PW C lb wb mb B w d T nm) (id ahead : Nat) (hid : id ≤ 19) (a1 : 1 ≤ ahead) (a2 : ahead ≤ 400) (hd : Wl.after d T id ≠ none) :
    Calls Tryd.prog 7 #[.pointer (some ⟨wb, 0, none⟩), .int .i64 id, .int .i64 ahead] w fun e w' => e = .returned (errV 6) ∧ w = w' := wdstart_clash h id ahead hid a1 a2 hd
theorem pwstart_yes (h : PW C lb wb mb B w d T nm) (hlb : lb < w.heap.size) (hC : C ≤ w.heap.size) (id ahead : Nat) (hid : id ≤ 19) (a1 : 1 ≤ ahead) (a2 : ahead ≤ 400) (hd : Wl.after d T id = none) (hT : T ≤ 90000) (hnm : nm ≤ 100000) :
    Calls Tryd.prog 7 #[.pointer (some ⟨wb, 0, none⟩), .int .i64 id, .int .i64 ahead] w fun e w' => e = .returned .nilIface ∧ PW C lb wb mb B w' (Wl.upd d id (some (T + ahead))) T (nm + 1) ∧ Below C w w' ∧ w'.heap[lb]? = w.heap[lb]? :=
  (wdstart_yes h id ahead hid a1 a2 hd hT hnm).mono fun e w' hh => ⟨hh.1, pw_of hh.2 hlb hC⟩
theorem pwstop_yes (h : PW C lb wb mb B w d T nm) (hlb : lb < w.heap.size) (hC : C ≤ w.heap.size) (id : Nat) (hd : Wl.after d T id ≠ none) :
    Calls Tryd.prog 10 #[.pointer (some ⟨wb, 0, none⟩), .int .i64 id] w fun e w' => e = .returned .nilIface ∧ PW C lb wb mb B w' (Wl.upd d id none) T nm ∧ Below C w w' ∧ w'.heap[lb]? = w.heap[lb]? :=
  (wdstop_yes h id hd).mono fun e w' hh => ⟨hh.1, pw_of hh.2 hlb hC⟩
theorem pwstop_no (h : PW C lb wb mb B w d T nm) (hlb : lb < w.heap.size) (hC : C ≤ w.heap.size) (id : Int) (hid : -9223372036854775808 ≤ id ∧ id ≤ 9223372036854775807) (hd : id < 0 ∨ Wl.after d T id.toNat = none) :
    Calls Tryd.prog 10 #[.pointer (some ⟨wb, 0, none⟩), .int .i64 id] w fun e w' => e = .returned (errV 5) ∧ PW C lb wb mb B w' d T nm ∧ Below C w w' ∧ w'.heap[lb]? = w.heap[lb]? :=
  (wdstop_no h id hid hd).mono fun e w' hh => ⟨hh.1, PW.grown h hlb hC hh.2 (fun k e => by simp at e), (below_new hh.2).mono hC, hh.2.block lb hlb (by simp)⟩
theorem pwtick (h : PW C lb wb mb B w d T nm) (hlb : lb < w.heap.size) (hC : C ≤ w.heap.size) (hg : w.grownBy wx (some lb)) (hT : T ≤ 90000) :
    Calls Tryd.prog 9 #[.pointer (some ⟨wb, 0, none⟩)] wx fun e w' => ∃ (a : Option Addr) (c : Nat) (rs : List Nat), e = .returned (.slice a rs.length c) ∧ PW C lb wb mb B w' d (T + 1) nm ∧ Ints w' w'.heap.size a rs.length (rs.map fun i : Nat => (i : Int)) ∧ Below C wx w' ∧ w'.heap[lb]? = wx.heap[lb]? ∧ (∀ k, w.heap.size ≤ k → k < wx.heap.size → w'.heap[k]? = wx.heap[k]?) ∧ (∀ y, y ∈ rs ↔ d y = some (T + 1)) ∧ rs.Nodup ∧ rs.Pairwise (· ≤ ·) := by
  have hs := hg.size
  refine (wdtick (h.want hlb hC hg) hT).mono ?_
  rintro e w' ⟨a, c, rs, rfl, h', h1, h2, h3, h4, h5⟩
  obtain ⟨p1, p2, p3⟩ := pw_of h' (by omega) (by omega)
  exact ⟨a, c, rs, rfl, p1, nats_ints h'.row (by omega) (fun x hx => by have := h5 x hx; omega), p2, p3, fun k k1 k2 => h'.bl.block k ⟨.inr (.inr k1), k2⟩, h1, h2, h3⟩
theorem pwleft_yes (h : PW C lb wb mb B w d T nm) (id a : Nat) (hd : Wl.after d T id = some a) (hT : T ≤ 90000) :
    Calls Tryd.prog 12 #[.pointer (some ⟨wb, 0, none⟩), .int .i64 id] w fun e w' => e = .returned (.int .i64 ((a : Int) - T)) ∧ w = w' := wdleft_yes h id a hd hT
theorem pwleft_no (h : PW C lb wb mb B w d T nm) (id : Int) (hid : -1000 ≤ id ∧ id ≤ 1000) (hd : id < 0 ∨ Wl.after d T id.toNat = none) :
    Calls Tryd.prog 12 #[.pointer (some ⟨wb, 0, none⟩), .int .i64 id] w fun e w' => e = .returned (.int .i64 (-1)) ∧ w = w' := by
  obtain ⟨vs, s, D, h1, h2, h3, h4⟩ := h
  have H := Lib.hid h1
  have cm := h1.cellM
  have hhas : Maps.has D (ky id) = false := by
    by_cases h0 : id < 0
    · exact h1.dm.2 id h0
    · rcases hd with hd | hd
      · exact absurd hd h0
      · obtain ⟨i, rfl⟩ : ∃ i : Nat, id = (i : Int) := ⟨id.toNat, by omega⟩
        rw [(h1.dm.1 i).1, h4]
        rw [show ((i : Int)).toNat = i from by omega] at hd
        rw [hd]; rfl
  have hky : keyOf Tryd.prog 3 (.int .i64 id) = some (ky id) := ky_of (by omega)
  clear h1 h2 h3 h4 hd
  go_enter Tryd.func12, Tryd.ntmps12
  go_wp2_with (first | (at_lookup; go_loud (refine wpList_lookup_own_ok_int _ rfl _ _ 38 rfl 3 3 .i64 lawK Tryd.underlying38 Tryd.underlying3 (zeroK _) mb nm D rfl H.out.mp _ _ rfl hky ?_)))
  intro c hc hwc
  clear hc hwc hky
  go_wp2_with fail
  go_ret
  exact ⟨rfl, rfl⟩
end

/-! What the play believes. -/
def Lf (f : Nat → Nat) (d : Nat → Option Nat) (T : Nat) : Prop := ∀ i, (f i = 0 ∧ Wl.after d T i = none) ∨ (i < 20 ∧ 0 < f i ∧ f i ≤ 400 ∧ d i = some (T + f i))
theorem Lf.start : Lf (fun _ => 0) (fun _ => none) 0 := fun i => .inl ⟨rfl, rfl⟩
theorem Lf.le {f : Nat → Nat} {d : Nat → Option Nat} {T : Nat} (h : Lf f d T) (i : Nat) : f i ≤ 400 := by
  rcases h i with h | h <;> omega
theorem Lf.off {f : Nat → Nat} {d : Nat → Option Nat} {T i : Nat} (h : Lf f d T) (h0 : f i = 0) : Wl.after d T i = none := by
  rcases h i with h | h
  · exact h.2
  · omega
theorem Lf.far {f : Nat → Nat} {d : Nat → Option Nat} {T i : Nat} (h : Lf f d T) (h0 : 20 ≤ i) : Wl.after d T i = none := by
  rcases h i with h | h
  · exact h.2
  · omega
theorem Lf.on {f : Nat → Nat} {d : Nat → Option Nat} {T i : Nat} (h : Lf f d T) (h0 : 0 < f i) : Wl.after d T i = some (T + f i) := by
  rcases h i with h | h
  · omega
  · exact Wl.after_some.2 ⟨h.2.2.2, by omega⟩
theorem Lf.put {f : Nat → Nat} {d : Nat → Option Nat} {T i a : Nat} (h : Lf f d T) (hi : i < 20) (h1 : 0 < a) (h2 : a ≤ 400) : Lf (Wl.upd f i a) (Wl.upd d i (some (T + a))) T := fun j => by
  by_cases e : j = i
  · subst e
    right
    rw [Wl.upd_same, Wl.upd_same]
    exact ⟨hi, h1, h2, rfl⟩
  · rw [Wl.upd_other e, Wl.upd_other e, ← Wl.after_upd (by omega), Wl.upd_other e]
    exact h j
theorem Lf.cut {f : Nat → Nat} {d : Nat → Option Nat} {T i : Nat} (h : Lf f d T) : Lf (Wl.upd f i 0) (Wl.upd d i none) T := fun j => by
  by_cases e : j = i
  · subst e
    left
    rw [Wl.upd_same, ← Wl.after_del, Wl.upd_same]
    exact ⟨rfl, rfl⟩
  · rw [Wl.upd_other e, Wl.upd_other e, ← Wl.after_del, Wl.upd_other e]
    exact h j
theorem Lf.tick {f : Nat → Nat} {d : Nat → Option Nat} {T : Nat} (h : Lf f d T) : Lf (fun i => f i - 1) d (T + 1) := fun j => by
  rcases h j with ⟨h1, h2⟩ | ⟨h1, h2, h3, h4⟩
  · left
    refine ⟨by show f j - 1 = 0; omega, Wl.after_none.2 fun a ha => ?_⟩
    have := Wl.after_none.1 h2 a ha
    omega
  · by_cases h5 : f j = 1
    · left
      refine ⟨by show f j - 1 = 0; omega, Wl.after_none.2 fun a ha => ?_⟩
      rw [h4] at ha
      simp only [Option.some.injEq] at ha
      omega
    · right
      refine ⟨h1, by show 0 < f j - 1; omega, by show f j - 1 ≤ 400; omega, ?_⟩
      rw [h4, Option.some.injEq]
      show T + f j = T + 1 + (f j - 1)
      omega
/-- Whom the play expects, among the first n. -/
def due1 (f : Nat → Nat) (n : Nat) : List Nat := (List.range n).filter fun i => f i == 1
theorem due1_zero (f : Nat → Nat) : due1 f 0 = [] := rfl
theorem due1_yes {f : Nat → Nat} {n : Nat} (h : f n = 1) : due1 f (n + 1) = due1 f n ++ [n] := by
  unfold due1; rw [List.range_succ, List.filter_append]; simp [h]
theorem due1_no {f : Nat → Nat} {n : Nat} (h : f n ≠ 1) : due1 f (n + 1) = due1 f n := by
  unfold due1; rw [List.range_succ, List.filter_append]; simp [h]
theorem due1_len (f : Nat → Nat) (n : Nat) : (due1 f n).length ≤ n := by
  have := List.length_filter_le (fun i => f i == 1) (List.range n)
  simpa [due1] using this
theorem due1_mem {f : Nat → Nat} {n y : Nat} : y ∈ due1 f n ↔ y < n ∧ f y = 1 := by simp [due1]
theorem due1_lt (f : Nat → Nat) (n : Nat) : (due1 f n).Pairwise (· < ·) := List.pairwise_lt_range.filter _
theorem same_rise : ∀ {l m : List Nat}, l.Pairwise (· < ·) → m.Pairwise (· < ·) → (∀ y, y ∈ l ↔ y ∈ m) → l = m
  | [], [], _, _, _ => rfl
  | [], b :: m, _, _, h => by have := (h b).2 (by simp); simp at this
  | a :: l, [], _, _, h => by have := (h a).1 (by simp); simp at this
  | a :: l, b :: m, h1, h2, h => by
    rw [List.pairwise_cons] at h1 h2
    have e : a = b := by
      have q1 := (h a).1 (by simp)
      have q2 := (h b).2 (by simp)
      simp only [List.mem_cons] at q1 q2
      rcases q1 with q1 | q1
      · exact q1
      · rcases q2 with q2 | q2
        · exact q2.symm
        · have := h2.1 a q1; have := h1.1 b q2; omega
    subst e
    congr 1
    refine same_rise h1.2 h2.2 fun y => ?_
    constructor
    · intro hy
      have q := (h y).1 (by simp [hy])
      simp only [List.mem_cons] at q
      rcases q with q | q
      · have := h1.1 y hy; omega
      · exact q
    · intro hy
      have q := (h y).2 (by simp [hy])
      simp only [List.mem_cons] at q
      rcases q with q | q
      · have := h2.1 y hy; omega
      · exact q
theorem Lf.due {f : Nat → Nat} {d : Nat → Option Nat} {T : Nat} (h : Lf f d T) {rs : List Nat} (hm : ∀ y, y ∈ rs ↔ d y = some (T + 1)) (hn : rs.Nodup) (hr : rs.Pairwise (· ≤ ·)) : rs = due1 f 20 := by
  have hlt : rs.Pairwise (· < ·) := (hr.and hn).imp fun h => by have := h.1; have := h.2; omega
  refine same_rise hlt (due1_lt _ _) fun y => ?_
  rw [hm, due1_mem]
  rcases h y with ⟨h1, h2⟩ | ⟨h1, h2, h3, h4⟩
  · constructor
    · intro e; have := Wl.after_none.1 h2 _ e; omega
    · intro e; omega
  · rw [h4, Option.some.injEq]
    omega
/-- The play's row: behind the first n steps of a tick. -/
def lfT (f : Nat → Nat) (n : Nat) : Nat → Nat := fun j => if j < n then f j - 1 else f j
theorem lfT_zero (f : Nat → Nat) : lfT f 0 = f := funext fun j => if_neg (by omega)
theorem lfT_at (f : Nat → Nat) (n : Nat) : lfT f n n = f n := if_neg (by omega)
theorem lfT_put (f : Nat → Nat) (n : Nat) : Wl.upd (lfT f n) n (f n - 1) = lfT f (n + 1) := by
  funext j
  by_cases e : j = n
  · subst e; rw [Wl.upd_same]; exact (if_pos (by omega)).symm
  · rw [Wl.upd_other e]
    unfold lfT
    by_cases h : j < n
    · rw [if_pos h, if_pos (by omega)]
    · rw [if_neg h, if_neg (by omega)]
theorem lfT_skip {f : Nat → Nat} {n : Nat} (h : f n = 0) : lfT f n = lfT f (n + 1) := by
  rw [← lfT_put]
  funext j
  by_cases e : j = n
  · subst e; rw [Wl.upd_same, lfT_at, h]
  · rw [Wl.upd_other e]
def lcs (f : Nat → Nat) : List Value := (List.range 20).map fun i => Value.int .i64 ((f i : Nat) : Int)
theorem lcs_at (f : Nat → Nat) {i : Nat} (h : i < 20) : (lcs f)[i]? = some (.int .i64 ((f i : Nat) : Int)) := by
  simp [lcs, h]
theorem lcs_set (f : Nat → Nat) (i v : Nat) : (lcs f).set i (.int .i64 ((v : Nat) : Int)) = lcs (Wl.upd f i v) := by
  apply List.ext_getElem?
  intro j
  rw [List.getElem?_set]
  have hl : ∀ f, (lcs f).length = 20 := fun f => by simp [lcs]
  by_cases e : i = j
  · subst e
    rw [if_pos rfl]
    by_cases h : i < 20
    · rw [if_pos (by rw [hl]; exact h), lcs_at _ h, Wl.upd_same]
    · rw [if_neg (by rw [hl]; exact h), List.getElem?_eq_none (by rw [hl]; omega)]
  · rw [if_neg e]
    by_cases h : j < 20
    · rw [lcs_at _ h, lcs_at _ h, Wl.upd_other (by omega)]
    · rw [List.getElem?_eq_none (by rw [hl]; omega), List.getElem?_eq_none (by rw [hl]; omega)]
theorem lcs_congr {f g : Nat → Nat} (h : ∀ i, i < 20 → f i = g i) : lcs f = lcs g := by
  unfold lcs
  apply List.map_congr_left
  intro i hi
  rw [h i (by simpa using hi)]
theorem lcs_made : (madeCells #[.int .i64 0] (20 * 1)).toList = lcs (fun _ => 0) := by kernel_rfl
theorem made_obj {w : World} {B T size n g : Nat} {xs : List Value} (h : w.ownsRow B T size (.slice (some ⟨g, 0, none⟩) n n) n xs) : Obj w g T xs := by
  rcases h.2 with ⟨h', _⟩ | ⟨g', cap', cur, h', hb, hg, _, _, hs, htake⟩
  · simp at h'
  · simp only [Value.slice.injEq, Option.some.injEq, Addr.mk.injEq, and_true, true_and] at h'
    obtain ⟨rfl, rfl⟩ := h'
    rw [List.take_of_length_le (by simp [hs])] at htake
    subst htake
    show _ = _
    simpa using hg
end Go.Proofs.YtmmoolcnpbebhaaDoor
