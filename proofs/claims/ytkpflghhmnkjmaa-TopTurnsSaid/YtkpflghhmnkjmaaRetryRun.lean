/- The contract of retry.Run: no one sends twice. -/
import Derived.Test.YtkpflghhmnkjmaaRetryW
import Derived.StillTail
import Derived.StillTailTactics
import Derived.BigQuiet
import Derived.Deep.QuietTactic
namespace Go.Proofs.Ytkpflghhmnkjmaa
open Go.RowKit
set_option linter.unusedSimpArgs false
set_option linter.unusedVariables false

theorem retry_no (a : Option Addr) (len cap : Nat) (n : Int) (zs : List Int) (B : Nat) (w : World) (hI : Ints w B a len zs) (h : (n < 1 ∨ 5 < n) ∨ 200 < len ∨ ∃ k, k < len ∧ (zs.getD k 0 < 0 ∨ 1000 < zs.getD k 0)) :
    Calls Try.prog 16 #[.int .i64 n, .slice a len cap] w fun e w' => (∃ k, e = .returned (.tuple #[.slice none 0 0, .slice none 0 0, errV k])) ∧ w = w' := by
  have hroom := hI.room
  by_cases h1 : n < 1 ∨ 5 < n
  · clear h hI
    have H := Lib.hid h1; clear h1
    go_enter Try.func16, Try.ntmps16
    go_wp2_with fail
    refine (within_out _ _ _ _ H.out).mono ?_
    rintro e w' ⟨rfl, rfl⟩
    go_wp2
    go_ret3
    exact ⟨⟨1, rfl⟩, rfl⟩
  · have n1 : 1 ≤ n := by omega
    have n2 : n ≤ 5 := by omega
    by_cases h2 : 200 < len
    · clear h h1 hI
      go_enter Try.func16, Try.ntmps16
      go_wp2_with fail
      refine (within_in _ _ _ _ n1 n2).mono ?_
      rintro e w' ⟨rfl, rfl⟩
      go_wp2
      go_ret3
      exact ⟨⟨4, rfl⟩, rfl⟩
    · have h3 : ∃ k, k < len ∧ (zs.getD k 0 < 0 ∨ 1000 < zs.getD k 0) := by
        rcases h with h | h | h
        · exact absurd h h1
        · omega
        · exact h
      have H := Lib.hid h3
      have HI := Lib.hid hI
      clear h h1 h3 hI
      go_enter Try.func16, Try.ntmps16
      go_wp2_with fail
      refine (within_in _ _ _ _ n1 n2).mono ?_
      rintro e w' ⟨rfl, rfl⟩
      go_wp2_with fail
      refine (all_no _ _ _ _ _ _ _ _ HI.out H.out).mono ?_
      rintro e w' ⟨rfl, rfl⟩
      go_wp2
      go_ret3
      exact ⟨⟨1, rfl⟩, rfl⟩

theorem infoS : (Try.prog.info? 50).map (fun i => (i.zero, i.size, i.bytes)) = some (some (.agg #[.int .i64 0, .int .i64 0]), 2, 16) := by kernel_rfl
theorem made_obj {w : World} {B T size n g : Nat} {xs : List Value} (h : w.ownsRow B T size (.slice (some ⟨g, 0, none⟩) n n) n xs) : Obj w g T xs := by
  rcases h.2 with ⟨h', _⟩ | ⟨g', cap', cur, h', hb, hg, _, _, hs, htake⟩
  · simp at h'
  · simp only [Value.slice.injEq, Option.some.injEq, Addr.mk.injEq, and_true, true_and] at h'
    obtain ⟨rfl, rfl⟩ := h'
    rw [List.take_of_length_le (by simp [hs])] at htake
    subst htake
    show _ = _
    simpa using hg
theorem made_flat1 : (madeCells #[.int .i64 0, .int .i64 0] (1 * 2)).toList = flatI (List.replicate 1 (0, 0)) := by kernel_rfl
theorem made_flat2 : (madeCells #[.int .i64 0, .int .i64 0] (2 * 2)).toList = flatI (List.replicate 2 (0, 0)) := by kernel_rfl
theorem made_flat3 : (madeCells #[.int .i64 0, .int .i64 0] (3 * 2)).toList = flatI (List.replicate 3 (0, 0)) := by kernel_rfl
theorem made_flat4 : (madeCells #[.int .i64 0, .int .i64 0] (4 * 2)).toList = flatI (List.replicate 4 (0, 0)) := by kernel_rfl
theorem made_flat5 : (madeCells #[.int .i64 0, .int .i64 0] (5 * 2)).toList = flatI (List.replicate 5 (0, 0)) := by kernel_rfl
theorem made_flat {n : Nat} (h1 : 1 ≤ n) (h5 : n ≤ 5) : (madeCells #[.int .i64 0, .int .i64 0] (n * 2)).toList = flatI (List.replicate n (0, 0)) := by
  have : n = 1 ∨ n = 2 ∨ n = 3 ∨ n = 4 ∨ n = 5 := by omega
  rcases this with rfl | rfl | rfl | rfl | rfl
  · exact made_flat1
  · exact made_flat2
  · exact made_flat3
  · exact made_flat4
  · exact made_flat5
/-- One station alone. -/
def One (n slot : Nat) (who sl : List Nat) (ps : List (Int × Int)) : Prop := n = 1 → (who = [] ∧ sl = [] ∧ slot = 0 ∧ ps = [(0, 0)]) ∨ (who = [0] ∧ sl = [0])
theorem One.start (n : Nat) : One n 0 [] [] (List.replicate n (0, 0)) := fun e => .inl ⟨rfl, rfl, rfl, by rw [e]; rfl⟩
theorem One.nows {n slot : Nat} {who sl : List Nat} {ps : List (Int × Int)} (h : One n slot who sl ps) (hw : who.length < n) (e : n = 1) : nows ps n = [0] ∧ who = [] ∧ sl = [] ∧ slot = 0 := by
  rcases h e with ⟨h1, h2, h3, h4⟩ | ⟨h1, h2⟩
  · subst e; rw [h4]; exact ⟨rfl, h1, h2, h3⟩
  · rw [h1] at hw; simp at hw; omega
theorem nats_at {l : List Nat} {k : Nat} (h : k < l.length) : (nats l)[k]? = some (.int .i64 ((l.getD k 0 : Nat) : Int)) := by
  simp [nats, List.getD_eq_getElem?_getD, h]
theorem getD_mem {l : List Nat} {k : Nat} (h : k < l.length) : l.getD k 0 ∈ l := by
  simp [List.getD_eq_getElem?_getD, h]
theorem form_of {w : World} {B T size n : Nat} {v : Value} {xs : List Value} (h : w.ownsRow B T size v n xs) : ∃ a c, v = .slice a n c := by
  rcases h.2 with ⟨h1, h2⟩ | ⟨g, c, cur, h1, _⟩
  · exact ⟨none, 0, by rw [h1, h2]⟩
  · exact ⟨_, c, h1⟩
theorem own_cell {w : World} {B T n : Nat} {a : Option Addr} {c : Nat} {xs : List Value} (h : w.ownsRow B T 1 (.slice a n c) n xs) {k : Nat} (hk : k < n) : ∃ g, a = some ⟨g, 0, none⟩ ∧ w.cell? ⟨g, k, none⟩ = xs[k]? := by
  obtain ⟨g, c', hv, hcel, _⟩ := Cel.form h (by omega)
  obtain ⟨rfl, rfl⟩ : a = some ⟨g, 0, none⟩ ∧ c = c' := by simpa using hv
  exact ⟨g, rfl, hcel.cell k (by have := h.1; omega)⟩

theorem nats_ints {w : World} {B c : Nat} {a : Option Addr} {l : List Nat} (h : w.ownsRow B 3 1 (.slice a l.length c) l.length (nats l)) (hl : l.length ≤ 100000) (hm : ∀ x ∈ l, x ≤ 100000) : Ints w w.heap.size a l.length (l.map fun i : Nat => (i : Int)) := by
  rcases Nat.eq_zero_or_pos l.length with h0 | h0
  · have e : l = [] := List.eq_nil_of_length_eq_zero h0
    subst e
    exact ⟨rfl, by simp, by intro k hk; simp at hk, by intro k; simp⟩
  · obtain ⟨g, c', hv, hcel, _⟩ := Cel.form h h0
    obtain ⟨rfl, rfl⟩ : a = some ⟨g, 0, none⟩ ∧ c = c' := by simpa using hv
    have e : nats l = (l.map fun i : Nat => (i : Int)).map (.int .i64) := by simp [nats]
    rw [e] at hcel
    refine hcel.ints (by simp) hl (fits_of (M := 100000) (by decide) (fun x hx => ?_))
    obtain ⟨y, hy, rfl⟩ := List.mem_map.1 hx
    have := hm y hy; omega
theorem cut_ints {w : World} {B b off len m : Nat} {zs : List Int} (h : Ints w B (some ⟨b, off, none⟩) len zs) (hm : m ≤ len) : Ints w B (some ⟨b, off + m, none⟩) (len - m) (zs.drop m) := by
  refine ⟨by rw [List.length_drop, h.size], by have := h.room; omega, fun k hk => ?_, fun k => ?_⟩
  · obtain ⟨b', off', he, h1, h2⟩ := h.cell (m + k) (by omega)
    simp only [Option.some.injEq, Addr.mk.injEq, and_true] at he
    obtain ⟨rfl, rfl⟩ := he
    refine ⟨b, off + m, rfl, h1, ?_⟩
    rw [show off + m + k = off + (m + k) from by omega, h2]
    simp [List.getD_eq_getElem?_getD]
  · have := h.fits (m + k)
    simpa [List.getD_eq_getElem?_getD] using this

set_option maxHeartbeats 16000000 in
set_option maxRecDepth 100000 in
theorem retry_yes (n : Nat) (a : Option Addr) (len cap : Nat) (zs : List Int) (w : World) (hI : Ints w w.heap.size a len zs) (hcap : len ≤ cap) (n1 : 1 ≤ n) (n5 : n ≤ 5) (hl : len ≤ 200) (hz : ∀ k, k < len → 0 ≤ zs.getD k 0 ∧ zs.getD k 0 ≤ 1000) :
    Calls Try.prog 16 #[.int .i64 n, .slice a len cap] w fun e w' => ∃ (who sl : List Nat) (a1 a2 : Option Addr) (c1 c2 : Nat), e = .returned (.tuple #[.slice a1 who.length c1, .slice a2 sl.length c2, .nilIface]) ∧
      sl.length = who.length ∧ who.length ≤ n ∧ who.Nodup ∧ (∀ i ∈ who, i < n) ∧ (n = 1 → who = [0] ∧ sl = [0]) ∧ Ints w' w'.heap.size a1 who.length (who.map fun i : Nat => (i : Int)) ∧ Ints w' w'.heap.size a2 sl.length (sl.map fun i : Nat => (i : Int)) ∧ Below w.heap.size w w' := by
  have HI := Lib.hid hI; clear hI
  have HZ := Lib.hid hz; clear hz
  obtain ⟨i0, hi, hz0, hz1, hz2⟩ := info_parts risInt
  obtain ⟨i1, hi', hz0', hz1', hz2'⟩ := info_parts infoS
  go_enter Try.func16, Try.ntmps16
  go_wp2_with fail
  refine (within_in _ _ _ _ (by omega) (by omega)).mono ?_
  rintro e w' ⟨rfl, rfl⟩
  go_wp2_with fail
  refine (all_yes _ _ _ _ _ _ _ _ HI.out HZ.out).mono ?_
  rintro e w' ⟨rfl, rfl⟩
  go_wp2_with (first | (at_make; go_loud (refine wpList_make_full _ rfl _ _ 48 rfl w.heap.size 50 i1 (.agg #[.int .i64 0, .int .i64 0]) 2 Try.underlying48 hi' hz0' hz1' .i64 .i64 _ _ n rfl rfl rfl rfl (by rw [hz2']; omega) (by unfold maxLen; omega) (Nat.le_refl _) ?_)))
  intro w1 hown hgr
  rw [made_flat n1 n5] at hown
  have hobj := made_obj hown
  have hw1 := hobj.lt
  have S0 : Hid (TS w w.heap.size w1.heap.size w1 (.slice none 0 0) (.slice none 0 0) [] [] (List.replicate n (0, 0))) :=
    ⟨Nat.le_refl _, hw1, Nat.le_refl _, hobj, World.ownsRow_nil _ _ _ _, World.ownsRow_nil _ _ _ _, fun g e => by simp [Value.ownBlock] at e, below_new hgr⟩
  have T0 := Lib.hid (TI.start n)
  have O0 := Lib.hid (One.start n)
  obtain ⟨sb, hsb⟩ : ∃ sb, sb = w.heap.size := ⟨_, rfl⟩
  obtain ⟨B, hB⟩ : ∃ B, B = w1.heap.size := ⟨_, rfl⟩
  have hsB : sb < B := by omega
  rw [← hB, ← hsb] at S0
  have HSB := Lib.hid hsb
  clear hown hgr hobj hw1 hB hsb
  go_wp2_with fail
  have e0 : w.heap.size = sb := HSB.out.symm
  rw [e0]
  clear e0
  go_loopw [1, 4, 5, 8] (fun v1 v4 v5 v8 wr => ∃ (slot : Nat) (who sl : List Nat) (ps : List (Int × Int)) (a1 a2 pa : Option Addr) (c1 c2 pl pc : Nat) (pz : List Int), v8 = .int .i64 slot ∧ slot ≤ 1001 ∧ v4 = .slice a1 who.length c1 ∧ v5 = .slice a2 sl.length c2 ∧ v1 = .slice pa pl pc ∧ pl ≤ pc ∧ pl ≤ 200 ∧ Ints w w.heap.size pa pl pz ∧ Hid (∀ k, k < pl → 0 ≤ pz.getD k 0 ∧ pz.getD k 0 ≤ 1000) ∧ TI n slot who sl ps (5 * slot) ∧ One n slot who sl ps ∧ TS w sb B wr (.slice a1 who.length c1) (.slice a2 sl.length c2) who sl ps) (fun _ _ _ v8 _ => 1001 - (intOf v8).toNat)
  case atStart => exact ⟨0, [], [], _, none, none, a, 0, 0, len, cap, zs, rfl, by omega, rfl, rfl, rfl, hcap, hl, HI.out, HZ, T0.out, O0.out, S0.out⟩
  case round =>
    clear S0 T0 O0
    obtain ⟨slot, who, sl, ps, a1, a2, pa, c1, c2, pl, pc, pz, rfl, hs, rfl, rfl, rfl, hpc, hpl, hPI, HPZ, hT, hO, hS⟩ := hrel
    have PI := Lib.hid hPI; clear hPI
    have T := Lib.hid hT; clear hT
    have O := Lib.hid hO; clear hO
    have S := Lib.hid hS; clear hS
    have hwl := T.out.wl
    have hln := T.out.ln
    have HLN := Lib.hid hln; clear hln
    by_cases hlt : who.length < n ∧ slot ≤ 1000
    · obtain ⟨hl1, hl2⟩ := hlt
      obtain ⟨wo, hwo⟩ : ∃ wo : World, wo = wr := ⟨_, rfl⟩
      subst hwo
      have hd1 : decide ((slot : Int) ≤ 1000) = true := by simp; omega
      have hBn := S.out.b3
      have HV1 : Hid (∀ g, Value.ownBlock (.slice a1 who.length c1) = some g → g < wo.heap.size) := fun g e => (S.out.wh.lt g e).2
      have HV2 : Hid (∀ g, Value.ownBlock (.slice a2 sl.length c2) = some g → g < wo.heap.size) := fun g e => (S.out.so.lt g e).2
      have S1 : Hid (TS w sb B wo (.slice a1 who.length c1) (.slice a2 sl.length c2) who sl (decs ps 0)) := S.out
      clear S
      go_wp2_with fail
      go_loopw [9, 39] (fun v9 v39 wx => ∃ (i : Nat) (a9 : Option Addr) (c9 : Nat), i ≤ n ∧ v39 = .int .i64 i ∧ v9 = .slice a9 (nows ps i).length c9 ∧ wx.ownsRow wo.heap.size 3 1 (.slice a9 (nows ps i).length c9) (nows ps i).length (nats (nows ps i)) ∧ wo.heap.size ≤ wx.heap.size ∧ TS w sb B wx (.slice a1 who.length c1) (.slice a2 sl.length c2) who sl (decs ps i)) (fun _ v39 _ => n - (intOf v39).toNat)
      case atStart => exact ⟨0, none, 0, by omega, rfl, rfl, World.ownsRow_nil _ _ _ _, Nat.le_refl _, S1.out⟩
      case round =>
        clear S1
        obtain ⟨i, a9, c9, hin, rfl, rfl, hown, hsz, hS⟩ := hrel
        have OW := Lib.hid hown; clear hown
        have S := Lib.hid hS; clear hS
        have hnl := nows_len ps i
        by_cases hil : i < n
        · have hpl2 : i < ps.length := by rw [T.out.pl]; exact hil
          have hbd := T.out.bd i hil
          have hc := S.out.st.cell (i * 2 + 1)
          rw [(flatI_at (decs ps i) i (by rw [decs_len]; exact hpl2)).2, decs_get hpl2, if_neg (Nat.lt_irrefl _)] at hc
          have hf := S.out.st.free (i * 2 + 1)
          have hns := nows_step ps i
          have NS := Lib.hid hns; clear hns
          have ht1 : decide ((i : Int) < (n : Int)) = true := by simp; omega
          by_cases hz : (ps.getD i (0, 0)).2 = 0
          · have DS : Hid (decs ps i = decs ps (i + 1)) := decs_stay hpl2 (by omega)
            have NS := Lib.hid (NS.out.trans (if_pos hz))
            rw [hz] at hc
            clear hz hbd hpl2
            go_wp2_with (first | (at_builtin; go_loud (refine wpList_append_lies _ rfl _ _ 22 rfl wo.heap.size 3 i0 (.int .i64 0) 1 8 Try.underlying22 hi hz0 hz1 hz2 rfl (by decide) _ _ _ rfl (OW.out.alloc _) ⟨wr.heap.size, 0, none⟩ 1 1 [.int .i64 i] rfl rfl (cell_one_new _ _ _) (by intro u hu; simp at hu; subst hu; rfl) (by decide) (by unfold maxLen; omega) (by omega) (by simp; omega) _ rfl ?_)))
            intro g8 c8 w4 hown1 hgrow1 hat1 hlt1
            have OW2 : Hid (w4.ownsRow wo.heap.size 3 1 (.slice (some ⟨g8, 0, none⟩) (nows ps (i + 1)).length c8) (nows ps (i + 1)).length (nats (nows ps (i + 1)))) := by
              show World.ownsRow _ _ _ _ _ _ _
              rw [NS.out]
              simpa [nats] using hown1
            have hlt2 := OW.out.lt
            have S2 : Hid (TS w sb B w4 (.slice a1 who.length c1) (.slice a2 sl.length c2) who sl (decs ps (i + 1))) := by
              show TS _ _ _ _ _ _ _ _ _
              rw [← DS.out]
              refine (S.out.alloc _).other hgrow1 (fun g e => ?_) (fun g e e' => ?_) (fun g e e' => ?_)
              · have := (hlt2 g e).1; omega
              · have := (hlt2 g e).1; have := HV1.out g e'; omega
              · have := (hlt2 g e).1; have := HV2.out g e'; omega
            have hsz2 : wo.heap.size ≤ w4.heap.size := by have := hgrow1.size; simp at this; omega
            have hnn : (nows ps (i + 1)).length = (nows ps i).length + 1 := by rw [NS.out]; simp
            have HNN := Lib.hid hnn; clear hnn
            clear hown1 hgrow1 hat1 hlt1 hlt2 hc hf
            go_wp2_with fail
            go_roundw
            case rel => exact ⟨i + 1, some ⟨g8, 0, none⟩, c8, by omega, by go_num, by rw [HNN.out], OW2.out, hsz2, S2.out⟩
            case measure => simp [intOf]; omega
          · have NE := Lib.hid (NS.out.trans (if_neg hz))
            clear NS
            have hzb : ((ps.getD i (0, 0)).2 == 0) = false := by simpa using hz
            by_cases hp : 0 < (ps.getD i (0, 0)).2
            · have DS : Hid ((decs ps i).set i ((ps.getD i (0, 0)).1, (ps.getD i (0, 0)).2 - 1) = decs ps (i + 1)) := decs_step hpl2 _ (by unfold dec1; rw [if_pos hp])
              have FS : Hid ((flatI (decs ps i)).set (i * 2 + 1) (.int .i64 ((ps.getD i (0, 0)).2 - 1)) = flatI (decs ps (i + 1))) := by
                have := (flatI_set (decs ps i) i (by rw [decs_len]; exact hpl2) 0 ((ps.getD i (0, 0)).2 - 1)).2
                rw [decs_get hpl2, if_neg (Nat.lt_irrefl _), DS.out] at this
                exact this
              have S2 := Lib.hid (S.out.put (i * 2 + 1) ((ps.getD i (0, 0)).2 - 1) FS.out)
              have OW2 := Lib.hid (ownsRow_setCell_below OW.out (a := ⟨sb, i * 2 + 1, none⟩) (by show sb < wo.heap.size; omega) (.int .i64 ((ps.getD i (0, 0)).2 - 1)))
              clear DS FS hz hpl2
              generalize (ps.getD i (0, 0)).2 = wv at *
              go_wp2_with fail
              go_roundw
              case rel => exact ⟨i + 1, a9, c9, by omega, by go_num, by rw [NE.out], by rw [NE.out]; exact OW2.out, by simpa using hsz, S2.out⟩
              case measure => simp [intOf]; omega
            · have DS : Hid (decs ps i = decs ps (i + 1)) := decs_stay hpl2 hp
              have hp2 : (ps.getD i (0, 0)).2 ≤ 0 := by omega
              clear hz hpl2 hp
              generalize (ps.getD i (0, 0)).2 = wv at *
              go_wp2_with fail
              go_roundw
              case rel => exact ⟨i + 1, a9, c9, by omega, by go_num, by rw [NE.out], by rw [NE.out]; exact OW.out, hsz, by rw [← DS.out]; exact S.out⟩
              case measure => simp [intOf]; omega
        · have hie : n = i := by omega
          subst hie
          obtain ⟨nw, hnw⟩ : ∃ nw, nw = nows ps n := ⟨_, rfl⟩
          rw [← hnw] at OW hnl ⊢
          have NW := Lib.hid hnw
          clear hnw hil hin
          by_cases h1 : nw.length = 1
          · obtain ⟨x, rfl⟩ : ∃ x, nw = [x] := List.length_eq_one_iff.1 h1
            obtain ⟨htx, hxn⟩ := T.out.sends NW.out.symm
            have TX := Lib.hid htx; clear htx
            obtain ⟨g, rfl, hgc⟩ := own_cell OW.out (k := 0) (by simp)
            simp only [nats, List.map_cons, List.map_nil, List.getElem?_cons_zero, List.length_cons, List.length_nil] at hgc OW h1 ⊢
            have hgb := (OW.out.lt g rfl)
            have hps : x < (decs ps n).length := by rw [decs_len, T.out.pl]; exact hxn
            clear h1 hnl
            go_wp2_with (first | (at_builtin; go_loud (refine wpList_append_lies _ rfl _ _ 22 rfl B 3 i0 (.int .i64 0) 1 8 Try.underlying22 hi hz0 hz1 hz2 rfl (by decide) _ _ _ rfl (S.out.wh.alloc _) ⟨wr.heap.size, 0, none⟩ 1 1 [.int .i64 x] rfl rfl (cell_one_new _ _ _) (by intro u hu; simp at hu; subst hu; rfl) (by decide) (by unfold maxLen; omega) (by omega) (by have := S.out.b3; simp; omega) _ rfl ?_)))
            intro g4 d4 w4 hown1 hgrow1 hat1 hlt1
            have S4 := Lib.hid ((S.out.alloc _).app1 x hown1 hgrow1 (by simpa using hat1))
            have OW4 := Lib.hid (own_keep (OW.out.alloc _) hgrow1 (fun g' e e' => by have := HV1.out g' e'; have := (OW.out.lt g' e).1; omega))
            clear hown1 hgrow1 hat1 hlt1 S OW
            go_wp2_with (first | (at_builtin; go_loud (refine wpList_append_lies _ rfl _ _ 22 rfl B 3 i0 (.int .i64 0) 1 8 Try.underlying22 hi hz0 hz1 hz2 rfl (by decide) _ _ _ rfl (S4.out.so.alloc _) ⟨w4.heap.size, 0, none⟩ 1 1 [.int .i64 slot] rfl rfl (cell_one_new _ _ _) (by intro u hu; simp at hu; subst hu; rfl) (by decide) (by have := HLN.out; unfold maxLen; omega) (by have := HLN.out; omega) (by have := S4.out.b3; simp; omega) _ rfl ?_)))
            intro g5 d5 w5 hown1 hgrow1 hat1 hlt1
            have S5 := Lib.hid ((S4.out.alloc _).app2 slot hown1 hgrow1 (by simpa using hat1))
            have OW5 := Lib.hid (own_keep (OW4.out.alloc _) hgrow1 (fun g' e e' => by have := HV2.out g' e'; have := (OW4.out.lt g' e).1; omega))
            clear hown1 hgrow1 hat1 hlt1 S4 OW4 hgc
            obtain ⟨g', hge, hgc⟩ := own_cell OW5.out (k := 0) (by simp)
            obtain rfl : g' = g := by simpa using hge.symm
            simp only [List.getElem?_cons_zero] at hgc
            clear hge
            have hc := S5.out.st.cell (x * 2 + 1)
            rw [(flatI_at (decs ps n) x hps).2] at hc
            have hf := S5.out.st.free (x * 2 + 1)
            have S6 := Lib.hid (S5.out.put (x * 2 + 1) (-1) (flatI_set (decs ps n) x hps 0 (-1)).2)
            have hO2 : One n (slot + 1) (who ++ [x]) (sl ++ [slot]) ((decs ps n).set x (((decs ps n).getD x (0, 0)).1, -1)) := fun e => by
              obtain ⟨e1, e2, e3, e4⟩ := O.out.nows hl1 e
              rw [← NW.out] at e1
              right
              rw [e2, e3, e4]
              simpa using e1
            have O2 := Lib.hid hO2; clear hO2
            have TX2 := Lib.hid (TX.out.more (m' := 5 * (slot + 1)) (by omega) (Nat.le_refl _))
            clear TX S5 OW5
            go_wp2_with fail
            go_roundw
            case rel => exact ⟨slot + 1, who ++ [x], sl ++ [slot], _, some ⟨g4, 0, none⟩, some ⟨g5, 0, none⟩, pa, d4, d5, pl, pc, pz, by go_num, by omega, by simp, by simp, rfl, hpc, hpl, PI.out, HPZ, TX2.out, O2.out, by rw [show (who ++ [x]).length = who.length + 1 from by simp, show (sl ++ [slot]).length = sl.length + 1 from by simp]; exact S6.out⟩
            case measure => simp [intOf]; omega
          · have hn1 : n ≠ 1 := fun e => h1 (by rw [NW.out, (O.out.nows hl1 e).1]; rfl)
            have h1b : ((nw.length : Int) == 1) = false := by simp; omega
            by_cases hp : pl < nw.length
            · have W1 := Lib.hid (nats_ints S.out.wh (by omega) (fun y hy => by have := T.out.wn y hy; omega))
              have W2 := Lib.hid (nats_ints S.out.so (by have := HLN.out; omega) (fun y hy => by have := T.out.ls y hy; omega))
              have BL := Lib.hid S.out.bl
              clear S OW
              go_wp2_with fail
              go_ret3
              exact ⟨who, sl, a1, a2, c1, c2, rfl, HLN.out, hwl, T.out.nd, T.out.wn, fun e => absurd e hn1, W1.out, W2.out, BL.out⟩
            · have hp2 : nw.length ≤ pl := by omega
              have T1 : Hid (TI n slot who sl (decs ps n) (5 * slot + 0)) := T.out.tick
              have NM : Hid (∀ y ∈ nw, y < n ∧ y ∉ who) := fun y hy => by
                rw [NW.out] at hy
                obtain ⟨e1, e2⟩ := nows_mem hy
                exact ⟨e1, fun hm => by have := T.out.wm y hm; omega⟩
              have hp3 : decide (pl < nw.length) = false := by simp; omega
              clear hp h1
              go_wp2_with fail
              go_loopw [93] (fun v93 wx => ∃ (k : Nat) (qs : List (Int × Int)), k ≤ nw.length ∧ v93 = .int .i64 k ∧ TI n slot who sl qs (5 * slot + k) ∧ TS w sb B wx (.slice a1 who.length c1) (.slice a2 sl.length c2) who sl qs ∧ wx.ownsRow wo.heap.size 3 1 (.slice a9 nw.length c9) nw.length (nats nw)) (fun v93 _ => nw.length - (intOf v93).toNat)
              case atStart => exact ⟨0, _, by omega, rfl, T1.out, S.out, OW.out⟩
              case round =>
                clear S OW T1
                obtain ⟨k, qs, hk, rfl, hTk, hS, hown⟩ := hrel
                have TK := Lib.hid hTk; clear hTk
                have S := Lib.hid hS; clear hS
                have OW := Lib.hid hown; clear hown
                by_cases hkl : k < nw.length
                · obtain ⟨g, rfl, hgc⟩ := own_cell OW.out hkl
                  rw [nats_at hkl] at hgc
                  obtain ⟨hyn, hyw⟩ := NM.out _ (getD_mem hkl)
                  generalize nw.getD k 0 = y at *
                  have HYW := Lib.hid hyw; clear hyw
                  have hyl : y < qs.length := by rw [TK.out.pl]; exact hyn
                  obtain ⟨u1, u2, u3, u4⟩ := TK.out.bd y hyn
                  have hc0 := S.out.st.cell (y * 2)
                  rw [(flatI_at qs y hyl).1] at hc0
                  have hf0 := S.out.st.free (y * 2)
                  obtain ⟨mt, hmt⟩ : ∃ mt, mt = (qs.getD y (0, 0)).1 := ⟨_, rfl⟩
                  rw [← hmt] at hc0 u1 u2
                  have S2 := Lib.hid (S.out.put (y * 2) (mt + 1) (flatI_set qs y hyl (mt + 1) 0).1)
                  have hq2 : y < (qs.set y (mt + 1, (qs.getD y (0, 0)).2)).length := by rw [List.length_set]; exact hyl
                  have hx0 := S2.out.st.cell (y * 2)
                  have hx1 := S2.out.st.cell (y * 2 + 1)
                  rw [(flatI_at _ y hq2).1, getD_set hyl, if_pos rfl] at hx0
                  rw [(flatI_at _ y hq2).2, getD_set hyl, if_pos rfl] at hx1
                  have hxf := S2.out.st.free (y * 2 + 1)
                  obtain ⟨pb, poff, rfl, hpb, hpcell⟩ := PI.out.cell k (by omega)
                  obtain ⟨z0, z1⟩ := HPZ.out k (by omega)
                  have hpk := (S2.out.bl.cell (p := ⟨pb, poff + k, none⟩) hpb).trans hpcell
                  have WN := Lib.hid (fun w' => window_is (mt + 1) w' (by omega) (by omega))
                  obtain ⟨v1, v2⟩ := winOf_in (mt + 1)
                  generalize winOf (mt + 1) = wv at *
                  generalize pz.getD k 0 = z at *
                  have r0 : 0 ≤ z % wv := Int.emod_nonneg _ (by omega)
                  have r1 : z % wv < wv := Int.emod_lt_of_pos _ (by omega)
                  have TK2 := Lib.hid (TK.out.picks hyn HYW.out (a := mt + 1) (b := z % wv) (by omega) (by omega) r0 (by omega))
                  have S3 := Lib.hid (S2.out.put (y * 2 + 1) (z % wv) (flatI_set _ y hq2 0 (z % wv)).2)
                  rw [getD_set hyl, if_pos rfl, List.set_set] at S3
                  have OW3 := Lib.hid (ownsRow_setCell_below (ownsRow_setCell_below OW.out (a := ⟨sb, y * 2, none⟩) (by show sb < wo.heap.size; omega) (.int .i64 (mt + 1))) (a := ⟨sb, y * 2 + 1, none⟩) (by show sb < wo.heap.size; omega) (.int .i64 (z % wv)))
                  have hw0 : ¬ wv = 0 := by omega
                  have htm : z.tmod wv = z % wv := Int.tmod_eq_emod_of_nonneg z0
                  have q1 : (0 : Int) ≤ (y : Int) := by omega
                  have q2 : (y : Int) < (n : Int) := by omega
                  have q3 : (0 : Int) ≤ (k : Int) := by omega
                  have q4 : (k : Int) < (pl : Int) := by omega
                  clear hpcell hmt u3 u4 TK HYW S S2 OW hq2 hyl
                  go_wp2_with fail
                  generalize wr.setCell ⟨sb, y * 2, none⟩ (.int .i64 (mt + 1)) = W2 at *
                  clear hc0 hf0
                  refine wp_region_still_tail 15 (by kernel_rfl) (by kernel_rfl) ?_
                  simp only [List.take_succ_cons, List.take_zero, List.drop_succ_cons, List.drop_zero]
                  repeat still_step
                  still_call ((WN.out _).mono fun _ _ h => ⟨h.1, h.2.symm⟩)
                  repeat still_step
                  refine wpStill_nil ?_
                  change wpList _ _ _ _ _ W2.drew
                  go_wp2_with fail
                  go_roundw
                  case rel => exact ⟨k + 1, _, by omega, by go_num, TK2.out, S3.out.drewN 1, OW3.out.drew⟩
                  case measure => simp [intOf]; omega
                · obtain ⟨m, hm⟩ : ∃ m, m = nw.length := ⟨_, rfl⟩
                  have hkm : k = m := by omega
                  have TK3 := Lib.hid (TK.out.more (m' := 5 * (slot + 1)) (slot' := slot + 1) (by omega) (by omega))
                  have hO2 : One n (slot + 1) who sl qs := fun e => absurd e hn1
                  have O2 := Lib.hid hO2
                  clear OW TK hO2 hkl hk
                  rw [← hm] at hp2 h1b ⊢
                  clear hm
                  subst hkm
                  rcases Nat.eq_zero_or_pos pl with hp0 | hp0
                  · subst hp0
                    obtain rfl : k = 0 := by omega
                    go_wp2_with fail
                    go_roundw
                    case rel => exact ⟨slot + 1, who, sl, qs, a1, a2, pa, c1, c2, 0, pc, pz, by go_num, by omega, rfl, rfl, by first | rfl | simp, hpc, hpl, PI.out, HPZ, TK3.out, O2.out, S.out⟩
                    case measure => simp [intOf]; omega
                  · obtain ⟨pb, poff, rfl, hpb, hpcell⟩ := PI.out.cell 0 (by omega)
                    have CI := Lib.hid (cut_ints PI.out hp2)
                    have CZ : Hid (∀ j, j < pl - k → 0 ≤ (pz.drop k).getD j 0 ∧ (pz.drop k).getD j 0 ≤ 1000) := fun j hj => by
                      have := HPZ.out (k + j) (by omega)
                      simpa [List.getD_eq_getElem?_getD] using this
                    clear hpcell
                    by_cases hkc : k = pc
                    · have hpe : pl = k := by omega
                      subst hkc
                      subst hpe
                      have NI : Hid (Ints w w.heap.size (some ⟨pb, poff, none⟩) 0 []) := ⟨rfl, by omega, by intro j hj; omega, by intro j; simp⟩
                      clear CI CZ
                      go_wp2_with fail
                      go_roundw
                      case rel => exact ⟨slot + 1, who, sl, qs, a1, a2, some ⟨pb, poff, none⟩, c1, c2, 0, 0, [], by go_num, by omega, rfl, rfl, by first | rfl | simp, by omega, by omega, NI.out, fun j hj => by omega, TK3.out, O2.out, S.out⟩
                      case measure => simp [intOf]; omega
                    · have hkc2 : k < pc := by omega
                      go_wp2_with fail
                      go_roundw
                      case rel => exact ⟨slot + 1, who, sl, qs, a1, a2, some ⟨pb, poff + k, none⟩, c1, c2, pl - k, pc - k, pz.drop k, by go_num, by omega, rfl, rfl, by first | rfl | simp, by omega, by omega, CI.out, CZ, TK3.out, O2.out, S.out⟩
                      case measure => simp [intOf]; omega
    · have h0 : One n slot who sl ps := O.out
      have hone : n = 1 → who = [0] ∧ sl = [0] := fun e => by
        rcases h0 e with ⟨e1, e2, e3, e4⟩ | h
        · exfalso; rw [e1] at hlt; simp at hlt; omega
        · exact h
      have HONE := Lib.hid hone
      have W1 := Lib.hid (nats_ints S.out.wh (by omega) (fun y hy => by have := T.out.wn y hy; omega))
      have W2 := Lib.hid (nats_ints S.out.so (by have := HLN.out; omega) (fun y hy => by have := T.out.ls y hy; omega))
      have BL := Lib.hid S.out.bl
      clear S hone h0
      have hex : n ≤ who.length ∨ (who.length < n ∧ 1000 < slot) := by omega
      clear hlt
      rcases hex with hex | ⟨hex, hex2⟩
      all_goals
        go_wp2_with fail
        go_ret3
        exact ⟨who, sl, a1, a2, c1, c2, rfl, HLN.out, hwl, T.out.nd, T.out.wn, HONE.out, W1.out, W2.out, BL.out⟩
end Go.Proofs.Ytkpflghhmnkjmaa
