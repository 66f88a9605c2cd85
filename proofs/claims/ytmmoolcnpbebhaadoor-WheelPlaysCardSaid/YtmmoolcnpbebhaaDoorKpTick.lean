/- The contract of Tick. -/
import Derived.Test.YtmmoolcnpbebhaaDoorKpOps
import Derived.Test.YtmmoolcnpbebhaaDoorSortShelf_rfD
import Derived.Sort.OwnSortedInts
namespace Go.Proofs.YtmmoolcnpbebhaaDoor
open Go.RowKit Go.Maps
set_option linter.unusedSimpArgs false
set_option linter.unusedVariables false

namespace Wl
theorem nodup_short (n : Nat) : ∀ l : List Nat, l.Nodup → (∀ x ∈ l, x < n) → l.length ≤ n := by
  induction n with
  | zero =>
    intro l _ h
    cases l with
    | nil => simp
    | cons x l => have := h x (by simp); omega
  | succ n ih =>
    intro l hn h
    by_cases hm : n ∈ l
    · have h1 := ih (l.erase n) (hn.erase n) (fun x hx => by
        have h2 := (hn.mem_erase_iff).1 hx
        have := h x h2.2
        have := h2.1
        omega)
      rw [List.length_erase_of_mem hm] at h1
      omega
    · have := ih l hn (fun x hx => by
        have h2 := h x hx
        have : x ≠ n := fun e => hm (e ▸ hx)
        omega)
      omega
theorem Ok.short {s : St} {l0 l1 l2 : Nat} {rest : List Nat} (h : Ok s l0 l1 l2 rest) {i : Nat} (hi : i < 24) : (s.hs i).length ≤ 20 :=
  nodup_short 20 _ (h.nd i hi) (fun x hx => by
    obtain ⟨a, ha, _⟩ := h.at_ i x hi hx
    exact (h.ids x a ha).1)
theorem Ok.sits {s : St} {l0 l1 l2 : Nat} {rest : List Nat} (h : Ok s l0 l1 l2 rest) {i : Nat} (hi : i < 24) {x : Nat} (hx : x ∈ s.hs i) : x ≤ 19 ∧ ∃ a, s.due x = some a ∧ s.now ≤ a ∧ a ≤ s.now + 400 := by
  obtain ⟨a, ha, _⟩ := h.at_ i x hi hx
  obtain ⟨h1, h2, h3⟩ := h.ids x a ha
  exact ⟨by omega, a, ha, by omega, h3⟩
theorem put_len (s : St) (id i : Nat) : ((put s id).hs i).length ≤ (s.hs i).length + 1 := by
  show (upd s.hs _ _ i).length ≤ _
  unfold upd
  split
  · rename_i e; subst e; simp
  · omega
theorem putAll_len (l : List Nat) : ∀ s i, ((putAll s l).hs i).length ≤ (s.hs i).length + l.length := by
  induction l with
  | nil => intro s i; exact Nat.le_refl _
  | cons x l ih =>
    intro s i
    have h1 : ((putAll (put s x) l).hs i).length ≤ _ := ih (put s x) i
    have h2 := put_len s x i
    show ((putAll (put s x) l).hs i).length ≤ _
    simp only [List.length_cons]
    omega
theorem putAll_snoc (s : St) (l : List Nat) (x : Nat) : putAll s (l ++ [x]) = put (putAll s l) x := by
  simp [putAll, List.foldl_append]
theorem delAll_snoc (d : Nat → Option Nat) (l : List Nat) (x : Nat) : delAll d (l ++ [x]) = upd (delAll d l) x none := by
  simp [delAll, List.foldl_append]
theorem upd_len {f : Nat → List Nat} {i : Nat} (h : ∀ j, j < 24 → (f j).length ≤ 20) : ∀ j, j < 24 → (upd f i [] j).length ≤ 20 := fun j hj => by
  unfold upd; split
  · simp
  · exact h j hj
theorem mid_ok0 {s : St} (h : Ok s 1 1 1 []) : Ok ⟨s.now + 1, s.due, s.hs⟩ 0 (if (s.now + 1) % 8 = 0 then 0 else 1) (if (s.now + 1) % 64 = 0 then 0 else 1) [] := by
  refine ⟨fun id a ha => ?_, fun i id hi hid => ?_, h.nd, h.one, h.all, h.rnd, h.rin, h.rno⟩
  · have := h.ids id a ha; simp only at this ⊢; omega
  · obtain ⟨a, ha, hf⟩ := h.at_ i id hi hid
    obtain ⟨_, b2, b3⟩ := h.ids id a ha
    refine ⟨a, ha, ?_⟩
    unfold Fits at hf ⊢
    simp only
    split <;> split <;> omega
theorem mid_ok2 {s : St} (h : Ok s 1 1 1 []) : Ok (move 2 ⟨s.now + 1, s.due, s.hs⟩) 0 (if (s.now + 1) % 8 = 0 then 0 else 1) 1 [] := by
  refine move_ok2 (mid_ok0 h) (fun hm => if_neg hm) (by split <;> omega)
/-- The state ahead of a level's round. -/
def lv (s : St) (L : Nat) : St := if L = 2 then ⟨s.now + 1, s.due, s.hs⟩ else if L = 1 then move 2 ⟨s.now + 1, s.due, s.hs⟩ else mid s
theorem lv_now (s : St) (L : Nat) : (lv s L).now = s.now + 1 := by
  unfold lv; split
  · rfl
  · split
    · rw [move_now]
    · rw [mid_now]
theorem lv_due (s : St) (L : Nat) : (lv s L).due = s.due := by
  unfold lv; split
  · rfl
  · split
    · rw [move_due]
    · rw [mid_due]
theorem lv_ok {s : St} (h : Ok s 1 1 1 []) (L : Nat) : ∃ l1 l2, Ok (lv s L) 0 l1 l2 [] := by
  unfold lv; split
  · exact ⟨_, _, mid_ok0 h⟩
  · split
    · exact ⟨_, _, mid_ok2 h⟩
    · exact ⟨_, _, mid_ok h⟩
theorem lv_down2 (s : St) : move 2 (lv s 2) = lv s 1 := rfl
theorem lv_down1 (s : St) : move 1 (lv s 1) = lv s 0 := rfl
def srt (l : List Nat) : List Nat := l.mergeSort fun x y => decide (x ≤ y)
theorem srt_mem {l : List Nat} {x : Nat} : x ∈ srt l ↔ x ∈ l := List.mem_mergeSort
theorem srt_len (l : List Nat) : (srt l).length = l.length := List.length_mergeSort l
end Wl

theorem own_cell {w : World} {B T n : Nat} {a : Option Addr} {c : Nat} {xs : List Value} (h : w.ownsRow B T 1 (.slice a n c) n xs) {k : Nat} (hk : k < n) : ∃ g, a = some ⟨g, 0, none⟩ ∧ w.cell? ⟨g, k, none⟩ = xs[k]? := by
  obtain ⟨g, c', hv, hcel, _⟩ := Cel.form h (by omega)
  obtain ⟨rfl, rfl⟩ : a = some ⟨g, 0, none⟩ ∧ c = c' := by simpa using hv
  exact ⟨g, rfl, hcel.cell k (by have := h.1; omega)⟩
theorem WS.newX {w0 : Rf} {wr w' : World} {wb mb B nm : Nat} {vs : Nat → Value} {s : Wl.St} {D : DataW Unit} {x : Value} {xl xl' : List Nat} (h : WS w0 wb mb B wr vs s nm D x xl) (hg : wr.grownBy w' x.ownBlock) (hx : w'.ownsRow B 3 1 x xl'.length (nats xl')) : WS w0 wb mb B w' vs s nm D x xl' := by
  have b1 := h.b1; have b2 := h.b2; have b3 := h.b3; have b4 := h.b4
  have hlt := h.xr.lt
  exact ⟨b1, h.b5, b2, b3, Nat.le_trans b4 hg.size, h.ob.kept hg (fun e => by have := (hlt wb e.symm).1; omega), fun i hi => own_keep (h.rows i hi) hg (fun g e e' => h.xd i hi g e e'), h.dj, hx, h.xd, h.mp.kept hg (fun e => by have := (hlt mb e.symm).1; omega), h.dm, h.fr, h.fx, h.bl.grown hg (fun k e => h.fx k e)⟩
theorem nats_is (l : List Nat) : nats l = (l.map fun x : Nat => (x : Int)).map (.int .i64) := by simp [nats]
theorem wsort {w0 : Rf} {wr : World} {wb mb B nm : Nat} {vs : Nat → Value} {s : Wl.St} {D : DataW Unit} {a : Option Addr} {c : Nat} {xl : List Nat} (h : WS w0 wb mb B wr vs s nm D (.slice a xl.length c) xl) (hl : xl.length ≤ 1000) :
    Calls Tryd.prog 18 #[.slice a xl.length c] wr fun e w' => e = .returned (.tuple #[]) ∧ WS w0 wb mb B w' vs s nm D (.slice a xl.length c) (Wl.srt xl) := by
  have hsl := Wl.srt_len xl
  rcases h.xr.2 with ⟨hv, hn⟩ | ⟨g, cap, cur, hv, hbase, hb, h1, h2, h3, h4⟩
  · have e0 : xl = [] := List.eq_nil_of_length_eq_zero hn
    have e1 : a = none ∧ c = 0 := by simpa [hn] using hv
    obtain ⟨rfl, rfl⟩ := e1
    subst e0
    refine (Tryd.slices_Sort_int_none none 0 wr).mono ?_
    rintro e w' ⟨rfl, rfl⟩
    exact ⟨rfl, by rw [show Wl.srt [] = [] from by simp [Wl.srt]]; exact h⟩
  · obtain ⟨rfl, rfl⟩ : a = some ⟨g, 0, none⟩ ∧ c = cap := by simpa using hv
    have hz : (xl.map fun x : Nat => (x : Int)).length = xl.length := by simp
    have h4' : cur.toList.take (xl.map fun x : Nat => (x : Int)).length = (xl.map fun x : Nat => (x : Int)).map (Value.int .i64) := by
      rw [hz, ← nats_is]; simpa using h4
    have hso : (xl.map fun x : Nat => (x : Int)).mergeSort (fun x y => decide (x ≤ y)) = (Wl.srt xl).map fun x : Nat => (x : Int) := by
      unfold Wl.srt
      rw [List.map_mergeSort]
      intro x _ y _
      simp
    have hlt : g < wr.heap.size := (Array.getElem?_eq_some_iff.1 hb).1
    have key := Tryd.slices_Sort_int g 0 c (xl.map fun x : Nat => (x : Int)) wr (holds_of_blockI hb h4') hlt (by rw [hz]; omega)
    rw [hz, hso] at key
    refine key.mono ?_
    rintro e w' ⟨rfl, n, os, rfl⟩
    refine ⟨rfl, h.newX (grownBy_sortedI _) ?_⟩
    have := ownsRow_sortedI (w := wr) (n := n) (os := os) (ss := xl.map fun x : Nat => (x : Int)) (ts := (Wl.srt xl).map fun x : Nat => (x : Int)) (by simp [hsl]) hbase hb (by rw [hz]; exact h1) h2 h3
    rw [hz, ← nats_is] at this
    rw [hsl]
    exact this

set_option maxHeartbeats 16000000 in
set_option maxRecDepth 100000 in
theorem wtick {w0 : Rf} {w : World} {wb mb B nm : Nat} {vs : Nat → Value} {s : Wl.St} {D : DataW Unit} {x : Value} {xl : List Nat} (h : WS w0 wb mb B w vs s nm D x xl) (hok : Wl.Ok s 1 1 1 []) (h3 : s.now ≤ 90000) :
    Calls Tryd.prog 9 #[.pointer (some ⟨wb, 0, none⟩)] w fun e w' => ∃ (a : Option Addr) (c : Nat) (vs' : Nat → Value) (D' : DataW Unit), e = .returned (.slice a (Wl.outs s).length c) ∧ WS w0 wb mb B w' vs' (Wl.tick s) nm D' (.slice a (Wl.outs s).length c) (Wl.srt (Wl.outs s)) := by
  have H := Lib.hid h.bare
  have c0 := h.cell0
  have f0 := h.free 0
  have HOKS := Lib.hid hok
  clear h hok
  have hw1 : IntKind.i64.wrap ((s.now : Int) + 1) = (s.now : Int) + 1 := IntWalk.i64_in _ (by omega)
  go_enter Tryd.func9, Tryd.ntmps9
  go_wp2_with fail
  have hn1 : (s.now : Int) + 1 = ((s.now + 1 : Nat) : Int) := by omega
  rw [hn1]
  have SA := Lib.hid (H.out.setNow (s.now + 1))
  generalize w.setCell ⟨wb, 0, none⟩ (.int .i64 ((s.now + 1 : Nat) : Int)) = w1 at *
  obtain ⟨N, hN⟩ : ∃ N : Nat, s.now + 1 = N := ⟨_, rfl⟩
  rw [hN]
  have h3N : N ≤ 90001 := by omega
  have HN := Lib.hid hN
  clear hN
  clear c0 f0 H hw1 hn1
  go_loopw [3] (fun v3 wx => ∃ (L : Nat) (vs' : Nat → Value), (L = 2 ∧ v3 = .int .i64 2 ∨ L = 1 ∧ v3 = .int .i64 1 ∨ L = 0 ∧ v3 = .int .i64 0) ∧ WS w0 wb mb B wx vs' (Wl.lv s L) nm D (.slice none 0 0) []) (fun v3 _ => (intOf v3).toNat)
  case atStart => exact ⟨2, vs, .inl ⟨rfl, rfl⟩, SA.out⟩
  case round =>
    clear SA
    obtain ⟨L, vs1, hL, hS⟩ := hrel
    have S0 := Lib.hid hS
    have c0 := hS.cell0
    rw [Wl.lv_now, HN.out] at c0
    have HOK : Hid (∃ l1 l2, Wl.Ok (Wl.lv s L) 0 l1 l2 []) := Wl.lv_ok HOKS.out L
    clear hS
    rcases hL with ⟨rfl, rfl⟩ | ⟨rfl, rfl⟩ | ⟨rfl, rfl⟩
    · have hL1 : decide ((2 : Int) > 0) = true := by decide
      by_cases hm : N % 64 = 0
      · have hd1 : ((N : Int) % 64 == 0) = true := by rw [beq_iff_eq]; omega
        go_wp2_with fail
        go_quiet ((first | (go_at_call 17; exact Calls.quiet_of_same ((span2 _).mono fun _ _ h => ⟨h.1, h.2.symm⟩))))
        have S1 := Lib.hid (S0.out.drewN nq)
        clear c0 hd1
        generalize wr.drewN nq = wx1 at *
        have c0 := S1.out.cell0
        rw [Wl.lv_now, HN.out] at c0
        go_wp2_with fail
        go_quiet ((first | (go_at_call 17; exact Calls.quiet_of_same ((span2 _).mono fun _ _ h => ⟨h.1, h.2.symm⟩))))
        have S2 := Lib.hid (S1.out.drewN nq)
        clear c0
        generalize wx1.drewN nq = wx2 at *
        obtain ⟨sl, hsl⟩ : ∃ sl : Nat, N / 64 % 8 = sl := ⟨_, rfl⟩
        have hs8 : sl < 8 := by omega
        have hsi : (sl : Int) < 8 := by omega
        have hi24 : 16 + sl < 24 := by omega
        have hm8 : ((N : Int) / 64 % 8) = (sl : Int) := by omega
        rw [hm8]
        have HMV : Hid (Wl.move 2 (Wl.lv s 2) = Wl.putAll ⟨(Wl.lv s 2).now, (Wl.lv s 2).due, Wl.upd (Wl.lv s 2).hs (16 + sl) []⟩ ((Wl.lv s 2).hs (16 + sl))) := by
          show Wl.move _ _ = _
          unfold Wl.move
          rw [show Wl.spanN 2 = 64 from rfl, Wl.lv_now, HN.out, if_pos hm, hsl]
        have HMM : Hid (N % 64 = 0) := hm
        clear hm8 hsl hm
        obtain ⟨ra, rc, hrv⟩ := S2.out.form hi24
        have cS := S2.out.cellS hi24
        have fS := S2.out.free (1 + (16 + sl))
        rw [hrv] at cS
        have eix : 1 + (16 + sl) = 17 + sl := by omega
        rw [eix] at cS fS
        have S3 := Lib.hid (S2.out.take hi24)
        rw [eix, hrv] at S3
        clear eix hrv
        have HX : Hid (∀ id ∈ (Wl.lv s 2).hs (16 + sl), id ≤ 19 ∧ ∃ a, (Wl.lv s 2).due id = some a ∧ (Wl.lv s 2).now ≤ a ∧ a ≤ (Wl.lv s 2).now + 400) := fun id hid => HOK.out.choose_spec.choose_spec.sits hi24 hid
        have HSH : Hid (∀ i, i < 24 → (Wl.upd (Wl.lv s 2).hs (16 + sl) [] i).length ≤ 20) := Wl.upd_len fun j hj => HOK.out.choose_spec.choose_spec.short hj
        have hxl20 : ((Wl.lv s 2).hs (16 + sl)).length ≤ 20 := HOK.out.choose_spec.choose_spec.short hi24
        obtain ⟨xl, hxl⟩ : ∃ xl, xl = (Wl.lv s 2).hs (16 + sl) := ⟨_, rfl⟩
        rw [← hxl] at S3 HX hxl20 cS HMV
        clear hxl
        go_wp2_with fail
        generalize wx2.setCell ⟨wb, 17 + sl, none⟩ (.slice none 0 0) = wx3 at *
        clear cS fS S0 S1 S2
        go_loopw [56] (fun v56 wx => ∃ (pre rest : List Nat) (vs' : Nat → Value), xl = pre ++ rest ∧ v56 = .int .i64 (pre.length : Int) ∧ WS w0 wb mb B wx vs' (Wl.putAll ⟨(Wl.lv s 2).now, (Wl.lv s 2).due, Wl.upd (Wl.lv s 2).hs (16 + sl) []⟩ pre) nm D (.slice ra xl.length rc) xl) (fun v56 _ => xl.length - (intOf v56).toNat)
        case atStart => exact ⟨[], xl, _, rfl, rfl, S3.out⟩
        case round =>
          clear S3
          obtain ⟨pre, rest, vs', hpr, rfl, hS⟩ := hrel
          have S := Lib.hid hS; clear hS
          cases rest with
          | nil =>
            have hlen : xl.length = pre.length := by rw [hpr]; simp
            have hpre : xl = pre := by rw [hpr]; simp
            have HPRE := Lib.hid hpre
            clear hpr hpre
            have hz : decide ((pre.length : Int) < (xl.length : Int)) = false := by simp; omega
            go_wp2_with fail
            go_roundw
            case rel => exact ⟨1, _, .inr (.inl ⟨rfl, rfl⟩), (by have Z := S.out.bare; rw [← HPRE.out, ← HMV.out, Wl.lv_down2] at Z; exact Z)⟩
            case measure => decide
          | cons id rest =>
            have hlen : pre.length < xl.length := by rw [hpr]; simp
            have hz : decide ((pre.length : Int) < (xl.length : Int)) = true := by simp; omega
            obtain ⟨g, hg, hcell⟩ := own_cell S.out.xr hlen
            subst hg
            have hat : (nats xl)[pre.length]? = some (.int .i64 (id : Int)) := by rw [hpr]; simp [nats]
            rw [hat] at hcell
            obtain ⟨hid19, a, had, ha1, ha2⟩ := HX.out id (by rw [hpr]; simp)
            have HAD := Lib.hid had
            have hnow := (Wl.lv_now s 2).trans HN.out
            rw [hnow] at ha1 ha2
            have HNOW := Lib.hid hnow
            have HPR := Lib.hid hpr
            clear had hpr hat hnow
            have hi0 : ¬ ((pre.length : Int) < 0) := by omega
            have hle : ∀ i, i < 24 → ((Wl.putAll ⟨(Wl.lv s 2).now, (Wl.lv s 2).due, Wl.upd (Wl.lv s 2).hs (16 + sl) []⟩ pre).hs i).length ≤ 1000 := fun i hi => by
              have h7 := Wl.putAll_len pre ⟨(Wl.lv s 2).now, (Wl.lv s 2).due, Wl.upd (Wl.lv s 2).hs (16 + sl) []⟩ i
              have h20 := HSH.out i hi
              simp only at h7
              omega
            have HLE := Lib.hid hle
            clear hle
            go_wp2_with fail
            refine (wput id a S.out (by rw [Wl.putAll_due]; exact HAD.out) (by rw [Wl.putAll_now]; show (Wl.lv s 2).now ≤ a; rw [HNOW.out]; exact ha1) (by rw [Wl.putAll_now]; show a ≤ (Wl.lv s 2).now + 400; rw [HNOW.out]; exact ha2) (by rw [Wl.putAll_now]; show (Wl.lv s 2).now ≤ 100000; rw [HNOW.out]; omega) (by omega) HLE.out).mono ?_
            rintro e w7 ⟨rfl, vs7, h7⟩
            have S7 := Lib.hid h7
            clear h7 hcell
            go_wp2_with fail
            go_roundw
            case rel => exact ⟨pre ++ [id], rest, vs7, by rw [HPR.out]; try simp, by first | go_num | rfl | simp, by rw [Wl.putAll_snoc]; exact S7.out⟩
            case measure => simp [intOf]; omega
      · have hd1 : ((N : Int) % 64 == 0) = false := by rw [beq_eq_false_iff_ne]; omega
        have HMV : Hid (Wl.move 2 (Wl.lv s 2) = Wl.lv s 2) := by
          show Wl.move _ _ = _
          unfold Wl.move
          rw [show Wl.spanN 2 = 64 from rfl, Wl.lv_now, HN.out, if_neg hm]
        clear hm
        go_wp2_with fail
        go_quiet ((first | (go_at_call 17; exact Calls.quiet_of_same ((span2 _).mono fun _ _ h => ⟨h.1, h.2.symm⟩))))
        have S1 := Lib.hid (S0.out.drewN nq)
        clear c0 hd1 S0
        generalize wr.drewN nq = wx1 at *
        go_wp2_with fail
        go_roundw
        case rel => exact ⟨1, _, .inr (.inl ⟨rfl, rfl⟩), (by have Z := S1.out; rw [← HMV.out, Wl.lv_down2] at Z; exact Z)⟩
        case measure => decide
    · have hL1 : decide ((1 : Int) > 0) = true := by decide
      by_cases hm : N % 8 = 0
      · have hd1 : ((N : Int) % 8 == 0) = true := by rw [beq_iff_eq]; omega
        go_wp2_with fail
        go_quiet ((first | (go_at_call 17; exact Calls.quiet_of_same ((span1 _).mono fun _ _ h => ⟨h.1, h.2.symm⟩))))
        have S1 := Lib.hid (S0.out.drewN nq)
        clear c0 hd1
        generalize wr.drewN nq = wx1 at *
        have c0 := S1.out.cell0
        rw [Wl.lv_now, HN.out] at c0
        go_wp2_with fail
        go_quiet ((first | (go_at_call 17; exact Calls.quiet_of_same ((span1 _).mono fun _ _ h => ⟨h.1, h.2.symm⟩))))
        have S2 := Lib.hid (S1.out.drewN nq)
        clear c0
        generalize wx1.drewN nq = wx2 at *
        obtain ⟨sl, hsl⟩ : ∃ sl : Nat, N / 8 % 8 = sl := ⟨_, rfl⟩
        have hs8 : sl < 8 := by omega
        have hsi : (sl : Int) < 8 := by omega
        have hi24 : 8 + sl < 24 := by omega
        have hm8 : ((N : Int) / 8 % 8) = (sl : Int) := by omega
        rw [hm8]
        have HMV : Hid (Wl.move 1 (Wl.lv s 1) = Wl.putAll ⟨(Wl.lv s 1).now, (Wl.lv s 1).due, Wl.upd (Wl.lv s 1).hs (8 + sl) []⟩ ((Wl.lv s 1).hs (8 + sl))) := by
          show Wl.move _ _ = _
          unfold Wl.move
          rw [show Wl.spanN 1 = 8 from rfl, Wl.lv_now, HN.out, if_pos hm, hsl]
        have HMM : Hid (N % 8 = 0) := hm
        clear hm8 hsl hm
        obtain ⟨ra, rc, hrv⟩ := S2.out.form hi24
        have cS := S2.out.cellS hi24
        have fS := S2.out.free (1 + (8 + sl))
        rw [hrv] at cS
        have eix : 1 + (8 + sl) = 9 + sl := by omega
        rw [eix] at cS fS
        have S3 := Lib.hid (S2.out.take hi24)
        rw [eix, hrv] at S3
        clear eix hrv
        have HX : Hid (∀ id ∈ (Wl.lv s 1).hs (8 + sl), id ≤ 19 ∧ ∃ a, (Wl.lv s 1).due id = some a ∧ (Wl.lv s 1).now ≤ a ∧ a ≤ (Wl.lv s 1).now + 400) := fun id hid => HOK.out.choose_spec.choose_spec.sits hi24 hid
        have HSH : Hid (∀ i, i < 24 → (Wl.upd (Wl.lv s 1).hs (8 + sl) [] i).length ≤ 20) := Wl.upd_len fun j hj => HOK.out.choose_spec.choose_spec.short hj
        have hxl20 : ((Wl.lv s 1).hs (8 + sl)).length ≤ 20 := HOK.out.choose_spec.choose_spec.short hi24
        obtain ⟨xl, hxl⟩ : ∃ xl, xl = (Wl.lv s 1).hs (8 + sl) := ⟨_, rfl⟩
        rw [← hxl] at S3 HX hxl20 cS HMV
        clear hxl
        go_wp2_with fail
        generalize wx2.setCell ⟨wb, 9 + sl, none⟩ (.slice none 0 0) = wx3 at *
        clear cS fS S0 S1 S2
        go_loopw [56] (fun v56 wx => ∃ (pre rest : List Nat) (vs' : Nat → Value), xl = pre ++ rest ∧ v56 = .int .i64 (pre.length : Int) ∧ WS w0 wb mb B wx vs' (Wl.putAll ⟨(Wl.lv s 1).now, (Wl.lv s 1).due, Wl.upd (Wl.lv s 1).hs (8 + sl) []⟩ pre) nm D (.slice ra xl.length rc) xl) (fun v56 _ => xl.length - (intOf v56).toNat)
        case atStart => exact ⟨[], xl, _, rfl, rfl, S3.out⟩
        case round =>
          clear S3
          obtain ⟨pre, rest, vs', hpr, rfl, hS⟩ := hrel
          have S := Lib.hid hS; clear hS
          cases rest with
          | nil =>
            have hlen : xl.length = pre.length := by rw [hpr]; simp
            have hpre : xl = pre := by rw [hpr]; simp
            have HPRE := Lib.hid hpre
            clear hpr hpre
            have hz : decide ((pre.length : Int) < (xl.length : Int)) = false := by simp; omega
            go_wp2_with fail
            go_roundw
            case rel => exact ⟨0, _, .inr (.inr ⟨rfl, rfl⟩), (by have Z := S.out.bare; rw [← HPRE.out, ← HMV.out, Wl.lv_down1] at Z; exact Z)⟩
            case measure => decide
          | cons id rest =>
            have hlen : pre.length < xl.length := by rw [hpr]; simp
            have hz : decide ((pre.length : Int) < (xl.length : Int)) = true := by simp; omega
            obtain ⟨g, hg, hcell⟩ := own_cell S.out.xr hlen
            subst hg
            have hat : (nats xl)[pre.length]? = some (.int .i64 (id : Int)) := by rw [hpr]; simp [nats]
            rw [hat] at hcell
            obtain ⟨hid19, a, had, ha1, ha2⟩ := HX.out id (by rw [hpr]; simp)
            have HAD := Lib.hid had
            have hnow := (Wl.lv_now s 1).trans HN.out
            rw [hnow] at ha1 ha2
            have HNOW := Lib.hid hnow
            have HPR := Lib.hid hpr
            clear had hpr hat hnow
            have hi0 : ¬ ((pre.length : Int) < 0) := by omega
            have hle : ∀ i, i < 24 → ((Wl.putAll ⟨(Wl.lv s 1).now, (Wl.lv s 1).due, Wl.upd (Wl.lv s 1).hs (8 + sl) []⟩ pre).hs i).length ≤ 1000 := fun i hi => by
              have h7 := Wl.putAll_len pre ⟨(Wl.lv s 1).now, (Wl.lv s 1).due, Wl.upd (Wl.lv s 1).hs (8 + sl) []⟩ i
              have h20 := HSH.out i hi
              simp only at h7
              omega
            have HLE := Lib.hid hle
            clear hle
            go_wp2_with fail
            refine (wput id a S.out (by rw [Wl.putAll_due]; exact HAD.out) (by rw [Wl.putAll_now]; show (Wl.lv s 1).now ≤ a; rw [HNOW.out]; exact ha1) (by rw [Wl.putAll_now]; show a ≤ (Wl.lv s 1).now + 400; rw [HNOW.out]; exact ha2) (by rw [Wl.putAll_now]; show (Wl.lv s 1).now ≤ 100000; rw [HNOW.out]; omega) (by omega) HLE.out).mono ?_
            rintro e w7 ⟨rfl, vs7, h7⟩
            have S7 := Lib.hid h7
            clear h7 hcell
            go_wp2_with fail
            go_roundw
            case rel => exact ⟨pre ++ [id], rest, vs7, by rw [HPR.out]; try simp, by first | go_num | rfl | simp, by rw [Wl.putAll_snoc]; exact S7.out⟩
            case measure => simp [intOf]; omega
      · have hd1 : ((N : Int) % 8 == 0) = false := by rw [beq_eq_false_iff_ne]; omega
        have HMV : Hid (Wl.move 1 (Wl.lv s 1) = Wl.lv s 1) := by
          show Wl.move _ _ = _
          unfold Wl.move
          rw [show Wl.spanN 1 = 8 from rfl, Wl.lv_now, HN.out, if_neg hm]
        clear hm
        go_wp2_with fail
        go_quiet ((first | (go_at_call 17; exact Calls.quiet_of_same ((span1 _).mono fun _ _ h => ⟨h.1, h.2.symm⟩))))
        have S1 := Lib.hid (S0.out.drewN nq)
        clear c0 hd1 S0
        generalize wr.drewN nq = wx1 at *
        go_wp2_with fail
        go_roundw
        case rel => exact ⟨0, _, .inr (.inr ⟨rfl, rfl⟩), (by have Z := S1.out; rw [← HMV.out, Wl.lv_down1] at Z; exact Z)⟩
        case measure => decide
    · obtain ⟨sl, hsl⟩ : ∃ sl : Nat, N % 8 = sl := ⟨_, rfl⟩
      have hs8 : sl < 8 := by omega
      have hsi : (sl : Int) < 8 := by omega
      have hi24 : sl < 24 := by omega
      have hm8 : ((N : Int) % 8) = (sl : Int) := by omega
      have hNM : (Wl.mid s).now = N := (Wl.mid_now s).trans HN.out
      have HSL : Hid ((s.now + 1) % 8 = sl) := Lib.hid (by rw [HN.out]; exact hsl)
      have HT : Hid (Wl.tick s = ⟨N, Wl.delAll s.due (Wl.outs s), Wl.upd (Wl.mid s).hs sl []⟩) := Lib.hid (by unfold Wl.tick; rw [HSL.out, HN.out])
      have HO : Hid (Wl.outs s = (Wl.mid s).hs sl) := Lib.hid (by unfold Wl.outs; rw [HSL.out])
      have h20 : ((Wl.mid s).hs sl).length ≤ 20 := (Wl.mid_ok HOKS.out).short hi24
      have HX : Hid (∀ id ∈ (Wl.mid s).hs sl, id ≤ 19) := fun id hid => ((Wl.mid_ok HOKS.out).sits hi24 hid).1
      have S0 : Hid (WS w0 wb mb B wr vs1 (Wl.mid s) nm D (.slice none 0 0) []) := S0.out
      obtain ⟨ra, rc, hrv⟩ := S0.out.form hi24
      have cS := S0.out.cellS hi24
      have fS := S0.out.free (1 + sl)
      rw [hrv] at cS
      have S3 := Lib.hid (S0.out.take hi24)
      rw [hrv] at S3
      obtain ⟨ol, hol⟩ : ∃ ol, ol = (Wl.mid s).hs sl := ⟨_, rfl⟩
      rw [← hol] at S3 HX h20 cS HO
      clear hol hrv hsl
      have HNM := Lib.hid hNM
      clear hNM
      go_wp2_with fail
      rw [hm8]
      go_wp2_with fail
      generalize wr.setCell ⟨wb, 1 + sl, none⟩ (.slice none 0 0) = wx3 at *
      clear cS fS S0 c0 hm8
      have S4 : Hid (WS w0 wb mb B wx3 (Wl.upd vs1 sl (.slice none 0 0)) ⟨N, Wl.delAll s.due [], Wl.upd (Wl.mid s).hs sl []⟩ nm D (.slice ra ol.length rc) ol) := Lib.hid (by have Z := S3.out; rw [HNM.out, Wl.mid_due] at Z; exact Z)
      clear S3
      go_loopw [84] (fun v84 wx => ∃ (pre rest : List Nat) (D' : DataW Unit), ol = pre ++ rest ∧ v84 = .int .i64 (pre.length : Int) ∧ WS w0 wb mb B wx (Wl.upd vs1 sl (.slice none 0 0)) ⟨N, Wl.delAll s.due pre, Wl.upd (Wl.mid s).hs sl []⟩ nm D' (.slice ra ol.length rc) ol) (fun v84 _ => ol.length - (intOf v84).toNat)
      case atStart => exact ⟨[], ol, _, rfl, rfl, S4.out⟩
      case round =>
        clear S4
        obtain ⟨pre, rest, D1, hpr, rfl, hS⟩ := hrel
        have S := Lib.hid hS; clear hS
        cases rest with
        | nil =>
          have hpre : ol = pre := by rw [hpr]; simp
          clear hpr
          subst hpre
          go_wp2_with fail
          refine (wsort S.out (by omega)).mono ?_
          rintro e w7 ⟨rfl, h7⟩
          have S7 := Lib.hid h7
          clear h7
          go_wp2_with fail
          go_ret
          exact ⟨ra, rc, _, _, by rw [HO.out]; rfl, by rw [HT.out, HO.out]; exact S7.out⟩
        | cons id rest =>
          have hlen : pre.length < ol.length := by rw [hpr]; simp
          have hz : decide ((pre.length : Int) < (ol.length : Int)) = true := by simp; omega
          obtain ⟨g, hg, hcell⟩ := own_cell S.out.xr hlen
          subst hg
          have hat : (nats ol)[pre.length]? = some (.int .i64 (id : Int)) := by rw [hpr]; simp [nats]
          rw [hat] at hcell
          have hid19 := HX.out id (by rw [hpr]; simp)
          have HPR := Lib.hid hpr
          have cm := S.out.cellM
          have hky : keyOf Tryd.prog 3 (.int .i64 (id : Int)) = some (ky (id : Int)) := ky_of (by omega)
          clear hpr hat
          have hi0 : ¬ ((pre.length : Int) < 0) := by omega
          go_wp2_with (first | (at_delete; go_loud (refine wpList_delete_own _ rfl _ _ 38 3 rfl 3 lawK Tryd.underlying38 _ mb nm D1 rfl S.out.mp (.int .i64 (id : Int)) (ky (id : Int)) (by simp [Act.eval]) hky ?_)))
          intro w6 hM6 hturn
          have S6 := Lib.hid (S.out.map hM6 hturn.grown (dm_del S.out.dm id))
          clear hM6 hturn hky S cm hcell
          go_wp2_with fail
          go_roundw
          case rel => exact ⟨pre ++ [id], rest, _, by rw [HPR.out]; try simp, by first | go_num | rfl | simp, by rw [Wl.delAll_snoc]; exact S6.out⟩
          case measure => simp [intOf]; omega
end Go.Proofs.YtmmoolcnpbebhaaDoor
