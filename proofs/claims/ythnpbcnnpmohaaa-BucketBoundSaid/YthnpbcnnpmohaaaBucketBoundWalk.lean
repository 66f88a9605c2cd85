/- BucketBound returns true for every input: the walk. -/
import Derived.Test.YthnpbcnnpmohaaaBuckF
import Derived.Test.YthnpbcnnpmohaaaBucketBoundPlain
import Derived.Deep.AppendLies
namespace Go.Proofs.Ythnpbcnnpmohaaa.bucketBound
open Go.RowKit
set_option linter.unusedSimpArgs false
set_option linter.unusedVariables false

theorem pre_bound {ms : List Int} (h : ∀ k, 0 ≤ ms.getD k 0 ∧ ms.getD k 0 ≤ 100) (i k : Nat) (hik : i ≤ k) (hk : k ≤ ms.length) : 0 ≤ pre ms k - pre ms i ∧ pre ms k - pre ms i ≤ 100 * (k - i : Int) := by
  induction k with
  | zero => have : i = 0 := by omega
            subst this; omega
  | succ k ih =>
    rcases Nat.lt_or_ge k i with h1 | h1
    · have : i = k + 1 := by omega
      subst this; omega
    · have := ih h1 (by omega)
      have := pre_step ms k (by omega)
      have := h k
      omega
theorem mul_box {r x y : Int} (h0 : 0 ≤ r) (h1 : r ≤ 20) (hx : 0 ≤ x ∧ x ≤ 1000) (hy : 0 ≤ y ∧ y ≤ 1000) : -20000 ≤ r * (y - x) ∧ r * (y - x) ≤ 20000 := by
  rcases Int.le_total x y with h | h
  · have := mul_bound h0 h1 (show 0 ≤ y - x by omega) (by omega); omega
  · have := mul_bound h0 h1 (show 0 ≤ x - y by omega) (by omega)
    have e : r * (y - x) = - (r * (x - y)) := by rw [← Int.mul_neg]; congr 1; omega
    omega

/-- An owned row of integers, as a slice to be read. -/
theorem ints_own {w : World} {base n : Nat} {v : Value} {zs : List Int} (h : w.ownsRow base 3 1 v n (zs.map (Value.int .i64))) (hl : zs.length = n) (hf : ∀ k, -9223372036854775808 ≤ zs.getD k 0 ∧ zs.getD k 0 ≤ 9223372036854775807) :
    ∃ a c, v = .slice a n c ∧ Ints w w.heap.size a n zs := by
  rcases Nat.eq_zero_or_pos n with h0 | h0
  · rcases h.2 with ⟨hv, _⟩ | ⟨g, cap, cur, hv, _⟩
    · subst h0; exact ⟨none, 0, hv, hl, by omega, by intro k hk; omega, hf⟩
    · exact ⟨_, _, hv, hl, by omega, by intro k hk; omega, hf⟩
  · rcases h.2 with ⟨_, h1⟩ | ⟨g, cap, cur, hv, hb, hg, hc, hm, _⟩
    · omega
    · refine ⟨some ⟨g, 0, none⟩, cap, hv, hl, by unfold maxLen at hm; omega, fun k hk => ⟨g, 0, rfl, lt_of_block hg, ?_⟩, hf⟩
      subst hv
      rw [Nat.zero_add, h.cellAt k (by omega)]
      simp only [List.getElem?_map, List.getD_eq_getElem?_getD]
      rw [List.getElem?_eq_getElem (by omega)]
      rfl

theorem own_ne {w : World} {b e size n : Nat} {v : Value} {xs : List Value} (h : w.ownsRow (b + 1) e size v n xs) : v.ownBlock = none ∨ v.ownBlock ≠ some b := by
  rcases hv : v.ownBlock with _ | g
  · exact .inl rfl
  · right; intro e; have := (h.lt g hv).1; simp at e; omega

set_option maxHeartbeats 8000000 in
set_option maxRecDepth 100000 in
theorem walk (r d : Int) (a : Option Addr) (len cap : Nat) (A : Nat → Option Addr) (L C : Nat → Nat) (Z : Nat → List Int) (w : World) (hr : -9223372036854775808 ≤ r ∧ r ≤ 9223372036854775807) (hd : -9223372036854775808 ≤ d ∧ d ≤ 9223372036854775807) (hI : Grid w w.heap.size a len A L C Z) :
    Calls Try.prog 7 #[.int .i64 r, .int .i64 d, .slice a len cap] w fun e w' => e = .returned (.bool true) ∧ Below w.heap.size w w' := by
  have hroom := hI.room
  have HI := Lib.hid hI; clear hI
  by_cases hv : (0 ≤ r ∧ r ≤ 20) ∧ (0 ≤ d ∧ d ≤ 100)
  · obtain ⟨⟨r0, r1⟩, d0, d1⟩ := hv
    clear hr hd
    obtain ⟨i0, hi, hz0, hz1, hz2⟩ := info_parts info3
    go_enter Try.func7, Try.ntmps7
    go_wp2_with fail
    refine (bfact_any _).mono ?_
    rintro e w1 ⟨rfl, hb1⟩
    have B1 := Lib.hid hb1; clear hb1
    go_wp2_with fail
    refine (bnew_yes _ _ _ r0 r1 d0 d1).mono ?_
    rintro e w2 ⟨rfl, ho, hg⟩
    have H2 := Lib.hid ho; clear ho
    have B2 : Hid (Below w.heap.size w w2) := B1.out.trans ((below_new hg).mono B1.out.size)
    clear hg
    have hsz := B1.out.size
    generalize hb : w1.heap.size = b at *
    clear hb B1
    go_wp2_with fail
    go_loopw [10, 11, 12] (fun v10 v11 v12 wr => ∃ (k : Nat) (h l : Int) (ats ms : List Int), k ≤ len ∧ k ≤ 60 ∧ ms.length ≤ k ∧ v12 = .int .i64 k ∧ BkOk r d h l ∧ Hid (Good r d h l ats ms) ∧ Buck wr b r d h l ∧ wr.ownsRow (b + 1) 3 1 v10 ms.length (ats.map (Value.int .i64)) ∧ wr.ownsRow (b + 1) 3 1 v11 ms.length (ms.map (Value.int .i64)) ∧ Apart v10 v11 ∧ Below w.heap.size w wr)
      (fun _ _ v12 _ => len - (intOf v12).toNat)
    case atStart => exact ⟨0, d, 0, [], [], Nat.zero_le _, Nat.zero_le _, Nat.zero_le _, rfl, ⟨r0, r1, d0, d1, d0, by omega, by omega, by omega⟩, good_nil r d, H2.out, World.ownsRow_nil _ _ _ _, World.ownsRow_nil _ _ _ _, by (intro g hg; simp [Value.ownBlock] at hg), B2.out⟩
    case round =>
      clear H2 B2
      obtain ⟨k, h, l, ats, ms, hk, hk60, hmk, rfl, hok, HGd, hT, hA, hM, hP, hB⟩ := hrel
      have HB := Lib.hid hB; clear hB
      have HT := Lib.hid hT; clear hT
      have HO := Lib.hid hok; clear hok
      have HA := Lib.hid hA; clear hA
      have HM := Lib.hid hM; clear hM
      have HP := Lib.hid hP; clear hP
      have HL := Lib.hid HGd.out.len
      by_cases hlt : k < len ∧ k < 60
      · obtain ⟨hl1, hl2⟩ := hlt
        obtain ⟨gb, goff, rfl, hgb, hgc⟩ := HI.out.cell k hl1
        have hrow := HI.out.row k hl1
        have hcx := (HB.out.cell (p := ⟨gb, goff + k, none⟩) hgb).trans hgc
        have HG := Lib.hid hgc; clear hgc
        generalize A k = ak at *
        generalize L k = lk at *
        generalize C k = ck at *
        generalize Z k = zk at *
        by_cases h2 : lk = 2
        · subst h2
          obtain ⟨ib, ioff, rfl, hib, hi0⟩ := hrow.cell 0 (by omega)
          obtain ⟨ib', ioff', he, hib', hi1⟩ := hrow.cell 1 (by omega)
          simp only [Option.some.injEq, Addr.mk.injEq, and_true] at he
          obtain ⟨rfl, rfl⟩ := he
          have fi0 := hrow.fits 0
          have fi1 := hrow.fits 1
          have hc0 := (HB.out.cell (p := ⟨ib, ioff, none⟩) hib).trans hi0
          have hc1 := (HB.out.cell (p := ⟨ib, ioff + 1, none⟩) hib).trans hi1
          have HI0 := Lib.hid hi0; clear hi0
          have HI1 := Lib.hid hi1; clear hi1
          clear hrow
          generalize zk.getD 0 0 = at_ at *
          generalize zk.getD 1 0 = n at *
          by_cases hv : (0 ≤ at_ ∧ at_ ≤ 1000) ∧ (0 ≤ n ∧ n ≤ 100)
          · obtain ⟨⟨v0, v1⟩, v2, v3⟩ := hv
            by_cases hla : l ≤ at_
            · obtain ⟨fl0, fl1⟩ := fill_ok HO.out hla v1
              by_cases hn : n ≤ fillB r d h l at_
              · have C : Hid (∀ w', Buck w' b r d h l → Calls Try.prog 22 #[.pointer (some ⟨b, 0, none⟩), .int .i64 at_, .int .i64 n] w' fun e w'' => e = .returned (.tuple #[.bool true, .nilIface]) ∧ Buck w'' b r d (fillB r d h l at_ - n) at_ ∧ w'.grownBy w'' (some b)) :=
                  fun w' ho => btake_yes b r d h l at_ n w' ho HO.out v0 v1 v2 v3 hla hn
                have HO2 : Hid (BkOk r d (fillB r d h l at_ - n) at_) := ⟨HO.out.r0, HO.out.r1, HO.out.d0, HO.out.d1, by omega, by omega, v0, v1⟩
                have HG2 := Lib.hid (good_take (good_wait HGd.out at_) ⟨v0, v1⟩ ⟨v2, v3⟩ hn fl1)
                generalize fillB r d h l at_ = f at *
                go_wp2_with fail
                go_region_held3 (fun w' => w'.cell? ⟨gb, goff + k, none⟩ = some (.slice (some ⟨ib, ioff, none⟩) 2 ck) ∧ w'.cell? ⟨ib, ioff, none⟩ = some (.int .i64 at_) ∧ w'.cell? ⟨ib, ioff + 1, none⟩ = some (.int .i64 n)) (first | go_keep | exact ⟨hy, hy0, hy1⟩) ((first | (go_at_call 22; refine (C.out _ (Buck.drew HT.out)).mono ?_; rintro e w3 ⟨rfl, ho, hg⟩; have HT' := Lib.hid ho; clear ho; have HB' : Hid (Below w.heap.size w w3) := HB.out.drew.trans (below_grown hg hsz (Buck.drew HT.out).lt); have HG3 := Lib.hid hg; have hy := (HB'.out.cell (p := ⟨gb, goff + k, none⟩) hgb).trans HG.out; have hy0 := (HB'.out.cell (p := ⟨ib, ioff, none⟩) hib).trans HI0.out; have hy1 := (HB'.out.cell (p := ⟨ib, ioff + 1, none⟩) hib).trans HI1.out; clear hg)))
                clear hcx hc0 hc1
                have HA' := Lib.hid ((show wr.drew.ownsRow _ _ _ _ _ _ from HA.out).kept HG3.out (own_ne HA.out))
                have HM' := Lib.hid ((show wr.drew.ownsRow _ _ _ _ _ _ from HM.out).kept HG3.out (own_ne HM.out))
                clear HG3
                have hbw : b + 1 ≤ w3.heap.size := HT'.out.lt
                have hlen := HL.out
                go_wp2_with (first | (at_builtin; refine wpList_append_lies _ rfl (.tmp 75) (.tmp 82) 22 rfl (b + 1) 3 i0 (.int .i64 0) 1 8 Try.underlying22 hi hz0 hz1 hz2 rfl (by decide) _ _ _ rfl (HA'.out.alloc _) ⟨w3.heap.size, 0, none⟩ 1 1 [.int .i64 at_] rfl rfl ?c1 ?c2 (by decide) ?c3 ?c4 ?c5 _ rfl ?_))
                case c1 => exact cell_one_new _ _ _
                case c2 => intro u hu; simp at hu; subst hu; rfl
                case c3 => unfold maxLen; omega
                case c4 => omega
                case c5 => simp; omega
                intro g1 cap1 w4 hown1 hgrow1 hat1 hlt1
                have HB4 : Hid (Below w.heap.size w w4) := (HB'.out.alloc HB'.out.size _).grown hgrow1 (by have := HB'.out.size; simp; omega) (fun kk hkk => by have := (HA'.out.lt kk hkk).1; omega)
                have HT4 : Hid (Buck w4 b r d (f - n) at_) := Obj.kept (Obj.alloc HT'.out _) hgrow1 (fun e => by have := (HA'.out.lt b e.symm).1; omega)
                have HM4 := Lib.hid ((HM'.out.alloc _).kept hgrow1 HP.out.kept)
                have HP4 := Lib.hid (HP.out.next (n' := ms.length + 1) (cap := cap1) (HM'.out.alloc (.cells #[.int .i64 at_] 3 (0, 0))) (H := w3.heap.size + 1) (by simp) hat1)
                have HA4 := Lib.hid hown1
                have zy := (HB4.out.cell (p := ⟨gb, goff + k, none⟩) hgb).trans HG.out
                have zy1 := (HB4.out.cell (p := ⟨ib, ioff + 1, none⟩) hib).trans HI1.out
                have hbw4 : b + 1 ≤ w4.heap.size := HT4.out.lt
                clear hown1 hgrow1 hat1 hlt1 hy hy0 hy1 HA' HM' HB'
                go_wp2_with (first | (at_builtin; refine wpList_append_lies _ rfl (.tmp 84) (.tmp 91) 22 rfl (b + 1) 3 i0 (.int .i64 0) 1 8 Try.underlying22 hi hz0 hz1 hz2 rfl (by decide) _ _ _ rfl (HM4.out.alloc _) ⟨w4.heap.size, 0, none⟩ 1 1 [.int .i64 n] rfl rfl ?d1 ?d2 (by decide) ?d3 ?d4 ?d5 _ rfl ?_))
                case d1 => exact cell_one_new _ _ _
                case d2 => intro u hu; simp at hu; subst hu; rfl
                case d3 => unfold maxLen; omega
                case d4 => omega
                case d5 => simp; omega
                intro g2 cap2 w5 hown2 hgrow2 hat2 hlt2
                have HB5 : Hid (Below w.heap.size w w5) := (HB4.out.alloc HB4.out.size _).grown hgrow2 (by have := HB4.out.size; simp; omega) (fun kk hkk => by have := (HM4.out.lt kk hkk).1; omega)
                have HT5 : Hid (Buck w5 b r d (f - n) at_) := Obj.kept (Obj.alloc HT4.out _) hgrow2 (fun e => by have := (HM4.out.lt b e.symm).1; omega)
                have HA5 := Lib.hid ((HA4.out.alloc _).kept hgrow2 HP4.out.symm.kept)
                have HP5 := Lib.hid ((HP4.out.symm.next (n' := ms.length + 1) (cap := cap2) (HA4.out.alloc (.cells #[.int .i64 n] 3 (0, 0))) (H := w4.heap.size + 1) (by simp) hat2).symm)
                have HM5 := Lib.hid hown2
                clear hown2 hgrow2 hat2 hlt2 zy zy1 HA4 HM4 HB4
                go_wp2_with fail
                go_roundw
                case rel => exact ⟨k + 1, f - n, at_, ats ++ [at_], ms ++ [n], by omega, by omega, by simp; omega, by go_num, HO2.out, HG2, HT5.out, by simpa using HA5.out, by simpa using HM5.out, HP5.out, HB5.out⟩
                case measure => simp [intOf]; omega
              · have hn2 : fillB r d h l at_ < n := by omega
                clear hn
                have C : Hid (∀ w', Buck w' b r d h l → Calls Try.prog 22 #[.pointer (some ⟨b, 0, none⟩), .int .i64 at_, .int .i64 n] w' fun e w'' => e = .returned (.tuple #[.bool false, .nilIface]) ∧ Buck w'' b r d (fillB r d h l at_) at_ ∧ w'.grownBy w'' (some b)) :=
                  fun w' ho => btake_short b r d h l at_ n w' ho HO.out v0 v1 v2 v3 hla hn2
                have HO2 : Hid (BkOk r d (fillB r d h l at_) at_) := ⟨HO.out.r0, HO.out.r1, HO.out.d0, HO.out.d1, by omega, by omega, v0, v1⟩
                have HG2 := Lib.hid (good_wait HGd.out at_)
                generalize fillB r d h l at_ = f at *
                go_wp2_with fail
                go_region_held3 (fun w' => w'.cell? ⟨gb, goff + k, none⟩ = some (.slice (some ⟨ib, ioff, none⟩) 2 ck) ∧ w'.cell? ⟨ib, ioff, none⟩ = some (.int .i64 at_) ∧ w'.cell? ⟨ib, ioff + 1, none⟩ = some (.int .i64 n)) (first | go_keep | exact ⟨hy, hy0, hy1⟩) ((first | (go_at_call 22; refine (C.out _ (Buck.drew HT.out)).mono ?_; rintro e w3 ⟨rfl, ho, hg⟩; have HT' := Lib.hid ho; clear ho; have HB' : Hid (Below w.heap.size w w3) := HB.out.drew.trans (below_grown hg hsz (Buck.drew HT.out).lt); have HG3 := Lib.hid hg; have hy := (HB'.out.cell (p := ⟨gb, goff + k, none⟩) hgb).trans HG.out; have hy0 := (HB'.out.cell (p := ⟨ib, ioff, none⟩) hib).trans HI0.out; have hy1 := (HB'.out.cell (p := ⟨ib, ioff + 1, none⟩) hib).trans HI1.out; clear hg)))
                clear hcx hc0 hc1
                have HA' := Lib.hid ((show wr.drew.ownsRow _ _ _ _ _ _ from HA.out).kept HG3.out (own_ne HA.out))
                have HM' := Lib.hid ((show wr.drew.ownsRow _ _ _ _ _ _ from HM.out).kept HG3.out (own_ne HM.out))
                clear HG3
                go_wp2
                go_roundw
                case rel => exact ⟨k + 1, _, _, ats, ms, by omega, by omega, by omega, by go_num, HO2.out, HG2, HT'.out, HA'.out, HM'.out, HP.out, HB'.out⟩
                case measure => simp [intOf]; omega
            · have hla2 : at_ < l := by omega
              clear hla
              have C : Hid (∀ w', Buck w' b r d h l → Calls Try.prog 22 #[.pointer (some ⟨b, 0, none⟩), .int .i64 at_, .int .i64 n] w' fun e w'' => e = .returned (.tuple #[.bool false, errV 7]) ∧ Buck w'' b r d h l ∧ w'.grownBy w'' (some b)) :=
                fun w' ho => (btake_state b r d h l at_ n w' ho v0 v1 v2 v3 hla2).mono fun e w'' ⟨h1, h2⟩ => ⟨h1, by subst h2; exact ho, by subst h2; exact grown_refl _ _⟩
              have HO2 : Hid (BkOk r d h l) := HO
              have HG2 := Lib.hid (HGd.out)
              skip
              go_wp2_with fail
              go_region_held3 (fun w' => w'.cell? ⟨gb, goff + k, none⟩ = some (.slice (some ⟨ib, ioff, none⟩) 2 ck) ∧ w'.cell? ⟨ib, ioff, none⟩ = some (.int .i64 at_) ∧ w'.cell? ⟨ib, ioff + 1, none⟩ = some (.int .i64 n)) (first | go_keep | exact ⟨hy, hy0, hy1⟩) ((first | (go_at_call 22; refine (C.out _ (Buck.drew HT.out)).mono ?_; rintro e w3 ⟨rfl, ho, hg⟩; have HT' := Lib.hid ho; clear ho; have HB' : Hid (Below w.heap.size w w3) := HB.out.drew.trans (below_grown hg hsz (Buck.drew HT.out).lt); have HG3 := Lib.hid hg; have hy := (HB'.out.cell (p := ⟨gb, goff + k, none⟩) hgb).trans HG.out; have hy0 := (HB'.out.cell (p := ⟨ib, ioff, none⟩) hib).trans HI0.out; have hy1 := (HB'.out.cell (p := ⟨ib, ioff + 1, none⟩) hib).trans HI1.out; clear hg)))
              clear hcx hc0 hc1
              have HA' := Lib.hid ((show wr.drew.ownsRow _ _ _ _ _ _ from HA.out).kept HG3.out (own_ne HA.out))
              have HM' := Lib.hid ((show wr.drew.ownsRow _ _ _ _ _ _ from HM.out).kept HG3.out (own_ne HM.out))
              clear HG3
              go_wp2
              go_roundw
              case rel => exact ⟨k + 1, _, _, ats, ms, by omega, by omega, by omega, by go_num, HO2.out, HG2, HT'.out, HA'.out, HM'.out, HP.out, HB'.out⟩
              case measure => simp [intOf]; omega
          · have HV := Lib.hid (show (at_ < 0 ∨ 1000 < at_) ∨ (n < 0 ∨ 100 < n) by omega)
            clear hv
            have C : Hid (∀ w', Buck w' b r d h l → Calls Try.prog 22 #[.pointer (some ⟨b, 0, none⟩), .int .i64 at_, .int .i64 n] w' fun e w'' => e = .returned (.tuple #[.bool false, errV 1]) ∧ Buck w'' b r d h l ∧ w'.grownBy w'' (some b)) :=
              fun w' ho => (btake_no b at_ n w' HV.out).mono fun e w'' ⟨h1, h2⟩ => ⟨h1, by subst h2; exact ho, by subst h2; exact grown_refl _ _⟩
            have HO2 : Hid (BkOk r d h l) := HO
            have HG2 := Lib.hid (HGd.out)
            skip
            go_wp2_with fail
            go_region_held3 (fun w' => w'.cell? ⟨gb, goff + k, none⟩ = some (.slice (some ⟨ib, ioff, none⟩) 2 ck) ∧ w'.cell? ⟨ib, ioff, none⟩ = some (.int .i64 at_) ∧ w'.cell? ⟨ib, ioff + 1, none⟩ = some (.int .i64 n)) (first | go_keep | exact ⟨hy, hy0, hy1⟩) ((first | (go_at_call 22; refine (C.out _ (Buck.drew HT.out)).mono ?_; rintro e w3 ⟨rfl, ho, hg⟩; have HT' := Lib.hid ho; clear ho; have HB' : Hid (Below w.heap.size w w3) := HB.out.drew.trans (below_grown hg hsz (Buck.drew HT.out).lt); have HG3 := Lib.hid hg; have hy := (HB'.out.cell (p := ⟨gb, goff + k, none⟩) hgb).trans HG.out; have hy0 := (HB'.out.cell (p := ⟨ib, ioff, none⟩) hib).trans HI0.out; have hy1 := (HB'.out.cell (p := ⟨ib, ioff + 1, none⟩) hib).trans HI1.out; clear hg)))
            clear hcx hc0 hc1
            have HA' := Lib.hid ((show wr.drew.ownsRow _ _ _ _ _ _ from HA.out).kept HG3.out (own_ne HA.out))
            have HM' := Lib.hid ((show wr.drew.ownsRow _ _ _ _ _ _ from HM.out).kept HG3.out (own_ne HM.out))
            clear HG3
            go_wp2
            go_roundw
            case rel => exact ⟨k + 1, _, _, ats, ms, by omega, by omega, by omega, by go_num, HO2.out, HG2, HT'.out, HA'.out, HM'.out, HP.out, HB'.out⟩
            case measure => simp [intOf]; omega
        · have hx : lk < 2 ∨ 2 < lk := by omega
          clear h2 hrow
          rcases hx with hx | hx
          all_goals
            go_wp2_with fail
            go_roundw
            case rel => exact ⟨k + 1, h, l, ats, ms, by omega, by omega, by omega, by go_num, HO.out, HGd, HT.out, HA.out, HM.out, HP.out, HB.out⟩
            case measure => simp [intOf]; omega
      · have hex : len ≤ k ∨ (k < len ∧ 60 ≤ k) := by omega
        clear hlt
        obtain ⟨a1, c1, hv1, I1⟩ := ints_own HA.out (show ats.length = ms.length from HGd.out.len) (fun k => by have := HGd.out.at0 k; omega)
        obtain ⟨a2, c2, hv2, I2⟩ := ints_own HM.out rfl (fun k => by have := HGd.out.m0 k; omega)
        subst hv1 hv2
        have HI1 := Lib.hid I1; clear I1
        have HI2 := Lib.hid I2; clear I2
        have hn60 : ms.length ≤ 60 := by omega
        clear HA HM HP HT HI
        obtain ⟨n, hn⟩ : ∃ n, n = ms.length := ⟨_, rfl⟩
        rw [← hn] at HI1 HI2 hn60 hmk ⊢
        have HGd2 := Lib.hid HGd.out
        have hE := Lib.hid hn
        clear hn HGd HL HO hmk
        have hBW := HB.out.size
        obtain ⟨wo, rfl⟩ : ∃ wo : World, wo = wr := ⟨_, rfl⟩
        rcases hex with hex | ⟨hex, hex2⟩
        all_goals
          go_wp2_with fail
          go_loopw [15] (fun v15 wr2 => ∃ i : Nat, i ≤ n ∧ v15 = .int .i64 i ∧ Below wo.heap.size wo wr2)
            (fun v15 _ => n - (intOf v15).toNat)
          case atStart => exact ⟨0, by omega, rfl, Below.refl _ _⟩
          case round =>
            obtain ⟨i, hin, rfl, hB2⟩ := hrel
            have HB2 := Lib.hid hB2; clear hB2
            by_cases hlt : i < n
            · obtain ⟨g1, o1, rfl, hg1, hi1⟩ := HI1.out.cell i hlt
              obtain ⟨g2, o2, rfl, hg2, hi2⟩ := HI2.out.cell i hlt
              clear hi2
              have HC1 := Lib.hid hi1; clear hi1
              obtain ⟨wi, rfl⟩ : ∃ wi : World, wi = wr := ⟨_, rfl⟩
              go_wp2_with fail
              go_loopw [16, 17] (fun v16 v17 wr3 => ∃ k : Nat, i ≤ k ∧ k ≤ n ∧ v17 = .int .i64 k ∧ v16 = .int .i64 (pre ms k - pre ms i) ∧ Below wo.heap.size wo wr3)
                (fun _ v17 _ => n - (intOf v17).toNat)
              case atStart => exact ⟨i, by omega, by omega, rfl, by rw [show pre ms i - pre ms i = 0 from by omega], HB2.out⟩
              case round =>
                obtain ⟨k, hik, hkn, rfl, rfl, hB3⟩ := hrel
                have HB3 := Lib.hid hB3; clear hB3
                by_cases hlt2 : k < n
                · obtain ⟨g1', o1', he1, _, hk1⟩ := HI1.out.cell k hlt2
                  obtain ⟨g2', o2', he2, _, hk2⟩ := HI2.out.cell k hlt2
                  simp only [Option.some.injEq, Addr.mk.injEq, and_true] at he1 he2
                  obtain ⟨rfl, rfl⟩ := he1
                  obtain ⟨rfl, rfl⟩ := he2
                  have c1 := (HB3.out.cell (p := ⟨g1, o1 + i, none⟩) hg1).trans HC1.out
                  have c2 := (HB3.out.cell (p := ⟨g1, o1 + k, none⟩) hg1).trans hk1
                  have c3 := (HB3.out.cell (p := ⟨g2, o2 + k, none⟩) hg2).trans hk2
                  clear hk1 hk2
                  have ai := HGd2.out.at0 i
                  have ak := HGd2.out.at0 k
                  have mk := HGd2.out.m0 k
                  have tw := HGd2.out.two i k hik (by have := hE.out; omega)
                  have ps := pre_step ms k (by have := hE.out; omega)
                  have pb := pre_bound HGd2.out.m0 i k hik (by have := hE.out; omega)
                  have mb := mul_box r0 r1 ai ak
                  rw [ps] at tw
                  have HPS := Lib.hid ps
                  clear ps
                  generalize ats.getD i 0 = ti at *
                  generalize ats.getD k 0 = tk at *
                  generalize ms.getD k 0 = mk at *
                  generalize pre ms k = pk at *
                  generalize pre ms i = pi at *
                  go_wp2_with fail
                  go_region
                  go_wp2
                  go_roundw
                  case rel => exact ⟨k + 1, by omega, by omega, by go_num, by rw [HPS.out]; go_num, HB3.out.drew⟩
                  case measure => simp [intOf]; omega
                · go_wp2_with fail
                  go_roundw
                  case rel => exact ⟨i + 1, by omega, by go_num, HB3.out⟩
                  case measure => simp [intOf]; omega
            · go_wp2_with fail
              go_ret
              exact ⟨rfl, HB.out.trans (HB2.out.mono hBW)⟩
  · have H := Lib.hid (show (r < 0 ∨ 20 < r) ∨ (d < 0 ∨ 100 < d) by omega)
    clear hv
    go_enter Try.func7, Try.ntmps7
    go_wp2_with fail
    refine (bfact_any _).mono ?_
    rintro e w1 ⟨rfl, hb1⟩
    have B1 := Lib.hid hb1; clear hb1
    go_wp2_with fail
    refine (bnew_no _ _ _ H.out).mono ?_
    rintro e w' ⟨rfl, rfl⟩
    by_cases hr2 : 0 ≤ r ∧ r ≤ 20
    · have HV := Lib.hid (show d < 0 ∨ 100 < d by have := H.out; omega)
      obtain ⟨r0, r1⟩ := hr2
      go_wp2_with fail
      refine (in_in _ _ _ _ r0 r1).mono ?_
      rintro e w' ⟨rfl, rfl⟩
      go_wp2_with fail
      refine (in_out _ _ _ _ HV.out).mono ?_
      rintro e w' ⟨rfl, rfl⟩
      go_wp2
      go_ret
      exact ⟨rfl, B1.out⟩
    · have HV := Lib.hid (show r < 0 ∨ 20 < r by omega)
      clear hr2
      go_wp2_with fail
      refine (in_out _ _ _ _ HV.out).mono ?_
      rintro e w' ⟨rfl, rfl⟩
      go_wp2
      go_ret
      exact ⟨rfl, B1.out⟩
end Go.Proofs.Ythnpbcnnpmohaaa.bucketBound
