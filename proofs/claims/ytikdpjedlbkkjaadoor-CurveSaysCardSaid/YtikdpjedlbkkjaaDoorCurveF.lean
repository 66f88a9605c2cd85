/- The contracts of package curve: Backlog, Fits. -/
import Derived.Test.YtikdpjedlbkkjaaDoorCurve
namespace Go.Proofs.YtikdpjedlbkkjaaDoor
open Go.RowKit
set_option linter.unusedSimpArgs false
set_option linter.unusedVariables false

def gD (l : List Int) : Nat → Int := fun k => l.getD k 0

theorem backlog_yes (a b : Option Addr) (len ca cb : Nat) (fs gs : List Int) (B1 B2 : Nat) (w : World) (hF : Ints w B1 a len fs) (hG : Ints w B2 b len gs) (h0 : bothE fs gs = 0) :
    Calls Tryd.prog 14 #[.slice a len ca, .slice b len cb] w fun e w' => e = .returned (.tuple #[.int .i64 (Cv.bkN (gD fs) (gD gs) len), .nilIface]) ∧ Drawn w w' := by
  have C := Lib.hid (cvboth_any a b len ca len cb fs gs B1 B2 w hF hG)
  rw [h0] at C
  obtain ⟨hf, hg, _⟩ := both_zero h0
  have hfl := hF.size
  have hroom := hf.few
  rw [hfl] at hroom
  have bf : Hid (∀ k, k < len → 0 ≤ gD fs k ∧ gD fs k ≤ 1000) := by show ∀ k, _; rw [← hfl]; exact hf.fits
  have bg : Hid (∀ k, k < len → 0 ≤ gD gs k ∧ gD gs k ≤ 1000) := by show ∀ k, _; rw [← hG.size]; exact hg.fits
  have HF := Lib.hid hF; clear hF
  have HG := Lib.hid hG; clear hG
  clear h0 hf hg hfl
  go_enter Tryd.func14, Tryd.ntmps14
  go_wp2_with fail
  refine C.out.mono ?_
  rintro e w1 ⟨he, hd⟩
  have he2 : e = .returned .nilIface := he
  subst he2
  have HD1 : Hid (Drawn w w1) := hd
  clear hd he C
  go_wp2_with fail
  go_loopw [7, 17] (fun v7 v17 wr => ∃ (k : Nat) (x : Int), k ≤ len ∧ v17 = .int .i64 k ∧ v7 = .int .i64 x ∧ 0 ≤ x ∧ x ≤ 1000 ∧ Hid (x = Cv.bkN (gD fs) (gD gs) k) ∧ Drawn w wr) (fun _ v17 _ => len - (intOf v17).toNat)
  case atStart => exact ⟨0, 0, by omega, rfl, rfl, by decide, by decide, rfl, HD1.out⟩
  case round =>
    obtain ⟨k, x, hk, rfl, rfl, x0, x1, HX, hdw⟩ := hrel
    have HW := Lib.hid hdw; clear hdw HD1
    by_cases hlt : k < len
    · obtain ⟨fb, fo, rfl, _, hc⟩ := HF.out.cell k hlt
      obtain ⟨gb, go_, rfl, _, hc2⟩ := HG.out.cell k hlt
      have hc := HW.out.cell hc
      have hc2 := HW.out.cell hc2
      have b1 := bf.out k hlt
      have b2 := bg.out k hlt
      have hs : Cv.bkN (gD fs) (gD gs) (k + 1) = max x (gD fs k - gD gs k) := by rw [HX.out]; rfl
      unfold gD at b1 b2
      have HS : Hid (Cv.bkN (gD fs) (gD gs) (k + 1) = max x (fs.getD k 0 - gs.getD k 0)) := hs
      clear hs HX
      generalize fs.getD k 0 = u at *
      generalize gs.getD k 0 = v at *
      have q1 : (0 : Int) ≤ (k : Int) := by omega
      have q2 : (k : Int) < (len : Int) := by omega
      have q3 : IntKind.i64.wrap (u - v) = u - v := IntWalk.i64_in _ (by omega)
      by_cases hm : x < u - v
      · have HS2 : Hid (u - v = Cv.bkN (gD fs) (gD gs) (k + 1)) := by show _ = _; rw [HS.out]; omega
        clear HS
        go_wp2_with fail
        go_region
        all_goals go_wp2
        all_goals go_roundw
        all_goals first
          | exact ⟨⟨k + 1, u - v, by omega, by go_num, by go_num, by omega, by omega, HS2.out, by first | exact HW.out.drew | exact HW.out.more _⟩, by simp [intOf] <;> omega⟩
          | exact ⟨k + 1, u - v, by omega, by go_num, by go_num, by omega, by omega, HS2.out, by first | exact HW.out.drew | exact HW.out.more _⟩
          | (simp [intOf] <;> omega)
      · have HS2 : Hid (x = Cv.bkN (gD fs) (gD gs) (k + 1)) := by show _ = _; rw [HS.out]; omega
        have hm2 : u - v ≤ x := by omega
        clear HS hm
        go_wp2_with fail
        go_region
        all_goals go_wp2
        all_goals go_roundw
        all_goals first
          | exact ⟨k + 1, x, by omega, by go_num, by go_num, by omega, by omega, HS2.out, by first | exact HW.out.drew | exact HW.out.more _⟩
          | (simp [intOf] <;> omega)
    · have HE : Hid (x = Cv.bkN (gD fs) (gD gs) len) := by show _ = _; rw [HX.out, show k = len from by omega]
      go_wp2
      go_ret2
      exact ⟨by rw [HE.out]; rfl, HW.out⟩
end Go.Proofs.YtikdpjedlbkkjaaDoor
