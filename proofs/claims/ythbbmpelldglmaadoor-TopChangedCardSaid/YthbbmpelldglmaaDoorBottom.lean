/- 'pointcodetop.bottom': a unit's way to the bits and back. -/
import Derived.Test.YthbbmpelldglmaaDoorUnitsOf
namespace Go.Proofs.YthbbmpelldglmaaDoor
set_option linter.unusedVariables false
set_option linter.unusedSimpArgs false
open Go.RowKit

def botU : Un := ⟨1, false, 2, true, 2, 0, [255, 126]⟩
theorem botU_ok : botU.Ok := ⟨by decide, by decide, .inr (.inr ⟨rfl, rfl, by decide, by decide⟩)⟩
theorem botU_len : (botU.octets ++ fcs botU.octets).length = 7 := by rw [List.length_append, fcs_len, botU.octets_len]; rfl

theorem run_one (P : List UInt8) (h5 : 5 ≤ P.length) (h280 : P.length ≤ 280) : Run fresh0 (joined [P]) (start [P]) := by
  have := run_joined [P] fresh0 [] run_first (by intro d hd; simp at hd; subst hd; exact ⟨h5, h280⟩) 1 (by simp)
  simpa using this

set_option maxHeartbeats 4000000 in
set_option maxRecDepth 100000 in
theorem bottom_any (w : World) (hFl : Flag w) :
    Calls Tryd.prog 22 #[] w fun e w' => e = .returned (.bool true) ∧ Below w.heap.size w w' := by
  have hlen := botU_len
  have henc := fun A c w h => encode_any botU botU_ok A c w h
  have hdec := fun A c w h hc hcm => decode_any botU botU_ok A c w h hc hcm
  have hol : botU.octets.length = 5 := by rw [botU.octets_len]; rfl
  have hsame := fun A A2 c c2 w h h2 => unitSame_yes botU A A2 c c2 w h h2 (by decide)
  generalize hO : botU.octets = O at *
  obtain ⟨P, hP⟩ : ∃ P, P = O ++ fcs O := ⟨_, rfl⟩
  have hadd := fun A c w h => add_any A O c w h (by omega)
  rw [← hP] at hlen hadd
  have hchk := fun A c w h hc => check_ok A O P hP c w h hc (by omega)
  have hfr := fun A c w h hF => frame_any A P c w h (by omega) (by omega) hF
  have hrun := run_one P (by omega) (by omega)
  have hjl : (joined [P]).length ≤ 4508 := joined_len [P] (by intro d hd; simp at hd; subst hd; omega) 1 (by simp)
  generalize joined [P] = J at *
  unfold botU Un.val at henc hdec hsame
  simp only at henc hdec hsame
  have henc2 : ∀ (A : Option Addr) (c : Nat) (w : World), RdB w A [255, 126] → Calls Tryd.prog 16 #[.agg #[.int .u8 1, .bool false, .int .u8 2, .bool true, .int .u8 2, .int .u8 0, .slice A 2 c]] w fun e w' => ∃ A', e = .returned (.tuple #[.slice A' O.length O.length, .int .i64 0]) ∧ RowB w' w.heap.size A' O.length O ∧ Below w.heap.size w w' := henc
  have hdec2 : ∀ (A : Option Addr) (c : Nat) (w : World), RdB w A O → O.length ≤ c → c ≤ 140737488351232 → Calls Tryd.prog 83 #[.slice A O.length c] w fun e w' => ∃ A', e = .returned (.tuple #[.agg #[.int .u8 1, .bool false, .int .u8 2, .bool true, .int .u8 2, .int .u8 0, .slice A' 2 2], .int .i64 0]) ∧ RowB w' w.heap.size A' 2 [255, 126] ∧ Below w.heap.size w w' := hdec
  have hsame2 : ∀ (A A2 : Option Addr) (c c2 : Nat) (w : World), RdB w A [255, 126] → RdB w A2 [255, 126] → Calls Tryd.prog 23 #[.agg #[.int .u8 1, .bool false, .int .u8 2, .bool true, .int .u8 2, .int .u8 0, .slice A 2 c], .agg #[.int .u8 1, .bool false, .int .u8 2, .bool true, .int .u8 2, .int .u8 0, .slice A2 2 c2]] w fun e w' => e = .returned (.bool true) ∧ Below w.heap.size w w' := hsame
  have HENC := Lib.hid henc2
  have HDEC := Lib.hid hdec2
  have HSAME := Lib.hid hsame2
  have HADD := Lib.hid hadd
  have HCHK := Lib.hid hchk
  have HFR := Lib.hid hfr
  have HRUN := Lib.hid hrun
  have HP := Lib.hid hP
  have HOL := Lib.hid hol
  have HO := Lib.hid hO
  have HLEN := Lib.hid hlen
  have hP5 : 5 ≤ P.length := by omega
  have hP280 : P.length ≤ 280 := by omega
  have hO10 : O.length ≤ 10 := by omega
  clear hol hlen henc henc2 hdec hdec2 hsame hsame2 hadd hchk hfr hrun hP hO
  have hlit : RdB ((w.alloc (.cells #[.int .u8 255, .int .u8 126] 5)).alloc (.cells #[.int .u8 1, .bool false, .int .u8 2, .bool true, .int .u8 2, .int .u8 0, .slice (some ⟨w.heap.size, 0, none⟩) 2 2] 45)) (some ⟨w.heap.size, 0, none⟩) [255, 126] := (rd_lit w [255, 126]).alloc _
  have hW := below_alloc ((Below.refl w.heap.size w).alloc (Nat.le_refl _) (.cells #[.int .u8 255, .int .u8 126] 5)) (.cells #[.int .u8 1, .bool false, .int .u8 2, .bool true, .int .u8 2, .int .u8 0, .slice (some ⟨w.heap.size, 0, none⟩) 2 2] 45)
  go_enter Tryd.func22, Tryd.ntmps22
  go_wp2_with fail
  with_reducible refine (HENC.out (some ⟨w.heap.size, 0, none⟩) 2 _ hlit).mono ?_
  rintro e w1 ⟨A1, rfl, hR1, hB1⟩
  go_wp2_with fail
  with_reducible refine (HADD.out A1 O.length w1 hR1.rd).mono ?_
  rintro e w2 ⟨A2, rfl, hR2, hB2⟩
  have hb2 := below_then hW (below_then hB1 hB2)
  go_wp2_with fail
  with_reducible refine (HFR.out A2 P.length w2 hR2.rd (hFl.below hb2)).mono ?_
  rintro e w3 ⟨A3, rfl, hR3, hB3⟩
  go_wp2_with fail
  with_reducible refine (new_any w3).mono ?_
  rintro e w4 ⟨rfl, hSc, hB4⟩
  have hlow : Low w3.heap.size A3 := fun ad e => by
    have := (Row.lt hR3 ad.block (by rw [e]; rfl)).2
    exact this
  go_wp2_with fail
  with_reducible refine (feed_any w3.heap.size w3.heap.size fresh0 (start [P]) A3 J J.length w4 hSc HRUN.out (hR3.rd.below hB4) hlow (by omega) (by decide) (by decide) (by decide)).mono ?_
  rintro e w5 ⟨Af, ss, rfl, hS, hcap, hcs, hsc, hB5⟩
  have hss : ∃ x1 x2, ss = [(x1, x2, P)] := by
    have h1 : conts ss = [P] := hcs
    match ss, h1 with
    | [(a, b, d)], h1 => simp [conts] at h1; subst h1; exact ⟨a, b, rfl⟩
  obtain ⟨x1, x2, rfl⟩ := hss
  obtain ⟨⟨ad, e, hc⟩, hrd⟩ := hS 0 _ rfl
  subst e
  simp only at hc hrd
  rw [show ad.add 0 = ad from by unfold Addr.add; simp] at hc
  have hcx : P.length ≤ x2 := hcap (x1, x2, P) (by simp)
  have h7 : ((P.length : Int) == 7) = true := by rw [HLEN.out]; rfl
  have h7' : ((P.length : Int) != 7) = false := by rw [HLEN.out]; rfl
  clear hcs hcap hS
  go_wp2_with fail
  with_reducible refine (HCHK.out x1 x2 w5 hrd hcx).mono ?_
  rintro e w6 ⟨A6, rfl, hR6, hB6⟩
  go_wp2_with fail
  with_reducible refine (HDEC.out A6 O.length w6 hR6.rd (Nat.le_refl _) (by omega)).mono ?_
  rintro e w7 ⟨A7, rfl, hR7, hB7⟩
  have bX := below_then hB1 (below_then hB2 (below_then hB3 (below_then (hB4.trans hB5) (below_then hB6 hB7))))
  have o1 := (bX.block (w.heap.size + 1) (by simp)).trans (heap_alloc2_new w _ _)
  have hl7 := hlit.below bX
  have y0 : w7.cell? ⟨w.heap.size + 1, 0, none⟩ = some (.int .u8 1) := by rw [cell_of_row _ _ _ _ _ _ o1]; rfl
  have y1 : w7.cell? ⟨w.heap.size + 1, 1, none⟩ = some (.bool false) := by rw [cell_of_row _ _ _ _ _ _ o1]; rfl
  have y2 : w7.cell? ⟨w.heap.size + 1, 2, none⟩ = some (.int .u8 2) := by rw [cell_of_row _ _ _ _ _ _ o1]; rfl
  have y3 : w7.cell? ⟨w.heap.size + 1, 3, none⟩ = some (.bool true) := by rw [cell_of_row _ _ _ _ _ _ o1]; rfl
  have y4 : w7.cell? ⟨w.heap.size + 1, 4, none⟩ = some (.int .u8 2) := by rw [cell_of_row _ _ _ _ _ _ o1]; rfl
  have y5 : w7.cell? ⟨w.heap.size + 1, 5, none⟩ = some (.int .u8 0) := by rw [cell_of_row _ _ _ _ _ _ o1]; rfl
  have y6 : w7.cell? ⟨w.heap.size + 1, 6, none⟩ = some (.slice (some ⟨w.heap.size, 0, none⟩) 2 2) := by rw [cell_of_row _ _ _ _ _ _ o1]; rfl
  have hbw := below_then hW bX
  obtain ⟨ad7, e7, z7⟩ := hR7.rd.get (k := 1) (by simp)
  subst e7
  rw [show ad7.add 1 = ⟨ad7.block, ad7.off + 1, none⟩ from add_succ ad7 0] at z7
  have z7' : w7.cell? ⟨ad7.block, ad7.off + 1, none⟩ = some (.int .u8 126) := z7
  have hap := below_alloc hbw (.cells #[.int .u8 1, .bool false, .int .u8 2, .bool true, .int .u8 2, .int .u8 0, .slice (some ad7) 2 2] 45)
  have Z8 := (Below.refl w7.heap.size w7).alloc (Nat.le_refl _) (.cells #[.int .u8 1, .bool false, .int .u8 2, .bool true, .int .u8 2, .int .u8 0, .slice (some ad7) 2 2] 45)
  have u0 := cell_later Z8 y0
  have u1 := cell_later Z8 y1
  have u2 := cell_later Z8 y2
  have u3 := cell_later Z8 y3
  have u4 := cell_later Z8 y4
  have u5 := cell_later Z8 y5
  have u6 := cell_later Z8 y6
  have u7 := cell_later Z8 z7'
  clear z7
  go_wp2_with fail
  with_reducible refine (HSAME.out (some ⟨w.heap.size, 0, none⟩) (some ad7) 2 2 _ (hl7.alloc _) (hR7.rd.alloc _)).mono ?_
  rintro e w9 ⟨rfl, hB9⟩
  have o9 := (hB9.block w7.heap.size (by simp)).trans (heap_alloc_new w7 _)
  have v2 : w9.cell? ⟨w7.heap.size, 2, none⟩ = some (.int .u8 2) := by rw [cell_of_row _ _ _ _ _ _ o9]; rfl
  have v6 : w9.cell? ⟨w7.heap.size, 6, none⟩ = some (.slice (some ad7) 2 2) := by rw [cell_of_row _ _ _ _ _ _ o9]; rfl
  have v7 := cell_later hB9 u7
  go_wp2_with fail
  go_ret
  exact ⟨rfl, below_then hap hB9⟩
end Go.Proofs.YthbbmpelldglmaaDoor
