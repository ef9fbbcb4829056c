/- The walk of the law SumsBack. -/
import Derived.Test.YtecokglofocgiaaSame
import Derived.Test.YtecokglofocgiaaRefExt
namespace Go.Proofs.Ytecokglofocgiaa
set_option linter.unusedVariables false
set_option linter.unusedSimpArgs false
open Go.RowKit

/-- one octet of a row is raised by one -/
theorem inc_step {w : World} {B g c : Nat} {l : List UInt8} (h : RowB w B (some ⟨g, 0, none⟩) c l) {k : Nat} (hk : k < l.length) :
    ∃ (u v : Nat) (l2 : List UInt8), u < 256 ∧ w.cell? ⟨g, k, none⟩ = some (.int .u8 (u : Int)) ∧ w.frozen? ⟨g, k, none⟩ = false ∧ IntKind.u8.wrap ((u : Int) + 1) = (v : Int) ∧
      RowB (w.setCell ⟨g, k, none⟩ (.int .u8 (v : Int))) B (some ⟨g, 0, none⟩) c l2 ∧ l2.length = l.length :=
  ⟨l[k].toNat, (l[k] + 1).toNat, l.set k (l[k] + 1), l[k].toNat_lt, h.at_ hk, Row.free h k, u8_inc _, h.set k _, List.length_set⟩

set_option maxHeartbeats 2000000 in
set_option maxRecDepth 100000 in
theorem walk_SumsBack (W : World) (A1 : Option Addr) (b : List UInt8) (c1 : Nat) (h1 : RdB W A1 b) (hc1 : b.length ≤ c1) (hs1 : c1 ≤ 140737488351232) :
    Calls Try.prog 4 #[.slice A1 b.length c1] W fun e w' => e = .returned (.bool true) ∧ Below W.heap.size W w' := by
  by_cases hl : b.length > 300
  · go_enter Try.func4, Try.ntmps4
    go_wp2_with (go_at_call 9; (with_reducible refine (lives_any _).mono ?_); rintro e w1 ⟨rfl, hB⟩)
    go_ret
    exact ⟨rfl, hB⟩
  · have hadd := fun w (hb : Below W.heap.size W w) => add_any A1 b c1 w (h1.below hb) (by omega)
    have hsum := fun w (hb : Below W.heap.size W w) => refsum_any A1 b c1 w (h1.below hb) (by omega)
    have hres := crc_fcs b
    have hl2 : (b ++ fcs b).length = b.length + 2 := by simp [fcs]
    obtain ⟨sl, hsl⟩ : ∃ sl, sl = b ++ fcs b := ⟨_, rfl⟩
    rw [← hsl] at hadd hres hl2
    have hsll : sl.length ≤ 302 := by omega
    have hx := crcSum_lt b
    have hlo := (fcs_lo b).symm
    have hhi := (fcs_hi b).symm
    have hf : fcs b = [UInt8.ofNat (crcSum b % 256), UInt8.ofNat (crcSum b / 256)] := rfl
    generalize UInt8.ofNat (crcSum b % 256) = b0 at *
    generalize UInt8.ofNat (crcSum b / 256) = b1 at *
    have HADD := Lib.hid hadd
    have HSUM := Lib.hid hsum
    have HRES := Lib.hid hres
    have HL2 := Lib.hid hl2
    have HSL := Lib.hid hsl
    have HF := Lib.hid hf
    clear hadd hsum hres hl2 hsl hf
    go_enter Try.func4, Try.ntmps4
    go_wp2_with (first
      | ((with_reducible refine at_dst 16 rfl ?_)
         refine append_bytes rfl (.const (.slice none 0 0)) (.tmp 15) rfl W.heap.size none 0 0 [] rfl rfl (RowB.nil _ _) A1 b.length c1 b rfl rfl h1 b rfl (by omega) W (Below.refl _ _) (Nat.le_refl _) ?_
         intro A3 c3 w3 h3 hg3 hB3 hsz3)
      | fail)
    refine (HADD.out _ hB3).mono ?_
    rintro e w4 ⟨A4, rfl, hR4, hB4⟩
    have hlt33 := Row.lt h3
    go_wp2_with fail
    refine (HSUM.out _ (below_then hB3 hB4)).mono ?_
    rintro e w5 ⟨rfl, hB5⟩
    have h5 := h3.below (below_then hB4 hB5)
    replace hR4 := hR4.below hB5
    have hB5' := below_then (below_then hB3 hB4) hB5
    have h15 := RdB.below h1 hB5'
    have hsz5 := hB5'.size
    have hsum2 := fun w (hb : Below W.heap.size W w) => sum_any A1 b c1 w (h1.below hb) (by omega)
    generalize crcSum b = x at *
    have HSUM2 := Lib.hid hsum2
    clear hB4 hB5 hsum2
    go_wp2_with (first
      | ((with_reducible refine at_dst 23 rfl ?_)
         refine append_bytes rfl (.const (.slice none 0 0)) (.tmp 22) rfl w5.heap.size none 0 0 [] rfl rfl (RowB.nil _ _) A1 b.length c1 b rfl rfl h15 b rfl (by omega) w5 (Below.refl _ _) (Nat.le_refl _) ?_
         intro A6 c6 w6 h6 hg6 hB6 hsz6)
      | ((with_reducible refine at_dst 31 rfl ?_)
         refine append_bytes rfl (.tmp 23) (.tmp 30) rfl w5.heap.size A6 b.length c6 b rfl rfl (Row.alloc h6 _) (some ⟨w6.heap.size, 0, none⟩) 2 2 [b0, b1] rfl rfl (rd_lit w6 [b0, b1]) sl (by rw [HSL.out, HF.out]) (by omega) w5 (hB6.alloc hsz6 _) (by simp; omega) ?_
         intro A7 c7 w7 h7 hg7 hB7 hsz7)
      | fail)
    replace hR4 := hR4.below hB7
    replace h5 := h5.below hB7
    have hB7' := below_then hB5' hB7
    refine (bytes_yes A4 A7 sl c7 w7 hR4.rd h7.rd (by omega)).mono ?_
    rintro e w8 ⟨rfl, n8, rfl⟩
    have hB8 := below_drewN hB7' n8
    replace hR4 : RowB (w7.drewN n8) _ A4 sl.length sl := Row.drewN hR4 n8
    replace h5 : RowB (w7.drewN n8) _ A3 c3 b := Row.drewN h5 n8
    clear h6 h7 hg6 hg7 hB6 hB7 hB7' hg3 h15 hB5' hsz5 hsz6 hsz7
    generalize w7.drewN n8 = w8 at *
    go_wp2_with fail
    refine (start_any _).mono ?_
    rintro e w9 ⟨rfl, rfl⟩
    go_wp2_with fail
    have hE : Calls Try.prog 10 #[.int .u16 65535, .slice A4 sl.length sl.length] w8 fun e w' => e = .returned (.int .u16 61624) ∧ Below w8.heap.size w8 w' := by
      have := extend_any 65535 (by omega) A4 sl sl.length w8 hR4.rd (by omega)
      rw [HRES.out] at this
      exact this
    refine hE.mono ?_
    rintro e w9 ⟨rfl, hB9⟩
    replace hR4 := hR4.below hB9
    replace h5 := h5.below hB9
    replace hB9 := below_then hB8 hB9
    clear hE
    go_wp2_with fail
    refine (HSUM2.out _ hB9).mono ?_
    rintro e w10 ⟨rfl, hB10⟩
    replace hR4 := hR4.below hB10
    replace h5 := h5.below hB10
    replace hB10 := below_then hB9 hB10
    go_wp2_with fail
    refine (check_ok A4 b sl HSL.out sl.length w10 hR4.rd (Nat.le_refl _) (by omega)).mono ?_
    rintro e w11 ⟨A11, rfl, hR11, hB11⟩
    have hlt4 := Row.lt hR4
    have hlt3 := Row.lt h5
    replace hR4 := hR4.below hB11
    replace h5 := h5.below hB11
    replace hB11 := below_then hB10 hB11
    go_wp2_with fail
    refine (bytes_yes A11 A1 b c1 w11 hR11.rd (h1.below hB11) (by omega)).mono ?_
    rintro e w12 ⟨rfl, n12, rfl⟩
    have hB12 := below_drewN hB11 n12
    replace hR4 : RowB (w11.drewN n12) _ A4 sl.length sl := Row.drewN hR4 n12
    replace h5 : RowB (w11.drewN n12) _ A3 c3 b := Row.drewN h5 n12
    replace hR11 : RowB (w11.drewN n12) _ A11 b.length b := Row.drewN hR11 n12
    generalize w11.drewN n12 = w12 at *
    have hsz12 := hB12.size
    go_wp2_with (first
      | ((with_reducible refine at_dst 60 rfl ?_)
         refine append_bytes rfl (.const (.slice none 0 0)) (.tmp 59) rfl w12.heap.size none 0 0 [] rfl rfl (RowB.nil _ _) A4 sl.length sl.length sl rfl rfl hR4.rd sl rfl (by omega) w12 (Below.refl _ _) (Nat.le_refl _) ?_
         intro A13 c13 w13 h13 hg13 hB13 hsz13)
      | fail)
    replace hR4 := hR4.below hB13
    replace h5 := h5.below hB13
    have hlt11 := Row.lt hR11
    replace hR11 := hR11.below hB13
    have hlt13 := Row.lt h13
    replace hB13 := below_then hB12 hB13
    have d4 : ∀ g, A11.map (·.block) = some g → ∀ k, A4.map (·.block) = some k → k ≠ g := fun g hg k hk => by have := (hlt4 k hk).2; have := (hlt11 g hg).1; omega
    have d3 : ∀ g, A11.map (·.block) = some g → ∀ k, A3.map (·.block) = some k → k ≠ g := fun g hg k hk => by have := (hlt3 k hk).2; have := (hlt11 g hg).1; omega
    have d13 : ∀ g, A11.map (·.block) = some g → ∀ k, A13.map (·.block) = some k → k ≠ g := fun g hg k hk => by have := (hlt13 k hk).1; have := (hlt11 g hg).2; omega
    have d34 : ∀ g, A4.map (·.block) = some g → ∀ k, A3.map (·.block) = some k → k ≠ g := fun g hg k hk => by have := (hlt33 k hk).2; have := (hlt4 g hg).1; omega
    have g11 : ∀ g, A11.map (·.block) = some g → W.heap.size ≤ g := fun g hg => by have := (hlt11 g hg).1; have := hB10.size; omega
    have g4 : ∀ g, A4.map (·.block) = some g → W.heap.size ≤ g := fun g hg => by have := (hlt4 g hg).1; omega
    clear hB8 hB9 hB10 hB11 hB12 hsz12 hsz13 hg13 hlt3 hlt4 hlt11 hlt13 hlt33 HADD HSUM HSUM2 HRES HSL HF HL2 hlo hhi
    obtain ⟨bl, hbl⟩ : ∃ bl, bl = b := ⟨_, rfl⟩
    have hR11' : RowB w13 w10.heap.size A11 b.length bl := by rw [hbl]; exact hR11
    have hbl2 : bl.length = b.length := by rw [hbl]
    have HBL := Lib.hid hbl2
    clear hbl hbl2 hR11
    go_loopw [9] (fun i wr => ∃ k : Nat, k ≤ b.length ∧ i = .int .i64 k ∧ (∃ l : List UInt8, l.length = b.length ∧ RowB wr w10.heap.size A11 b.length l) ∧ RowB wr w3.heap.size A4 sl.length sl ∧ RowB wr W.heap.size A3 c3 b ∧ RowB wr w12.heap.size A13 c13 sl ∧ Below W.heap.size W wr) (fun i _ => b.length - (intOf i).toNat)
    case atStart => exact ⟨0, by omega, rfl, ⟨bl, HBL.out, hR11'⟩, hR4, h5, h13, hB13⟩
    case round =>
      clear hR11' hR4 h5 h13 hB13
      obtain ⟨k, hk, rfl, ⟨l, hl0, hR11⟩, hR4, h5, h13, hB13⟩ := hrel
      by_cases hlt : k < b.length
      · obtain ⟨g, e, _, _, _, _⟩ := Row.form hR11 (by omega)
        subst e
        obtain ⟨u, v, l2, hu, hc, hfr, hin, q1, hl2⟩ := inc_step hR11 (k := k) (by omega)
        have q2 := hR4.other (k := k) (d4 g rfl) (.int .u8 (v : Int))
        have q3 := h5.other (k := k) (d3 g rfl) (.int .u8 (v : Int))
        have q4 := h13.other (k := k) (d13 g rfl) (.int .u8 (v : Int))
        have q5 := hB13.setCell (p := ⟨g, k, none⟩) (g11 g rfl) (.int .u8 (v : Int))
        have HL := Lib.hid (hl2.trans hl0)
        clear hR4 h5 h13 hB13 hl2 hl0 hR11
        go_wp2
        go_roundw
        case rel => exact ⟨k + 1, by omega, by go_num, ⟨l2, HL.out, q1⟩, q2, q3, q4, q5⟩
        case measure => simp [intOf]; omega
      · have HS := Lib.hid (same_any A4 A13 sl sl sl.length c13 wr hR4.rd h13.rd (by omega))
        rw [decide_eq_true rfl] at HS
        go_wp2_with (first | (go_at_call 18; (with_reducible refine HS.out.mono ?_); rintro e w14 ⟨rfl, n14, rfl⟩) | fail)
        have hR4' : RowB (wr.drewN n14) w3.heap.size A4 sl.length sl := Row.drewN hR4 n14
        have h5' : RowB (wr.drewN n14) W.heap.size A3 c3 b := Row.drewN h5 n14
        have hB13' := below_drewN hB13 n14
        clear hR4 h5 hB13 h13 hR11
        generalize wr.drewN n14 = w14 at *
        obtain ⟨tl, htl⟩ : ∃ tl, tl = sl := ⟨_, rfl⟩
        have htl2 : tl.length = sl.length := by rw [htl]
        have hR4'' : RowB w14 w3.heap.size A4 sl.length tl := by rw [htl]; exact hR4'
        have HTL := Lib.hid htl2
        clear htl htl2 hR4'
        go_loopw [10] (fun i wr => ∃ k : Nat, k ≤ sl.length ∧ i = .int .i64 k ∧ (∃ l : List UInt8, l.length = sl.length ∧ RowB wr w3.heap.size A4 sl.length l) ∧ RowB wr W.heap.size A3 c3 b ∧ Below W.heap.size W wr) (fun i _ => sl.length - (intOf i).toNat)
        case atStart => exact ⟨0, by omega, rfl, ⟨tl, HTL.out, hR4''⟩, h5', hB13'⟩
        case round =>
          clear hR4'' h5' hB13'
          obtain ⟨k, hk, rfl, ⟨l, hl0, hR4⟩, h5, hB13⟩ := hrel
          by_cases hlt : k < sl.length
          · obtain ⟨g, e, _, _, _, _⟩ := Row.form hR4 (by omega)
            subst e
            obtain ⟨u, v, l2, hu, hc, hfr, hin, q1, hl2⟩ := inc_step hR4 (k := k) (by omega)
            have q3 := h5.other (k := k) (d34 g rfl) (.int .u8 (v : Int))
            have q5 := hB13.setCell (p := ⟨g, k, none⟩) (g4 g rfl) (.int .u8 (v : Int))
            have HL := Lib.hid (hl2.trans hl0)
            clear hR4 h5 hB13 hl2 hl0
            go_wp2
            go_roundw
            case rel => exact ⟨k + 1, by omega, by go_num, ⟨l2, HL.out, q1⟩, q3, q5⟩
            case measure => simp [intOf]; omega
          · have HS := Lib.hid (same_any A1 A3 b b c1 c3 wr (h1.below hB13) h5.rd (by omega))
            rw [decide_eq_true rfl] at HS
            go_wp2_with (first
              | (go_at_call 18; (with_reducible refine HS.out.mono ?_); rintro e w15 ⟨rfl, n15, rfl⟩)
              | (go_at_call 9; (with_reducible refine (lives_any _).mono ?_); rintro e w16 ⟨rfl, hB16⟩)
              | fail)
            go_ret
            exact ⟨rfl, below_then (below_drewN hB13 n15) hB16⟩
end Go.Proofs.Ytecokglofocgiaa
