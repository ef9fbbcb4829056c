/- Equality of octets: 'pointcoderef01.Same', 'pointcodelaw01.Bytes'; the examples of chapter 3. -/
import Derived.Test.YtecokglofocgiaaSums
import Derived.Deep.QuietTactic
import Derived.BigQuiet
import Derived.Lib.SlBytesConst
namespace Go.Proofs.Ytecokglofocgiaa
set_option linter.unusedVariables false
set_option linter.unusedSimpArgs false
open Go.RowKit

theorem same_step {a b : List UInt8} (hl : a.length = b.length) {k : Nat} (h : a.take k = b.take k) (hk : k < a.length) (e : a[k] = b[k]'(by omega)) : a.take (k + 1) = b.take (k + 1) := by
  rw [List.take_succ_eq_append_getElem hk, List.take_succ_eq_append_getElem (by omega : k < b.length), h, e]

set_option maxHeartbeats 1000000 in
theorem same_any (A A2 : Option Addr) (a b : List UInt8) (c c2 : Nat) (w : World) (ha : RdB w A a) (hb : RdB w A2 b) (hla : a.length ≤ 140737488351232) :
    Calls Try.prog 18 #[.slice A a.length c, .slice A2 b.length c2] w fun e w' => e = .returned (.bool (decide (a = b))) ∧ ∃ n, w' = w.drewN n := by
  by_cases hl : a.length = b.length
  · have HL := Lib.hid hl
    have hbl : b.length ≤ 140737488351232 := by omega
    have h1 : ((a.length : Int) != (b.length : Int)) = false := by rw [hl]; simp
    have h2 : ((a.length : Int) == (b.length : Int)) = true := by rw [hl]; simp
    have h3 : (a.length == b.length) = true := by rw [hl]; simp
    clear hl
    go_enter Try.func18, Try.ntmps18
    go_wp2
    clear h1 h2 h3
    go_loopw [5] (fun i wr => ∃ k : Nat, k ≤ a.length ∧ i = .int .i64 k ∧ a.take k = b.take k ∧ ∃ n, wr = w.drewN n) (fun i _ => a.length - (intOf i).toNat)
    case atStart => exact ⟨0, by omega, rfl, rfl, 0, rfl⟩
    case round =>
      obtain ⟨k, hk, rfl, ht, n, rfl⟩ := hrel
      by_cases hlt : k < a.length
      · have hltb : k < b.length := by have := HL.out; omega
        obtain ⟨ad, rfl, hc⟩ := ha.get hlt
        obtain ⟨ad2, rfl, hc2⟩ := hb.get hltb
        have HT := Lib.hid ht
        clear ht
        by_cases e : a[k] = b[k]
        · have HE := Lib.hid e
          rw [e] at hc
          clear e
          have q1 : (0 : Int) ≤ (k : Int) := by omega
          have q2 : (k : Int) < (a.length : Int) := by omega
          have q3 : (k : Int) < (b.length : Int) := by omega
          go_wp2
          go_quiet (fail)
          go_wp2
          go_roundw
          case rel => exact ⟨k + 1, by omega, by go_num, same_step HL.out HT.out hlt HE.out, n + nq, rfl⟩
          case measure => simp [intOf]; omega
        · have e1 := byte_ne e
          have e2 := byte_ne' e
          have HE := Lib.hid e
          clear e
          have q1 : (0 : Int) ≤ (k : Int) := by omega
          have q2 : (k : Int) < (a.length : Int) := by omega
          have q3 : (k : Int) < (b.length : Int) := by omega
          go_wp2
          go_quiet (fail)
          go_wp2
          go_ret
          refine ⟨?_, n + nq, World.drewN_drewN _ _ _⟩
          rw [decide_eq_false (fun h => HE.out (by subst h; rfl))]
          rfl
      · go_wp2
        go_ret
        refine ⟨?_, n, rfl⟩
        have hab : a = b := by
          rw [List.take_of_length_le (by omega), List.take_of_length_le (by have := HL.out; omega)] at ht
          exact ht
        rw [decide_eq_true hab]
        rfl
  · have h1 : ((a.length : Int) != (b.length : Int)) = true := by simp; omega
    have h2 : ((a.length : Int) == (b.length : Int)) = false := by simp; omega
    have h3 : (a.length == b.length) = false := by simp; omega
    have hne : a ≠ b := fun h => hl (by rw [h])
    have HN := Lib.hid hne
    clear hl hne
    go_enter Try.func18, Try.ntmps18
    go_wp2
    go_ret
    exact ⟨by rw [decide_eq_false HN.out]; rfl, 0, rfl⟩

/-- 'Bytes' finds two lists equal, the first without spare capacity -/
theorem bytes_yes (A A2 : Option Addr) (a : List UInt8) (c2 : Nat) (w : World) (ha : RdB w A a) (hb : RdB w A2 a) (hla : a.length ≤ 140737488351232) :
    Calls Try.prog 16 #[.slice A a.length a.length, .slice A2 a.length c2] w fun e w' => e = .returned (.int .i64 0) ∧ ∃ n, w' = w.drewN n := by
  have HS := same_any A A2 a a a.length c2 w ha hb hla
  rw [decide_eq_true rfl] at HS
  replace HS := Lib.hid HS
  go_enter Try.func16, Try.ntmps16
  go_wp2_with (go_at_call 18; (with_reducible refine HS.out.mono ?_); rintro e w1 ⟨rfl, n, rfl⟩)
  go_ret
  exact ⟨rfl, n, rfl⟩

theorem crc_mark : crcSum ([49, 50, 51, 52, 53, 54, 55, 56, 57] : List UInt8) = 36974 := by decide +kernel
theorem crc_none : crcSum [] = 0 := by decide
theorem fcs_zero : fcs [0] = [120, 240] := by decide +kernel

theorem check_yes_lit (W : World) : Calls Try.prog 17 #[.slice (some ⟨W.heap.size, 0, none⟩) 3 3] (W.alloc (.cells #[.int .u8 0, .int .u8 120, .int .u8 240] 5)) fun e w' =>
    ∃ A', e = .returned (.tuple #[.slice A' 1 1, .int .i64 0]) ∧ RowB w' W.heap.size A' 1 [0] ∧ Below W.heap.size W w' := by
  refine (check_core (some ⟨W.heap.size, 0, none⟩) [0, 120, 240] 1 3 _ (rd_lit W [0, 120, 240]) rfl (by simp) (by simp) 120 240 rfl rfl).mono ?_
  rintro e w' ⟨h, hB⟩
  rw [if_pos (by rw [show List.take 1 ([0, 120, 240] : List UInt8) = [0] from rfl, fcs_zero])] at h
  obtain ⟨A', rfl, hR⟩ := h
  have hs : W.heap.size ≤ (W.alloc (.cells #[.int .u8 0, .int .u8 120, .int .u8 240] 5)).heap.size := by simp
  exact ⟨A', rfl, Row.mono hR hs, ((Below.refl _ _).alloc (Nat.le_refl _) _).trans (hB.mono hs)⟩
theorem check_no_lit (W : World) : Calls Try.prog 17 #[.slice (some ⟨W.heap.size, 0, none⟩) 3 3] (W.alloc (.cells #[.int .u8 0, .int .u8 120, .int .u8 241] 5)) fun e w' =>
    e = .returned (.tuple #[.slice none 0 0, .int .i64 10]) ∧ Below W.heap.size W w' := by
  refine (check_core (some ⟨W.heap.size, 0, none⟩) [0, 120, 241] 1 3 _ (rd_lit W [0, 120, 241]) rfl (by simp) (by simp) 120 241 rfl rfl).mono ?_
  rintro e w' ⟨h, hB⟩
  rw [if_neg (by rw [show List.take 1 ([0, 120, 241] : List UInt8) = [0] from rfl, fcs_zero]; decide)] at h
  have hs : W.heap.size ≤ (W.alloc (.cells #[.int .u8 0, .int .u8 120, .int .u8 241] 5)).heap.size := by simp
  exact ⟨h, ((Below.refl _ _).alloc (Nat.le_refl _) _).trans (hB.mono hs)⟩
theorem sum_nil_lit (W : World) : Calls Try.prog 12 #[.slice none 0 0] W fun e w' => e = .returned (.int .u16 0) ∧ Below W.heap.size W w' := by
  have h := sum_any none [] 0 W (RdB.nil _ _) (by simp)
  rw [crc_none] at h
  exact h
theorem sum_nine_lit (W : World) : Calls Try.prog 12 #[.slice (some ⟨W.heap.size, 0, none⟩) 9 9] (W.alloc (.cells #[.int .u8 49, .int .u8 50, .int .u8 51, .int .u8 52, .int .u8 53, .int .u8 54, .int .u8 55, .int .u8 56, .int .u8 57] 5 (9, 10))) fun e w' =>
    e = .returned (.int .u16 36974) ∧ Below W.heap.size W w' := by
  have h := sum_any (some ⟨W.heap.size, 0, none⟩) [49, 50, 51, 52, 53, 54, 55, 56, 57] 9 _ (rd_lit W [49, 50, 51, 52, 53, 54, 55, 56, 57] (9, 10)) (by simp)
  rw [crc_mark] at h
  refine h.mono ?_
  rintro e w' ⟨rfl, hB⟩
  have hs : W.heap.size ≤ (W.alloc (.cells #[.int .u8 49, .int .u8 50, .int .u8 51, .int .u8 52, .int .u8 53, .int .u8 54, .int .u8 55, .int .u8 56, .int .u8 57] 5 (9, 10))).heap.size := by simp
  exact ⟨rfl, ((Below.refl _ _).alloc (Nat.le_refl _) _).trans (hB.mono hs)⟩
theorem add_lit_zero (W : World) : Calls Try.prog 14 #[.slice (some ⟨W.heap.size, 0, none⟩) 1 1] (W.alloc (.cells #[.int .u8 0] 5)) fun e w' =>
    ∃ A', e = .returned (.slice A' 3 3) ∧ RowB w' W.heap.size A' 3 [0, 120, 240] ∧ Below W.heap.size W w' := by
  have h := add_any (some ⟨W.heap.size, 0, none⟩) [0] 1 _ (rd_lit W [0]) (by simp)
  rw [fcs_zero] at h
  refine h.mono ?_
  rintro e w' ⟨A', rfl, hR, hB⟩
  have hs : W.heap.size ≤ (W.alloc (.cells #[.int .u8 0] 5)).heap.size := by simp
  exact ⟨A', rfl, Row.mono hR hs, ((Below.refl _ _).alloc (Nat.le_refl _) _).trans (hB.mono hs)⟩

theorem start_any (w : World) : Calls Try.prog 13 #[] w fun e w' => e = .returned (.int .u16 65535) ∧ w = w' := by
  go_enter Try.func13, Try.ntmps13
  go_wp2
  go_ret
  exact ⟨rfl, rfl⟩

set_option maxHeartbeats 1000000 in
theorem lives_any (w : World) : Calls Try.prog 9 #[] w fun e w' => e = .returned (.bool true) ∧ Below w.heap.size w w' := by
  have kc := fun (w : World) (C : Array Value) (n c : Nat) => Lib.run_convert_bytes_const (P := Try.prog) w 23 5 C n c Try.underlying23 Try.underlying5
  go_enter Try.func9, Try.ntmps9
  go_wp2_with fail
  refine (check_yes_lit _).mono ?_
  rintro e w1 ⟨A1, rfl, hR1, hB1⟩
  go_wp2_with fail
  refine (check_no_lit _).mono ?_
  rintro e w2 ⟨rfl, hB2⟩
  go_wp2_with fail
  refine (check_short _ 1 1 _ (by omega)).mono ?_
  rintro e w3 ⟨rfl, rfl⟩
  go_wp2_with fail
  refine (start_any _).mono ?_
  rintro e w3 ⟨rfl, rfl⟩
  go_wp2_with fail
  refine (sum_nil_lit _).mono ?_
  rintro e w4 ⟨rfl, hB4⟩
  go_wp2_with fail
  refine (sum_nine_lit _).mono ?_
  rintro e w5 ⟨rfl, hB5⟩
  go_wp2_with fail
  refine (add_lit_zero _).mono ?_
  rintro e w6 ⟨A6, rfl, hR6, hB6⟩
  go_wp2_with fail
  refine (bytes_yes A6 (some ⟨w6.heap.size, 0, none⟩) [0, 120, 240] 3 _ (hR6.rd.alloc _) (rd_lit w6 [0, 120, 240]) (by simp)).mono ?_
  rintro e w7 ⟨rfl, n, rfl⟩
  have h26 : Below w1.heap.size w1 w6 := below_then (below_then (below_alloc hB2 (.cells #[.int .u8 7] 5)) hB4) (hB5.trans (hB6.mono hB5.size))
  have hX := ((hR1.rd.below h26).alloc (.cells (List.map byteV [0, 120, 240]).toArray 5)).drewN n
  go_wp2_with fail
  refine (bytes_yes A1 (some ⟨w6.heap.size + 1, 0, none⟩) [0] 1 _ (hX.alloc _) (rd_lit_at _ _ (by simp) [0]) (by simp)).mono ?_
  rintro e w7 ⟨rfl, n2, rfl⟩
  go_wp2_with fail
  go_ret
  refine ⟨rfl, ?_⟩
  have hb : Below w.heap.size w w6 := below_then hB1 h26
  exact below_drewN (below_alloc (below_drewN (below_alloc hb _) n) _) n2
end Go.Proofs.Ytecokglofocgiaa
