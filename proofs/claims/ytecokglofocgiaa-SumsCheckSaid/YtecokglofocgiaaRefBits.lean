/- The reference of layer 1: Bit, Of, Value; the polynomial of layer 3. -/
import Derived.Test.YtecokglofocgiaaSums
import Derived.Test.YtecokglofocgiaaDiv
import Derived.StillTailTactics
namespace Go.Proofs.Ytecokglofocgiaa
set_option linter.unusedVariables false
set_option linter.unusedSimpArgs false
open Go.RowKit

theorem div_div_two (v k : Nat) : v / 2 ^ k / 2 = v / 2 ^ (k + 1) := by rw [Nat.div_div_eq_div_mul, Nat.pow_succ]

set_option maxHeartbeats 400000 in
theorem bit_any (v k : Nat) (w : World) (hv : v < 18446744073709551616) (hk : k ≤ 64) :
    Calls Try.prog 23 #[.int .u64 v, .int .i64 k] w fun e w' => e = .returned (.int .u8 ((v / 2 ^ k % 2 : Nat) : Int)) ∧ w' = w := by
  have HV := Lib.hid hv
  clear hv
  go_enter Try.func23, Try.ntmps23
  go_wp2
  go_loop [0, 5] (fun x i => ∃ j : Nat, j ≤ k ∧ i = .int .i64 j ∧ ∃ y : Nat, y = v / 2 ^ j ∧ x = .int .u64 y) (fun _ i => k - (intOf i).toNat)
  case atStart => exact ⟨0, by omega, rfl, v, by simp, rfl⟩
  case round =>
    obtain ⟨j, hj, rfl, y, hy, rfl⟩ := hrel
    have hyl : y ≤ v := by rw [hy]; exact Nat.div_le_self _ _
    have HY := Lib.hid hy
    have HL := Lib.hid (show y < 18446744073709551616 by have := HV.out; omega)
    clear hyl hy
    by_cases hlt : j < k
    · have e1 : IntKind.u64.wrap ((y : Int) / 2) = (y : Int) / 2 := by
        have := HL.out
        rw [wrap_u64]
        omega
      go_wp2
      go_round
      case rel => exact ⟨j + 1, by omega, by go_num, y / 2, by rw [HY.out, div_div_two], by simp [e1]⟩
      case measure => simp [intOf]; omega
    · obtain rfl : j = k := by omega
      go_wp2
      go_ret
      refine ⟨?_, rfl⟩
      have e2 : (y : Int) = (v : Int) / 2 ^ j := by rw [HY.out]; simp
      rw [← e2]
      rfl

def bitsB (b : UInt8) : List UInt8 := (sbB b).map b2u
def bitsL (l : List UInt8) : List UInt8 := (sb l).map b2u
theorem bitsB_len (b : UInt8) : (bitsB b).length = 8 := by simp [bitsB, sbB_len]
theorem bitsL_len (l : List UInt8) : (bitsL l).length = 8 * l.length := by simp [bitsL, sb_len]
theorem bitsL_snoc (l : List UInt8) (k : Nat) (h : k < l.length) : bitsL (l.take (k + 1)) = bitsL (l.take k) ++ bitsB l[k] := by
  unfold bitsL; rw [sb_snoc l k h, List.map_append]; rfl
theorem bitsB_snoc (b : UInt8) (j : Nat) (h : j < 8) : (bitsB b).take (j + 1) = (bitsB b).take j ++ [b2u (b.toNat.testBit j)] := by
  unfold bitsB; rw [← List.map_take, sbB_snoc b j h, List.map_append, List.map_take]; rfl
theorem bit_val (b : UInt8) (j : Nat) : ((b2u (b.toNat.testBit j)).toNat : Int) = ((b.toNat / 2 ^ j % 2 : Nat) : Int) := by
  rw [b2u_nat, testBit_nat]

set_option maxHeartbeats 1000000 in
theorem of_any (A : Option Addr) (l : List UInt8) (c : Nat) (w : World) (hA : RdB w A l) (hl : l.length ≤ 1000000) :
    Calls Try.prog 22 #[.slice A l.length c] w fun e w' => ∃ A' c', e = .returned (.slice A' (bitsL l).length c') ∧ RowB w' w.heap.size A' c' (bitsL l) ∧ Below w.heap.size w w' := by
  go_enter Try.func22, Try.ntmps22
  go_wp2
  go_loopw [3, 4, 5] (fun v i _ wr => ∃ k : Nat, k ≤ l.length ∧ i = .int .i64 k ∧ (∃ A2 c2, v = .slice A2 (bitsL (l.take k)).length c2 ∧ RowB wr w.heap.size A2 c2 (bitsL (l.take k))) ∧ Below w.heap.size w wr) (fun _ i _ _ => l.length - (intOf i).toNat)
  case atStart => exact ⟨0, by omega, rfl, ⟨none, 0, rfl, Row.nil _ _ _ _⟩, Below.refl _ _⟩
  case round =>
    obtain ⟨k, hk, rfl, ⟨A2, c2, rfl, hR⟩, hB⟩ := hrel
    have hlen := bitsL_len (l.take k)
    rw [List.length_take] at hlen
    by_cases hlt : k < l.length
    · have hn := bitsL_snoc l k hlt
      have HN := Lib.hid hn
      have HA := Lib.hid hA
      obtain ⟨ad, e, hc⟩ := hA.get hlt
      have hb := l[k].toNat_lt
      clear hn hA
      generalize l[k] = b at *
      generalize bitsL (List.take k l) = t at *
      have ht : t.length ≤ 8000000 := by omega
      have HT := Lib.hid hlen
      subst e
      clear hlen
      go_wp2
      go_loopw [3, 5] (fun v i w2 => ∃ j : Nat, j ≤ 8 ∧ i = .int .i64 j ∧ (∃ A2 c2, v = .slice A2 (t ++ (bitsB b).take j).length c2 ∧ RowB w2 w.heap.size A2 c2 (t ++ (bitsB b).take j)) ∧ Below w.heap.size w w2) (fun _ i _ => 8 - (intOf i).toNat)
      case atStart => exact ⟨0, by omega, rfl, ⟨A2, c2, by simp, by simpa using hR⟩, hB⟩
      case round =>
        clear hR
        obtain ⟨j, hj, rfl, ⟨A3, c3, rfl, hR3⟩, hB3⟩ := hrel
        by_cases hlt2 : j < 8
        · have hc3 := cell_later hB3 hc
          have hs : t ++ (bitsB b).take (j + 1) = (t ++ (bitsB b).take j) ++ [b2u (b.toNat.testBit j)] := by rw [bitsB_snoc b j hlt2, List.append_assoc]
          have hv := bit_val b j
          have hbit := bit_any b.toNat j wr (by omega) (by omega)
          rw [← hv] at hbit
          have hl3 : (t ++ (bitsB b).take j).length ≤ 8000008 := by rw [List.length_append, List.length_take]; omega
          generalize b2u (b.toNat.testBit j) = x at *
          generalize t ++ (bitsB b).take j = u at *
          have HC := Lib.hid hbit
          have HS := Lib.hid hs
          have h63 : u.length + 1 ≤ maxLen := by simp only [maxLen]; omega
          have hsz := hB3.size
          have hlt3 := Row.lt hR3
          clear hs hv hbit HN HT HA
          go_wp2_with (first
            | (go_at_call 23; (with_reducible refine HC.out.mono ?_); rintro e w3 ⟨rfl, hw3⟩; obtain rfl := hw3.symm)
            | ((with_reducible refine at_dst 25 rfl ?_)
               refine wpList_append_row rfl (.tmp 16) (.tmp 24) 23 rfl w.heap.size 5 _ 1 1 Try.underlying23 infoByte rfl A3 u.length c3 (u.map byteV) rfl (Row.alloc hR3 _) (some ⟨wr.heap.size, 0, none⟩) 1 1 ([x].map byteV) rfl (rd_lit wr [x]) rfl (byte_one [x]) h63 (by omega) (by simp; omega) ?_
               intro A4 c4 w4 h4 hg4 _))
          go_roundw
          case rel => exact ⟨j + 1, by omega, by go_num, ⟨A4, c4, by rw [HS.out]; simp, by rw [HS.out]; exact RowB.of h4⟩, (hB3.alloc hsz _).grown hg4 (by simp; omega) (fun k hk => (hlt3 k hk).1)⟩
          case measure => simp [intOf]; omega
        · obtain rfl : j = 8 := by omega
          rw [show (bitsB b).take 8 = bitsB b from List.take_of_length_le (by rw [bitsB_len]; omega)] at *
          go_wp2
          go_roundw
          case rel => exact ⟨k + 1, by omega, by go_num, ⟨A3, c3, by rw [HN.out], by rw [HN.out]; exact hR3⟩, hB3⟩
          case measure => simp [intOf]; omega
    · obtain rfl : k = l.length := by omega
      rw [List.take_length] at *
      go_wp2
      go_ret
      exact ⟨A2, c2, rfl, hR, hB⟩

/-- the number that consists of bits -/
def valL (l : List UInt8) : Nat := l.foldr (fun b v => b.toNat + 2 * v) 0
theorem valL_drop (l : List UInt8) (k : Nat) (h : k < l.length) : valL (l.drop k) = l[k].toNat + 2 * valL (l.drop (k + 1)) := by
  rw [List.drop_eq_getElem_cons h]; rfl
theorem valL_le (l : List UInt8) (k : Nat) : valL (l.drop k) ≤ valL l := by
  induction k with
  | zero => simp
  | succ k ih =>
    by_cases h : k < l.length
    · have := valL_drop l k h; omega
    · rw [List.drop_eq_nil_of_le (by omega)] at *; exact Nat.le_trans (by simp [valL]) ih

set_option maxHeartbeats 400000 in
theorem value_any (A : Option Addr) (l : List UInt8) (c : Nat) (w : World) (hA : RdB w A l) (hl : l.length ≤ 1000000) (hv : valL l < 18446744073709551616) :
    Calls Try.prog 25 #[.slice A l.length c] w fun e w' => e = .returned (.int .u64 (valL l)) ∧ w' = w := by
  have HV := Lib.hid hv
  clear hv
  go_enter Try.func25, Try.ntmps25
  go_wp2
  go_loop [3, 4] (fun x i => ∃ k : Nat, k ≤ l.length ∧ i = .int .i64 ((k : Int) - 1) ∧ x = .int .u64 (valL (l.drop k))) (fun _ i => (intOf i + 1).toNat)
  case atStart => exact ⟨l.length, by omega, rfl, by simp [valL]⟩
  case round =>
    obtain ⟨k, hk, rfl, rfl⟩ := hrel
    have hle := valL_le l k
    rcases Nat.eq_zero_or_pos k with rfl | h0
    · go_wp2
      go_ret
      exact ⟨by simp, rfl⟩
    · obtain ⟨j, rfl⟩ : ∃ j, k = j + 1 := ⟨k - 1, by omega⟩
      have hd := valL_drop l j (by omega)
      have hle2 := valL_le l j
      obtain ⟨ad, e, hc⟩ := hA.get (k := j) (by omega)
      subst e
      have hb := l[j].toNat_lt
      have e1 : IntKind.u64.wrap (2 * (valL (l.drop (j + 1)) : Int)) = 2 * (valL (l.drop (j + 1)) : Int) := by
        have := HV.out; rw [wrap_u64]; omega
      have e2 : IntKind.u64.wrap (2 * (valL (l.drop (j + 1)) : Int) + (l[j].toNat : Int)) = ((valL (l.drop j) : Nat) : Int) := by
        have := HV.out; rw [wrap_u64, hd]; omega
      have e3 : IntKind.u64.wrap (l[j].toNat : Int) = (l[j].toNat : Int) := by rw [wrap_u64]; omega
      have e4 : ((j + 1 : Nat) : Int) - 1 = (j : Int) := by omega
      rw [e4]
      generalize valL (List.drop (j + 1) l) = X at *
      generalize hY : valL (List.drop j l) = Y at *
      have HY := Lib.hid hY
      clear hY
      go_wp2
      go_round
      case rel => exact ⟨j, by omega, rfl, by rw [HY.out, hd]; simp⟩
      case measure => simp [intOf]

def polyL : List UInt8 := [1, 0, 0, 0, 0, 1, 0, 0, 0, 0, 0, 0, 1, 0, 0, 0, 1]
set_option maxHeartbeats 1000000 in
theorem poly_any (w : World) : Calls Try.prog 24 #[] w fun e w' => ∃ A', e = .returned (.slice A' 17 17) ∧ RowB w' w.heap.size A' 17 polyL ∧ Below w.heap.size w w' := by
  have hmk : ∀ w, (Instr.makeSlice 23 (.int .i64 17) (.int .i64 17)).run Try.prog w = .ok (.slice (some ⟨w.heap.size, 0, none⟩) 17 17) (w.alloc (.cells #[.int .u8 0, .int .u8 0, .int .u8 0, .int .u8 0, .int .u8 0, .int .u8 0, .int .u8 0, .int .u8 0, .int .u8 0, .int .u8 0, .int .u8 0, .int .u8 0, .int .u8 0, .int .u8 0, .int .u8 0, .int .u8 0, .int .u8 0] 5)) := fun _ => by kernel_rfl
  go_enter Try.func24, Try.ntmps24
  go_wp2
  go_ret
  refine ⟨some ⟨w.heap.size, 0, none⟩, rfl, ?_, ?_⟩
  · exact RowB.new w w.heap.size (Nat.le_refl _) polyL (by simp [polyL, maxLen])
  · exact (Below.refl _ _).alloc (Nat.le_refl _) _
end Go.Proofs.Ytecokglofocgiaa
