/- Package bits: Check, digits, Of, value, Octets. -/
import Derived.Test.YthbbmpelldglmaaDoorBitsP
import Derived.StillTailTactics
import Derived.Deep.QuietTactic
import Derived.BigQuiet
namespace Go.Proofs.YthbbmpelldglmaaDoor
set_option linter.unusedVariables false
set_option linter.unusedSimpArgs false
open Go.RowKit

theorem made_zero (n : Nat) : (madeCells (Value.int .u8 0).cells (n * 1)).toList = (List.replicate n (0 : UInt8)).map byteV := by
  apply List.ext_getElem?
  intro i
  by_cases hi : i < n
  · simp [madeCells, Value.cells, hi, Nat.mod_one, byteV]
  · rw [List.getElem?_eq_none (by simp [madeCells, Value.cells]; omega), List.getElem?_eq_none (by simp; omega)]

section
variable {w : World} {ops : Array Oper} {rest : List Oper} {o : Oper} {a : Act} {Q : Exit → Act → World → Prop}
/-- make([]byte, 0, n) -/
theorem make_bytes0 (hg : o.guard = none) (l c : Operand) (hop : o.op = Op.makeSlice 27 l c) (kl kc : IntKind) (C : Int) (n : Nat) (hl : a.eval l = .int kl 0) (hc : a.eval c = .int kc C) (hC : C = (n : Int)) (hn : n ≤ 140737488351232)
    (hK : ∀ w', RowB w' w.heap.size (some ⟨w.heap.size, 0, none⟩) n [] → Below w.heap.size w w' → wpList Tryd.prog ops Q rest (a.put o.dst (.slice (some ⟨w.heap.size, 0, none⟩) 0 n)) w') : wpList Tryd.prog ops Q (o :: rest) a w := by
  obtain ⟨i0, hi0, hz0, hz1, hz2⟩ := info_parts infoByte
  refine wpList_make_own w hg l c 27 hop w.heap.size 5 i0 (.int .u8 0) 1 Tryd.underlying27 hi0 hz0 hz1 kl kc C n hl hc hC (by rw [hz2]; omega) (by simp only [maxLen]; omega) (Nat.le_refl _) ?_
  intro w' h1 h2
  obtain ⟨A3, c3, e3, hS⟩ := Row.of_own h1
  injection e3 with e3 e4 e5
  subst e3
  subst e5
  exact hK w' hS ((Below.refl _ _).grown h2 (Nat.le_refl _) (by simp))
/-- make([]byte, n) -/
theorem make_bytes (hg : o.guard = none) (l c : Operand) (hop : o.op = Op.makeSlice 27 l c) (kl kc : IntKind) (L C : Int) (n : Nat) (hl : a.eval l = .int kl L) (hc : a.eval c = .int kc C) (hL : L = (n : Int)) (hC : C = (n : Int)) (hn : n ≤ 140737488351232)
    (hK : ∀ w', RowB w' w.heap.size (some ⟨w.heap.size, 0, none⟩) n (List.replicate n 0) → Below w.heap.size w w' → wpList Tryd.prog ops Q rest (a.put o.dst (.slice (some ⟨w.heap.size, 0, none⟩) n n)) w') : wpList Tryd.prog ops Q (o :: rest) a w := by
  obtain ⟨i0, hi0, hz0, hz1, hz2⟩ := info_parts infoByte
  refine wpList_make_full w hg l c 27 hop w.heap.size 5 i0 (.int .u8 0) 1 Tryd.underlying27 hi0 hz0 hz1 kl kc L C n hl hc hL hC (by rw [hz2]; omega) (by simp only [maxLen]; omega) (Nat.le_refl _) ?_
  intro w' h1 h2
  obtain ⟨A3, c3, e3, hS⟩ := Row.of_own h1
  injection e3 with e3 e4 e5
  subst e3
  subst e5
  rw [made_zero] at hS
  refine hK w' ?_ ((Below.refl _ _).grown h2 (Nat.le_refl _) (by simp))
  unfold RowB
  rw [List.length_replicate]
  exact hS
end

/-- the first k bits, and noughts -/
def digL (b : UInt8) (k : Nat) : List UInt8 := (bitsB b).take k ++ List.replicate (8 - k) 0
theorem digL_zero (b : UInt8) : digL b 0 = List.replicate 8 0 := by simp [digL]
theorem digL_eight (b : UInt8) : digL b 8 = bitsB b := by simp [digL, List.take_of_length_le, bitsB_len]
theorem digL_len (b : UInt8) (k : Nat) (h : k ≤ 8) : (digL b k).length = 8 := by simp [digL, bitsB_len]; omega
theorem digL_set (b : UInt8) (k : Nat) (h : k < 8) : (digL b k).set k (b2u (b.toNat.testBit k)) = digL b (k + 1) := by
  have hl : ((bitsB b).take k).length = k := by rw [List.length_take, bitsB_len]; omega
  obtain ⟨m, hm⟩ : ∃ m, 8 - k = m + 1 := ⟨7 - k, by omega⟩
  unfold digL
  rw [List.set_append_right _ _ (by omega), hl, hm, List.replicate_succ, Nat.sub_self, List.set_cons_zero, bitsB_snoc b k h, List.append_assoc, show 8 - (k + 1) = m by omega]
  rfl

set_option maxHeartbeats 1000000 in
set_option maxRecDepth 100000 in
theorem digits_any (b : UInt8) (w : World) :
    Calls Tryd.prog 126 #[.int .u64 (b.toNat : Int), .int .i64 8] w fun e w' => ∃ A', e = .returned (.slice A' 8 8) ∧ RowB w' w.heap.size A' 8 (bitsB b) ∧ Below w.heap.size w w' := by
  go_enter Tryd.func126, Tryd.ntmps126
  go_wp2_with (first
    | ((with_reducible refine at_dst 8 rfl ?_)
       refine make_bytes rfl (.tmp 7) (.tmp 7) rfl .i64 .i64 8 8 8 rfl rfl rfl rfl (by omega) ?_
       intro w2 hS hB2)
    | fail)
  have hS0 : RowB w2 w.heap.size (some ⟨w.heap.size, 0, none⟩) 8 (digL b 0) := by rw [digL_zero]; exact hS
  clear hS
  go_loopw [10] (fun i wr => ∃ k : Nat, k ≤ 8 ∧ i = .int .i64 k ∧ RowB wr w.heap.size (some ⟨w.heap.size, 0, none⟩) 8 (digL b k) ∧ Below w.heap.size w wr) (fun i _ => 8 - (intOf i).toNat)
  case atStart => exact ⟨0, by omega, rfl, hS0, hB2⟩
  case round =>
    clear hS0 hB2
    obtain ⟨k, hk, rfl, hR, hB⟩ := hrel
    by_cases hlt : k < 8
    · have hf := Row.free hR k
      have hv : ((b2u (b.toNat.testBit k)).toNat : Int) = (b.toNat : Int) / 2 ^ k % 2 := by rw [bit_val]; simp
      have hset := RowB.set hR k (b2u (b.toNat.testBit k))
      rw [digL_set b k hlt, hv] at hset
      have hcell := RowB.at_ hR (k := k) (by rw [digL_len b k hk]; omega)
      have hB3 := hB.setCell (p := ⟨w.heap.size, k, none⟩) (Nat.le_refl _) (.int .u8 ((b.toNat : Int) / 2 ^ k % 2))
      have hand : bits .and .u64 ((b.toNat : Int) / 2 ^ k) 1 = (b.toNat : Int) / 2 ^ k % 2 := by
        have e : (b.toNat : Int) / 2 ^ k = ((b.toNat / 2 ^ k : Nat) : Int) := by simp
        have hb := b.toNat_lt
        have hle : b.toNat / 2 ^ k ≤ b.toNat := Nat.div_le_self _ _
        rw [e, show (1 : Int) = ((1 : Nat) : Int) from rfl, (bits_nat .u64 64 (by decide) (fun n h0 h1 => by rw [wrap_u64]; omega) (b.toNat / 2 ^ k) 1 (by omega) (by omega)).1, Nat.and_one_is_mod]
        simp
      clear hv
      go_wp2
      go_roundw
      case rel => exact ⟨k + 1, by omega, by go_num, hset, hB3⟩
      case measure => simp [intOf]; omega
    · obtain rfl : k = 8 := by omega
      rw [digL_eight] at hR
      go_wp2
      go_ret
      exact ⟨_, rfl, hR, hB⟩

set_option maxHeartbeats 1000000 in
set_option maxRecDepth 100000 in
theorem bitsOf_any (A : Option Addr) (l : List UInt8) (c : Nat) (w : World) (hA : RdB w A l) (hl : l.length ≤ 1000000) :
    Calls Tryd.prog 80 #[.slice A l.length c] w fun e w' => ∃ A' c', e = .returned (.slice A' (bitsL l).length c') ∧ RowB w' w.heap.size A' c' (bitsL l) ∧ Below w.heap.size w w' := by
  obtain ⟨n, hn⟩ : ∃ n, n = 8 * l.length := ⟨_, rfl⟩
  have h8 : (8 : Int) * (l.length : Int) = (n : Int) := by omega
  have hn2 : n ≤ 8000000 := by omega
  have HN := Lib.hid hn
  clear hn
  go_enter Tryd.func80, Tryd.ntmps80
  go_wp2_with (first
    | ((with_reducible refine at_dst 9 rfl ?_)
       refine make_bytes0 rfl (.const (.int .i64 0)) (.tmp 8) rfl .i64 .i64 n n rfl rfl rfl (by omega) ?_
       intro w2 hS hB2)
    | fail)
  go_loopw [3, 5, 12] (fun v _ i wr => ∃ k : Nat, k ≤ l.length ∧ i = .int .i64 k ∧ (∃ A2 c2, v = .slice A2 (bitsL (l.take k)).length c2 ∧ RowB wr w.heap.size A2 c2 (bitsL (l.take k))) ∧ Below w.heap.size w wr) (fun _ _ i _ => l.length - (intOf i).toNat)
  case atStart => exact ⟨0, by omega, rfl, ⟨_, _, rfl, hS⟩, hB2⟩
  case round =>
    clear hS hB2
    obtain ⟨k, hk, rfl, ⟨A2, c2, rfl, hR⟩, hB⟩ := hrel
    have hlen := bitsL_len (l.take k)
    rw [List.length_take] at hlen
    by_cases hlt : k < l.length
    · have hsn := bitsL_snoc l k hlt
      obtain ⟨ad, e, hc⟩ := (hA.below hB).get hlt
      subst e
      have hdig := fun w' => digits_any l[k] w'
      have hl8 := bitsB_len l[k]
      have hbyte := l[k].toNat_lt
      generalize l[k] = b at *
      generalize bitsB b = d at *
      generalize bitsL (l.take k) = t at *
      have ht : t.length ≤ 8000000 := by omega
      have HS := Lib.hid hsn
      have HD := Lib.hid hdig
      have HL := Lib.hid hlen
      clear hsn hdig hlen
      go_wp2_with (first
        | (go_at_call 126; (with_reducible refine (HD.out _).mono ?_); rintro e w3 ⟨A3, rfl, hR3, hB3⟩; have hRl := RowB.below hR hB3; have hBl := hB.trans (hB3.mono hB.size))
        | ((with_reducible refine at_dst 20 rfl ?_)
           refine append_bytes rfl (.tmp 16) (.tmp 19) rfl w.heap.size A2 t.length c2 t rfl rfl hRl A3 8 8 d rfl hl8.symm hR3.rd (t ++ d) rfl (by rw [List.length_append]; omega) w hBl (by have := hBl.size; omega) ?_
           intro A4 c4 w4 h4 hg4 hB4 hsz4)
        | fail)
      go_roundw
      case rel => exact ⟨k + 1, by omega, by go_num, ⟨A4, c4, by rw [HS.out, List.length_append, hl8], by rw [HS.out]; exact h4⟩, hB4⟩
      case measure => simp [intOf]; omega
    · obtain rfl : k = l.length := by omega
      rw [List.take_length] at hR
      rw [List.take_length]
      go_wp2
      go_ret
      exact ⟨A2, c2, rfl, hR, hB⟩

/-- the bits are 0 and 1 -/
theorem bitsL_le (l : List UInt8) : ∀ b ∈ bitsL l, b.toNat ≤ 1 := by
  intro b hb
  unfold bitsL at hb
  obtain ⟨x, _, rfl⟩ := List.mem_map.1 hb
  cases x <;> decide

set_option maxHeartbeats 1000000 in
set_option maxRecDepth 100000 in
theorem bitsCheck1_any (b : UInt8) (w : World) (h : b.toNat ≤ 1) :
    Calls Tryd.prog 150 #[.int .u8 (b.toNat : Int)] w fun e w' => e = .returned (.bool false) ∧ w = w' := by
  go_enter Tryd.func150, Tryd.ntmps150
  go_wp2
  go_ret
  refine ⟨?_, rfl⟩
  show Ending.returned (.bool (decide (1 < (b.toNat : Int)))) = _
  rw [decide_eq_false (by omega)]

set_option maxHeartbeats 1000000 in
set_option maxRecDepth 100000 in
theorem indexBits_any (A : Option Addr) (l : List UInt8) (c : Nat) (w : World) (hA : RdB w A l) (hl : l.length ≤ 1048576) (hb : ∀ b ∈ l, b.toNat ≤ 1) :
    Calls Tryd.prog 173 #[.slice A l.length c, .func (.func 150) #[] #[]] w fun e w' => e = .returned (.int .i64 (-1)) ∧ w = w' := by
  have HB := Lib.hid hb
  clear hb
  go_enter Tryd.func173, Tryd.ntmps173
  go_wp2
  go_loop [5, 8] (fun _ i => ∃ k : Nat, k ≤ l.length ∧ i = .int .i64 k) (fun _ i => l.length - (intOf i).toNat)
  case atStart => exact ⟨0, by omega, rfl⟩
  case round =>
    obtain ⟨k, hk, rfl⟩ := hrel
    by_cases hlt : k < l.length
    · obtain ⟨ad, e, hc⟩ := hA.get hlt
      subst e
      have hx := HB.out _ (List.getElem_mem hlt)
      generalize l[k] = x at *
      have HX := Lib.hid hx
      clear hx
      go_wp2_with (first
        | (go_at_call 150; (with_reducible refine (bitsCheck1_any x _ HX.out).mono ?_); rintro e w3 ⟨rfl, rfl⟩)
        | fail)
      go_round
      case rel => exact ⟨k + 1, by omega, by go_num⟩
      case measure => simp [intOf]; omega
    · go_wp2
      go_ret
      exact ⟨rfl, rfl⟩

set_option maxHeartbeats 1000000 in
set_option maxRecDepth 100000 in
theorem containsBits_any (A : Option Addr) (l : List UInt8) (c : Nat) (w : World) (hA : RdB w A l) (hl : l.length ≤ 1048576) (hb : ∀ b ∈ l, b.toNat ≤ 1) :
    Calls Tryd.prog 149 #[.slice A l.length c, .func (.func 150) #[] #[]] w fun e w' => e = .returned (.bool false) ∧ w = w' := by
  have H := Lib.hid (indexBits_any A l c w hA hl hb)
  go_enter Tryd.func149, Tryd.ntmps149
  go_wp2_with (first
        | (go_at_call 173; (with_reducible refine H.out.mono ?_); rintro e w3 ⟨rfl, rfl⟩)
        | fail)
  go_ret
  exact ⟨rfl, rfl⟩

set_option maxHeartbeats 1000000 in
set_option maxRecDepth 100000 in
theorem bitsCheck_any (A : Option Addr) (l : List UInt8) (c : Nat) (w : World) (hA : RdB w A l) (hl : l.length ≤ 1048576) (hb : ∀ b ∈ l, b.toNat ≤ 1) :
    Calls Tryd.prog 103 #[.slice A l.length c] w fun e w' => e = .returned (.int .i64 0) ∧ w = w' := by
  have H := Lib.hid (containsBits_any A l c w hA hl hb)
  go_enter Tryd.func103, Tryd.ntmps103
  go_wp2_with (first
        | (go_at_call 149; (with_reducible refine H.out.mono ?_); rintro e w3 ⟨rfl, rfl⟩)
        | fail)
  go_ret
  exact ⟨rfl, rfl⟩

theorem bitsB_get (b : UInt8) (k : Nat) (h : k < 8) : (bitsB b)[k]? = some (b2u (b.toNat.testBit k)) := by
  simp [bitsB, sbB, h]
theorem val_step : ∀ b, b < 256 → ∀ k, k < 8 → b % 2 ^ k ||| (b / 2 ^ k % 2) * 2 ^ k = b % 2 ^ (k + 1) := by decide +kernel

set_option maxHeartbeats 1000000 in
set_option maxRecDepth 100000 in
theorem value_any (A : Option Addr) (b : UInt8) (c : Nat) (w : World) (hA : RdB w A (bitsB b)) :
    Calls Tryd.prog 209 #[.slice A 8 c] w fun e w' => e = .returned (.int .u64 (b.toNat : Int)) ∧ w = w' := by
  go_enter Tryd.func209, Tryd.ntmps209
  go_wp2
  go_loop [3, 4, 5, 8] (fun v _ _ i => ∃ k : Nat, k ≤ 8 ∧ i = .int .i64 k ∧ ∃ y : Nat, y = b.toNat % 2 ^ k ∧ v = .int .u64 y) (fun _ _ _ i => 8 - (intOf i).toNat)
  case atStart => exact ⟨0, by omega, rfl, 0, by simp [Nat.mod_one], rfl⟩
  case round =>
    obtain ⟨k, hk, rfl, y, hy, rfl⟩ := hrel
    have hb := b.toNat_lt
    by_cases hlt : k < 8
    · obtain ⟨ad, e, hc⟩ := hA.get (k := k) (by rw [bitsB_len]; omega)
      subst e
      have hx : (bitsB b)[k]'(by rw [bitsB_len]; omega) = b2u (b.toNat.testBit k) := by
        have := bitsB_get b k hlt
        rw [List.getElem?_eq_getElem (by rw [bitsB_len]; omega)] at this
        simpa using this
      rw [hx, bit_val] at hc
      have hst := val_step b.toNat hb k hlt
      rw [← hy] at hst
      have hyb : y < 2 ^ 8 := by rw [hy]; exact Nat.lt_of_le_of_lt (Nat.mod_le _ _) hb
      generalize b.toNat / 2 ^ k % 2 = x at *
      have HY := Lib.hid hy
      have HS := Lib.hid hst
      clear hx hy hst
      have hx1 : x * 2 ^ k < 2 ^ 64 := by
        have := HS.out
        have h1 : x * 2 ^ k ≤ y ||| x * 2 ^ k := Nat.right_le_or
        have h2 : b.toNat % 2 ^ (k + 1) ≤ b.toNat := Nat.mod_le _ _
        omega
      have hx2 : x < 2 ^ 64 := Nat.lt_of_le_of_lt (Nat.le_mul_of_pos_right _ (Nat.two_pow_pos k)) hx1
      have e1 : IntKind.u64.wrap (x : Int) = (x : Int) := by rw [wrap_u64]; omega
      have e2 : IntKind.u64.wrap ((x : Int) * 2 ^ k) = ((x * 2 ^ k : Nat) : Int) := by
        rw [show (x : Int) * 2 ^ k = ((x * 2 ^ k : Nat) : Int) by simp, wrap_u64]; omega
      have e3 : bits .or .u64 (y : Int) ((x * 2 ^ k : Nat) : Int) = ((y ||| x * 2 ^ k : Nat) : Int) :=
        (bits_nat .u64 64 (by decide) (fun n h0 h1 => by rw [wrap_u64]; omega) y (x * 2 ^ k) (by omega) hx1).2
      have E2 := Lib.hid e2
      have E3 := Lib.hid e3
      clear e1 e2 e3
      go_wp2
      go_round
      case rel => exact ⟨k + 1, by omega, by go_num, _, rfl, by rw [E2.out, E3.out, HS.out]⟩
      case measure => simp [intOf]; omega
    · obtain rfl : k = 8 := by omega
      rw [Nat.mod_eq_of_lt (by omega)] at hy
      subst hy
      go_wp2
      go_ret
      exact ⟨rfl, rfl⟩
theorem bitsL_drop (l : List UInt8) (k : Nat) (h : k < l.length) : ((bitsL l).drop (8 * k)).take 8 = bitsB l[k] := by
  have h1 : l = l.take k ++ l[k] :: l.drop (k + 1) := by simp
  have h2 : bitsL l = bitsL (l.take k) ++ (bitsB l[k] ++ bitsL (l.drop (k + 1))) := by
    unfold bitsL sb bitsB
    conv => lhs; rw [h1]
    rw [List.flatMap_append, List.flatMap_cons, List.map_append, List.map_append]
  have h3 : (bitsL (l.take k)).length = 8 * k := by rw [bitsL_len, List.length_take]; omega
  rw [h2, List.drop_append_of_le_length (by omega), List.drop_of_length_le (by omega), List.nil_append, List.take_append_of_le_length (by rw [bitsB_len]; omega), List.take_of_length_le (by rw [bitsB_len]; omega)]

set_option maxHeartbeats 1000000 in
set_option maxRecDepth 100000 in
theorem octets_any (A : Option Addr) (l : List UInt8) (n c : Nat) (w : World) (hA : RdB w A (bitsL l)) (hl : l.length ≤ 100000) (h0 : 0 < l.length) (hn : n = 8 * l.length) (hc : n ≤ c) :
    Calls Tryd.prog 197 #[.slice A n c] w fun e w' => ∃ A', e = .returned (.tuple #[.slice A' l.length l.length, .int .i64 0]) ∧ RowB w' w.heap.size A' l.length l ∧ Below w.heap.size w w' := by
  have hlen := bitsL_len l
  have H := bitsCheck_any A (bitsL l) c w hA (by omega) (bitsL_le l)
  rw [hlen, ← hn] at H
  replace H := Lib.hid H
  have hm : (n : Int) % 8 = 0 := by omega
  have hd : (n : Int) / 8 = (l.length : Int) := by omega
  have hm2 : Int.tmod (n : Int) 8 = 0 := by rw [Int.tmod_eq_emod_of_nonneg (by omega)]; exact hm
  have hd2 : Int.tdiv (n : Int) 8 = (l.length : Int) := by rw [Int.tdiv_eq_ediv_of_nonneg (by omega)]; exact hd
  have HN := Lib.hid hn
  have HLEN := Lib.hid hlen
  have hn2 : n ≤ 800000 := by omega
  clear hn hlen
  go_enter Tryd.func197, Tryd.ntmps197
  go_wp2_with (first
    | (go_at_call 103; (with_reducible refine H.out.mono ?_); rintro e w3 ⟨rfl, rfl⟩)
    | ((with_reducible refine at_dst 19 rfl ?_)
       refine make_bytes rfl (.tmp 18) (.tmp 18) rfl .i64 .i64 l.length l.length l.length rfl rfl rfl rfl (by omega) ?_
       intro w2 hS hB2)
    | fail)
  go_loopw [6, 22] (fun _ i wr => ∃ k : Nat, k ≤ l.length ∧ i = .int .i64 k ∧ (∃ t, t = l.take k ++ List.replicate (l.length - k) 0 ∧ RowB wr w.heap.size (some ⟨w.heap.size, 0, none⟩) l.length t) ∧ Below w.heap.size w wr) (fun _ i _ => l.length - (intOf i).toNat)
  case atStart => exact ⟨0, by omega, rfl, ⟨_, by simp, hS⟩, hB2⟩
  case round =>
    clear hS hB2
    obtain ⟨k, hk, rfl, ⟨t, ht, hR⟩, hB⟩ := hrel
    by_cases hlt : k < l.length
    · have hf := Row.free hR k
      have htl : t.length = l.length := by rw [ht]; simp; omega
      have hset := RowB.set hR k l[k]
      have hts : t.set k l[k] = l.take (k + 1) ++ List.replicate (l.length - (k + 1)) 0 := by
        have hl2 : (l.take k).length = k := by rw [List.length_take]; omega
        obtain ⟨m, hm⟩ : ∃ m, l.length - k = m + 1 := ⟨l.length - k - 1, by omega⟩
        rw [ht, List.set_append_right _ _ (by omega), hl2, hm, List.replicate_succ, Nat.sub_self, List.set_cons_zero, List.take_succ_eq_append_getElem hlt, List.append_assoc, show l.length - (k + 1) = m by omega]
        rfl
      have hcell := RowB.at_ hR (k := k) (by omega)
      have hB3 := hB.setCell (p := ⟨w.heap.size, k, none⟩) (Nat.le_refl _) (.int .u8 (l[k].toNat : Int))
      have hdr : ∃ ad, A = some ad := by
        obtain ⟨ad, e, _⟩ := hA.get (k := 0) (by have := HLEN.out; omega)
        exact ⟨ad, e⟩
      obtain ⟨ad, rfl⟩ := hdr
      have hsub : RdB wr (some (ad.add (8 * k))) (bitsB l[k]) := by
        rw [← bitsL_drop l k hlt]
        exact ((hA.below hB).drop (8 * k)).take 8
      have hval := fun c => value_any (some (ad.add (8 * k))) l[k] c wr hsub
      have hby := l[k].toNat_lt
      generalize l[k] = b at *
      generalize t.set k b = t2 at *
      have HV := Lib.hid hval
      have HT := Lib.hid hts
      have HT0 := Lib.hid ht
      clear hval hts ht hsub
      have q1 : (8 : Int) * (k : Int) ≤ 8 * ((k : Int) + 1) := by omega
      have q2 : (8 : Int) * ((k : Int) + 1) ≤ (n : Int) := by omega
      have e8 : 8 * (k + 1) - 8 * k = 8 := by omega
      have e9 : (b.toNat : Int) % 256 = (b.toNat : Int) := by omega
      go_wp2_with (first
        | (go_at_call 209; rw [e8]; (with_reducible refine (HV.out _).mono ?_); rintro e w3 ⟨rfl, rfl⟩)
        | fail)
      go_roundw
      case rel => exact ⟨k + 1, by omega, by go_num, ⟨t2, HT.out, hset⟩, hB3⟩
      case measure => simp [intOf]; omega
    · obtain rfl : k = l.length := by omega
      have ht2 : t = l := by rw [ht]; simp
      clear ht
      rw [ht2] at hR
      clear ht2 hm hd hm2 hd2
      go_wp2
      go_ret2
      exact ⟨_, rfl, hR, hB⟩
end Go.Proofs.YthbbmpelldglmaaDoor
