/- What 'sums.Add' and 'sums.Check' return. -/
import Derived.Test.YthbbmpelldglmaaDoorExtend
import Derived.Test.YthbbmpelldglmaaDoorSlib
namespace Go.Proofs.YthbbmpelldglmaaDoor
set_option linter.unusedVariables false
set_option linter.unusedSimpArgs false
open Go.RowKit

theorem fcs_lo (l : List UInt8) : ((UInt8.ofNat (crcSum l % 256)).toNat : Int) = (crcSum l : Int) % 256 := by
  rw [UInt8.toNat_ofNat']; omega
theorem fcs_hi (l : List UInt8) : ((UInt8.ofNat (crcSum l / 256)).toNat : Int) = (crcSum l : Int) / 256 := by
  have := crcSum_lt l
  rw [UInt8.toNat_ofNat']; omega

theorem rdS_two (w1 : World) (A : Option Addr) (c : Nat) (l : List UInt8) (b0 b1 : UInt8) (hA : RdB w1 A l) :
    RdS ((w1.alloc (.cells #[.int .u8 (b0.toNat : Int), .int .u8 (b1.toNat : Int)] 5)).alloc (.cells #[.slice A l.length c, .slice (some ⟨w1.heap.size, 0, none⟩) 2 2] 27))
      (some ⟨w1.heap.size + 1, 0, none⟩) [(A, c, l), (some ⟨w1.heap.size, 0, none⟩, 2, [b0, b1])] := by
  have h1 := heap_alloc2_new w1 (.cells #[.int .u8 (b0.toNat : Int), .int .u8 (b1.toNat : Int)] 5) (.cells #[.slice A l.length c, .slice (some ⟨w1.heap.size, 0, none⟩) 2 2] 27)
  have h0 := heap_alloc2_old w1 (.cells #[.int .u8 (b0.toNat : Int), .int .u8 (b1.toNat : Int)] 5) (.cells #[.slice A l.length c, .slice (some ⟨w1.heap.size, 0, none⟩) 2 2] 27)
  intro k s hk
  match k, hk with
  | 0, hk =>
    obtain rfl : (A, c, l) = s := by simpa using hk
    exact ⟨⟨_, rfl, by rw [add_lit, cell_of_row _ _ _ _ _ _ h1]; rfl⟩, (hA.alloc _).alloc _⟩
  | 1, hk =>
    obtain rfl : (some ⟨w1.heap.size, 0, none⟩, 2, [b0, b1]) = s := by simpa using hk
    refine ⟨⟨_, rfl, by rw [add_lit, cell_of_row _ _ _ _ _ _ h1]; rfl⟩, fun j v hj => ⟨_, rfl, ?_⟩⟩
    rw [add_lit, cell_of_row _ _ _ _ _ _ h0]
    simpa [byteV] using hj
  | k + 2, hk => simp at hk

set_option maxHeartbeats 1000000 in
theorem add_any (A : Option Addr) (l : List UInt8) (c : Nat) (w : World) (hA : RdB w A l) (hl : l.length ≤ 140737488351000) :
    Calls Tryd.prog 17 #[.slice A l.length c] w fun e w' => ∃ A', e = .returned (.slice A' (l ++ fcs l).length (l ++ fcs l).length) ∧ RowB w' w.heap.size A' (l ++ fcs l).length (l ++ fcs l) ∧ Below w.heap.size w w' := by
  have HS := Lib.hid (sum_any A l c w hA (by omega))
  have hx := crcSum_lt l
  have hlo := (fcs_lo l).symm
  have hhi := (fcs_hi l).symm
  have hf : fcs l = [UInt8.ofNat (crcSum l % 256), UInt8.ofNat (crcSum l / 256)] := rfl
  generalize UInt8.ofNat (crcSum l % 256) = b0 at *
  generalize UInt8.ofNat (crcSum l / 256) = b1 at *
  generalize crcSum l = x at *
  have HF := Lib.hid hf
  clear hf
  go_enter Tryd.func17, Tryd.ntmps17
  go_wp2_with (first
    | (go_at_call 49; (with_reducible refine HS.out.mono ?_); rintro e w1 ⟨rfl, hB⟩)
    | (go_at_call 76
       refine (concat_any (some ⟨w1.heap.size + 1, 0, none⟩) 2 [(A, c, l), (some ⟨w1.heap.size, 0, none⟩, 2, [b0, b1])] _ (rdS_two w1 A c l b0 b1 (hA.below hB)) (by simp [catS]; omega) (by simp)).mono ?_
       rintro e w2 ⟨A2, c2, rfl, hR, hB2⟩
       have hle := Row.le hR
       have hcap := Row.cap_le hR)
    | (go_at_call 62; (with_reducible refine (clip_any _ _ _ _ hle hcap).mono ?_); rintro e w3 ⟨rfl, rfl⟩))
  have hBX := below_alloc (below_alloc hB (.cells #[.int .u8 (b0.toNat : Int), .int .u8 (b1.toNat : Int)] 5)) (.cells #[.slice A l.length c, .slice (some ⟨w1.heap.size, 0, none⟩) 2 2] 27)
  have hcat : catS [(A, c, l), (some ⟨w1.heap.size, 0, none⟩, 2, [b0, b1])] = l ++ fcs l := by rw [HF.out]; simp [catS]
  rw [hcat] at hR
  rw [hcat]
  go_ret
  refine ⟨A2, rfl, ?_, below_then hBX hB2⟩
  exact (Row.clip hR).mono hBX.size

theorem add_succ (ad : Addr) (n : Nat) : ad.add (n + 1) = ⟨ad.block, ad.off + (n + 1), none⟩ := by unfold Addr.add; simp

set_option maxHeartbeats 1000000 in
theorem check_short (A : Option Addr) (n c : Nat) (w : World) (h : n < 2) :
    Calls Tryd.prog 54 #[.slice A n c] w fun e w' => e = .returned (.tuple #[.slice none 0 0, .int .i64 5]) ∧ w = w' := by
  go_enter Tryd.func54, Tryd.ntmps54
  go_wp2
  go_ret2
  exact ⟨rfl, rfl⟩

def ChkPost (l : List UInt8) (n : Nat) (b0 b1 : UInt8) (w : World) (e : Ending) (w' : World) : Prop :=
  (if [b0, b1] = fcs (l.take n) then ∃ A', e = .returned (.tuple #[.slice A' n n, .int .i64 0]) ∧ RowB w' w.heap.size A' n (l.take n) else e = .returned (.tuple #[.slice none 0 0, .int .i64 10])) ∧ Below w.heap.size w w'

set_option maxHeartbeats 1000000 in
theorem check_core (A : Option Addr) (l : List UInt8) (n c : Nat) (w : World) (hA : RdB w A l) (hn : l.length = n + 2) (hc : l.length ≤ c) (hl : l.length ≤ 140737488351232) (b0 b1 : UInt8) (h0 : l[n]? = some b0) (h1 : l[n + 1]? = some b1) :
    Calls Tryd.prog 54 #[.slice A (n + 2) c] w (ChkPost l n b0 b1 w) := by
  have hlen : (l.take n).length = n := by rw [List.length_take]; omega
  have HS := Lib.hid (sum_any A (l.take n) c w (hA.take n) (by omega))
  obtain ⟨ad, rfl, hc0⟩ := hA.get (k := n) (by omega)
  obtain ⟨ad', e, hc1⟩ := hA.get (k := n + 1) (by omega)
  injection e with e
  subst e
  rw [List.getElem?_eq_getElem (by omega)] at h0 h1
  injection h0 with h0
  injection h1 with h1
  rw [h0] at hc0
  rw [h1, add_succ] at hc1
  have hx := crcSum_lt (l.take n)
  have hlo := (fcs_lo (l.take n)).symm
  have hhi := (fcs_hi (l.take n)).symm
  have hf : fcs (l.take n) = [UInt8.ofNat (crcSum (l.take n) % 256), UInt8.ofNat (crcSum (l.take n) / 256)] := rfl
  generalize UInt8.ofNat (crcSum (l.take n) % 256) = x0 at *
  generalize UInt8.ofNat (crcSum (l.take n) / 256) = x1 at *
  generalize crcSum (l.take n) = x at *
  rw [hlen] at HS
  have HC := fun w1 (hb : Below w.heap.size w w1) => clone_any (some ad) c (l.take n) w1 ((hA.take n).below hb) (by omega)
  rw [hlen] at HC
  have HCC := Lib.hid HC
  have HF := Lib.hid hf
  clear hf h0 h1 HC
  by_cases e0 : b0 = x0
  · subst e0
    by_cases e1 : b1 = x1
    · subst e1
      go_enter Tryd.func54, Tryd.ntmps54
      go_wp2_with (first
        | (go_at_call 49; (with_reducible refine HS.out.mono ?_); rintro e w1 ⟨rfl, hB⟩; replace hc0 := cell_later hB hc0; replace hc1 := cell_later hB hc1)
        | (go_at_call 70; (with_reducible refine (HCC.out _ hB).mono ?_); rintro e w2 ⟨A2, c2, rfl, hR, hB2⟩; have hle := Row.le hR; rw [hlen] at hle; have hcap := Row.cap_le hR)
        | (go_at_call 62; go_must (refine (clip_any _ _ _ _ hle hcap).mono ?_); rintro e w3 ⟨rfl, rfl⟩))
      go_ret2
      refine ⟨?_, hB.trans (hB2.mono hB.size)⟩
      rw [if_pos HF.out.symm]
      refine ⟨A2, rfl, ?_⟩
      have := (Row.clip hR).mono hB.size
      unfold RowB
      rw [hlen] at *
      exact this
    · have h1 := byte_ne e1
      have h2 := byte_ne' e1
      go_enter Tryd.func54, Tryd.ntmps54
      go_wp2_with (first
        | (go_at_call 49; (with_reducible refine HS.out.mono ?_); rintro e w1 ⟨rfl, hB⟩; replace hc0 := cell_later hB hc0; replace hc1 := cell_later hB hc1))
      go_ret2
      unfold ChkPost
      rw [if_neg (by rw [HF.out]; simp [e1])]
      exact ⟨rfl, hB⟩
  · have h1 := byte_ne e0
    have h2 := byte_ne' e0
    go_enter Tryd.func54, Tryd.ntmps54
    go_wp2_with (first
        | (go_at_call 49; (with_reducible refine HS.out.mono ?_); rintro e w1 ⟨rfl, hB⟩; replace hc0 := cell_later hB hc0; replace hc1 := cell_later hB hc1))
    go_ret2
    unfold ChkPost
    rw [if_neg (by rw [HF.out]; simp [e0])]
    exact ⟨rfl, hB⟩

theorem fcs_len (l : List UInt8) : (fcs l).length = 2 := rfl
theorem check_ok (A : Option Addr) (b sl : List UInt8) (hsl : sl = b ++ fcs b) (c : Nat) (w : World) (hA : RdB w A sl) (hc : sl.length ≤ c) (hl : sl.length ≤ 140737488351232) :
    Calls Tryd.prog 54 #[.slice A sl.length c] w fun e w' => ∃ A', e = .returned (.tuple #[.slice A' b.length b.length, .int .i64 0]) ∧ RowB w' w.heap.size A' b.length b ∧ Below w.heap.size w w' := by
  have hn : sl.length = b.length + 2 := by rw [hsl, List.length_append, fcs_len]
  have ht : sl.take b.length = b := by rw [hsl, List.take_left]
  obtain ⟨b0, b1, hf⟩ : ∃ b0 b1, fcs b = [b0, b1] := ⟨_, _, rfl⟩
  have h := check_core A sl b.length c w hA hn hc hl b0 b1 (by rw [hsl, List.getElem?_append_right (Nat.le_refl _), hf]; simp) (by rw [hsl, List.getElem?_append_right (by omega), hf]; simp)
  rw [hn]
  refine h.mono ?_
  rintro e w' ⟨h1, h2⟩
  rw [ht, if_pos hf.symm] at h1
  obtain ⟨A', he, hR⟩ := h1
  exact ⟨A', he, hR, h2⟩
end Go.Proofs.YthbbmpelldglmaaDoor
